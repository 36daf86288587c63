/-
Contracts and plain reckonings behind the law GunEncloses, part 3 of 8 (each under the conditions in its statement).
-/
import Derived.Test.YtndlfijfjglkdaaGreatDoorRb
import Derived.Test.YtndlfijfjglkdaaGreatDoorRa
namespace Go.Proofs.YtndlfijfjglkdaaGreatDoor
open Go Go.Ab Go.Proofs
theorem pulse256 {v s i : Int} (hv : 1 ≤ v ∧ v ≤ 64) : -256 ≤ pulseV v s i ∧ pulseV v s i ≤ 256 := by
 have a4 : IntKind.i64.wrap (4 * v) = 4 * v := W_in (by omega) (by omega)
 have a2 : IntKind.i64.wrap (2 * v) = 2 * v := W_in (by omega) (by omega)
 have am2 : IntKind.i64.wrap (0 - 2 * v) = 0 - 2 * v := W_in (by omega) (by omega)
 unfold pulseV
 rw [a4, a2, am2]
 split
 · omega
 · split
   · omega
   · split
     · omega
     · split <;> omega
theorem addAll_get {l : List Int} {b v s : Int} (hv : 1 ≤ v ∧ v ≤ 64) (hs : 0 ≤ s ∧ s ≤ 4) (hb : 0 ≤ b ∧ b ≤ 4096) {j : Nat} (hj : j < l.length) {x : Int} (hx : l[j]? = some x) (hxb : -100000 ≤ x ∧ x ≤ 100000) : (addAll l b v s)[j]? = some (x + pulseV v s (j - b)) := by
 obtain ⟨hp, hp1, hp2⟩ := period_bounds hv hs
 have hq : IntKind.i64.wrap ((periodV v s).tdiv 2) = periodV v s / 2 := by rw [Int.tdiv_eq_ediv_of_nonneg (by omega), W_in (by omega) (by omega)]
 have h2p : IntKind.i64.wrap (2 * periodV v s) = 2 * periodV v s := W_in (by omega) (by omega)
 have a4 : IntKind.i64.wrap (4 * v) = 4 * v := W_in (by omega) (by omega)
 have a2 : IntKind.i64.wrap (2 * v) = 2 * v := W_in (by omega) (by omega)
 have am : IntKind.i64.wrap (-2 * v) = -2 * v := W_in (by omega) (by omega)
 have am2 : IntKind.i64.wrap (0 - 2 * v) = 0 - 2 * v := W_in (by omega) (by omega)
 unfold addAll
 rw [addAt_get (by omega) (by simpa using hj), addAt_get (by omega) (by simpa using hj), addAt_get (by omega) (by simpa using hj), addAt_get (by omega) hj, hx]
 unfold pulseV
 rw [hq, h2p, a4, a2, am, am2]
 generalize periodV v s = p at *
 have wr : ∀ y : Int, -200000 ≤ y → y ≤ 200000 → IntKind.i64.wrap y = y := fun y h1 h2 => W_in (by omega) (by omega)
 by_cases c0 : (j : Int) - b = 0
 · rw [if_pos c0, if_neg (by omega), if_neg (by omega), if_neg (by omega), if_pos (by omega)]; simp only [Option.getD_some]; rw [wr _ (by omega) (by omega)]
 · rw [if_neg c0]
   by_cases c1 : (j : Int) - b = p / 2
   · rw [if_pos c1, if_neg (by omega), if_neg (by omega), if_pos (by omega), if_neg (by omega)]; simp only [Option.getD_some]; rw [wr _ (by omega) (by omega)]; congr 1; omega
   · rw [if_neg c1]
     by_cases c2 : (j : Int) - b = p
     · rw [if_pos c2, if_neg (by omega), if_pos (by omega), if_neg (by omega), if_neg (by omega)]; simp only [Option.getD_some]; rw [wr _ (by omega) (by omega)]
     · rw [if_neg c2]
       by_cases c3 : (j : Int) - b = 2 * p
       · rw [if_pos c3, if_pos (by omega), if_neg (by omega), if_neg (by omega), if_neg (by omega)]; simp only [Option.getD_some]; rw [wr _ (by omega) (by omega)]
       · rw [if_neg c3, if_neg (by omega), if_neg (by omega), if_neg (by omega), if_neg (by omega)]; simp
def sumP (l : List Gun) (sh : List Int) (d : ByteArray) (j : Int) : Nat → Int
 | 0 => 0
 | i + 1 => sumP l sh d j i + pulseV (vAt l i) (sh.getD i 0) (j - (arrL d l).getD i 0)
theorem vAt_at {l : List Gun} {i : Nat} (h : i < l.length) : vAt l i = l[i].v := by
 unfold vAt
 rw [List.getElem?_eq_getElem h]
theorem getD_at {l : List Int} {i : Nat} (h : i < l.length) : l.getD i 0 = l[i] := by
 rw [List.getD_eq_getElem?_getD, List.getElem?_eq_getElem h]; rfl
theorem sum_bound {l : List Gun} {sh : List Int} (hst : strE l = 0) (d : ByteArray) (j : Int) : ∀ i, i ≤ l.length → -(256 * (i : Int)) ≤ sumP l sh d j i ∧ sumP l sh d j i ≤ 256 * (i : Int)
 | 0, _ => by simp [sumP]
 | i + 1, h => by
   have ih := sum_bound (sh := sh) hst d j i (by omega)
   obtain ⟨hv, _⟩ := gun_nums hst l[i] (List.getElem_mem (by omega))
   have hp := pulse256 (s := sh.getD i 0) (i := j - (arrL d l).getD i 0) hv
   rw [sumP, vAt_at (by omega)]
   omega
theorem sigN_get {l : List Gun} {sh : List Int} (hst : strE l = 0) (hsh : shE l sh = 0) (d : ByteArray) {W j : Nat} (hj : j < W) : ∀ i, i ≤ l.length → (sigN l sh d W i)[j]? = some (sumP l sh d j i)
 | 0, _ => by simp [sigN, sumP, zeros, hj]
 | i + 1, h => by
   have ih := sigN_get hst hsh d hj i (by omega)
   obtain ⟨hse, hsb⟩ := shE_zero hsh
   obtain ⟨hv, _, _, _, hlo, hhi⟩ := gun_nums hst l[i] (List.getElem_mem (by omega))
   have hb := sum_bound (sh := sh) hst d j i (by omega)
   have h8 := (strE_len hst).2
   have hia : i < (arrL d l).length := by rw [arrL_length]; omega
   have ha := arrL_bounds hst d _ (List.getElem_mem hia)
   have hsi := hsb i (by omega) (by omega)
   rw [sigN, sumP, vAt_at (by omega), getD_at hia, getD_at (l := sh) (by omega)]
   exact addAll_get hv (by omega) (by omega) (by simpa using hj) ih (by omega)
theorem sig_samp {l : List Gun} {sh : List Int} (hst : strE l = 0) (hsh : shE l sh = 0) (d : ByteArray) {w : Int} (hw : 1 ≤ w ∧ w ≤ 64) : sampAll (sigN l sh d w.toNat l.length) := by
 refine ⟨fun e => by have := congrArg List.length e; simp at this; omega, by simp; omega, fun x hx => ?_⟩
 obtain ⟨j, hj, rfl⟩ := List.getElem_of_mem hx
 have h1 := sigN_get hst hsh d (W := w.toNat) (j := j) (by simpa using hj) l.length (Nat.le_refl _)
 rw [List.getElem?_eq_getElem hj] at h1
 injection h1 with h1
 have h8 := (strE_len hst).2
 have := sum_bound (sh := sh) hst d j l.length (Nat.le_refl _)
 rw [h1]
 omega
def sigE (l : List Gun) (sh : List Int) (d : ByteArray) (w : Int) : Int := if strE l = 0 then firstV [shE l sh, dirE d, withinV w 1 64] else strE l
theorem sigE_zero {l : List Gun} {sh : List Int} {d : ByteArray} {w : Int} (h : sigE l sh d w = 0) : strE l = 0 ∧ shE l sh = 0 ∧ hasW d dirs = true ∧ 1 ≤ w ∧ w ≤ 64 := by
 unfold sigE at h
 split at h
 · rename_i hst
   have hz := (firstV_zero _).1 h
   exact ⟨hst, hz _ (by simp), dirE_zero (hz _ (by simp)), (withinV_zero _ _ _).1 (hz (withinV w 1 64) (by simp))⟩
 · rename_i h2; exact absurd h h2
def sgQ (k : Nat) (l : List Gun) (sh : List Int) (d : ByteArray) (w : Int) (u : Value) (H : Heap) : Prop := if sigE l sh d w = 0 then ∃ m, u = .tuple #[.slice (some ⟨m, 0, some 0⟩) w.toNat 0, iv 0] ∧ hget H m = some (.ext (((sigN l sh d w.toNat l.length).map sampB).map fv) 98 1) ∧ k ≤ m else u = .tuple #[.slice none 0 0, iv (sigE l sh d w)]
abbrev H41 (l : List Gun) (sh : List Int) (o2 : Nat) : Heap := [(11, .inp o2 (sh.map iv)), (10, .row (gcs l) 7), (0, .inp 0 names0)]
set_option maxRecDepth 100000 in
theorem w41 (l : List Gun) (sh : List Int) (d : ByteArray) (w : Int) (o2 c2 : Nat) (hl : l.length < 2 ^ 63) (hs31 : sh.length < 2 ^ 31) : ∃ u H1 n1 H2, AC Tryz.prog 41 [rowV l.length, .slice (some ⟨11, o2, none⟩) sh.length c2, sv d, iv w] (H41 l sh o2) 12 u H1 n1 ∧ sgQ 12 l sh d w u H2 ∧ (af u = false → H1 = H2) := by
 have hr := recT_ok (P := Tryz.prog) (l := [(31, g31), (132, g132), (115, g115), (127, g1 fun a => withinV a 1 64), (113, g113), (133, g133), (129, g129)]) (by simp only [List.forall_mem_cons]; exact ⟨ok31, ok132, ok115, ok127, ok113, ok133, ok129, by simp⟩)
 have hrow : ∀ G : Heap, hget G 10 = some (.row (gcs l) 7) → rowGuns G 10 l.length = some l := fun G hG => by
   unfold rowGuns rowOf
   rw [hG]
   simp [gunsOf_gcs, show l.length < 9223372036854775808 by omega]
 have hin : ∀ G : Heap, hget G 11 = some (.inp o2 (sh.map iv)) → intsAt G ⟨11, o2, none⟩ sh.length = some sh := fun G hG => by
   unfold intsAt
   simp [hG, List.take_of_length_le, intsOf_iv, show sh.length < 2147483648 by omega]
 refine AC.out Tryz.func41 rfl (by kernel_rfl) rfl [] ?_
 refine E.seq ?_
 refine E.reg hr (by simp; rfl) ?_
 refine E.seq ?_
 refine E.seq ?_
 refine E.reg hr (by simp [g31, rowOf, gunsOf_gcs, hl]; rfl) ?_
 refine E.seq ?_
 refine E.reg hr (by simp; rfl) ?_
 refine E.cond (by rfl) (fun h => ?_) (fun h => ?_)
 · simp at h
   refine E.seq ?_
   refine E.reg hr (by simp; rfl) ?_
   refine E.ret ?_
   refine outK.ret rfl rfl ?_
   simp [sgQ, sigE, h]
 simp at h
 obtain ⟨h1, h8⟩ := strE_len h
 refine E.skip ?_
 refine E.seq ?_
 refine E.seq ?_
 refine E.reg hr (by simp [g132, hrow, intsW, hin, h1, h8, g115, g113]; rfl) ?_
 refine E.seq ?_
 refine E.reg hr (by simp; rfl) ?_
 have hE : sigE l sh d w = firstV [shE l sh, dirE d, withinV w 1 64] := by simp [sigE, h]
 refine E.cond (by rfl) (fun h2 => ?_) (fun h2 => ?_)
 · simp at h2
   refine E.seq ?_
   refine E.reg hr (by simp; rfl) ?_
   refine E.ret ?_
   refine outK.ret rfl rfl ?_
   simp [sgQ, hE, h2]
 · simp at h2
   obtain ⟨_, hsh, hd, hw⟩ := sigE_zero (hE.trans h2)
   have hsa := sig_samp h hsh d hw
   obtain ⟨r, hrr⟩ : ∃ r, r = sigN l sh d w.toNat l.length := ⟨_, rfl⟩
   have hrl : r.length = w.toNat := by rw [hrr]; simp
   rw [← hrr] at hsa
   have hne := hsa.1
   have hir : ∀ (G : Heap) (b : Nat), hget G b = some (.cells (r.map iv) 3) → intsAt G ⟨b, 0, none⟩ w.toNat = some r := fun G b hG => by
     unfold intsAt
     simp [hG, List.take_of_length_le, hrl, intsOf_iv, show w.toNat < 2147483648 by omega]
   refine E.skip ?_
   refine E.seq ?_
   refine E.reg hr (by simp [g133, hrow, hin, h, hd, hsh, hw, ← hrr, g129, hir, hsa, gFlts, hne]; rfl) ?_
   refine E.ret ?_
   refine outK.ret rfl rfl ?_
   have he0 : sigE l sh d w = 0 := hE.trans h2
   unfold sgQ
   rw [if_pos he0]
   exact ⟨_, by simp [hrl]; rfl, by simp [hrr], by omega⟩
set_option maxRecDepth 100000 in
theorem w41n (sh : List Int) (d : ByteArray) (w : Int) (o2 c2 : Nat) : AC Tryz.prog 41 [nilV, .slice (some ⟨10, o2, none⟩) sh.length c2, sv d, iv w] [(10, .inp o2 (sh.map iv)), (0, .inp 0 names0)] 11 (.tuple #[.slice none 0 0, iv 12]) [(10, .inp o2 (sh.map iv)), (0, .inp 0 names0)] 11 := by
 have hr := recT_ok (P := Tryz.prog) (l := [(31, g31)]) (by simp only [List.forall_mem_cons]; exact ⟨ok31, by simp⟩)
 refine AC.pure Tryz.func41 rfl (by kernel_rfl) rfl [] rfl ?_
 refine E.seq ?_
 refine E.reg hr (by simp; rfl) ?_
 refine E.seq ?_
 refine E.seq ?_
 refine E.reg hr (by simp [g31, strE]; rfl) ?_
 refine E.seq ?_
 refine E.reg hr (by simp; rfl) ?_
 refine E.cond (by rfl) (fun h => ?_) (fun h => ?_)
 rotate_left
 · simp at h
 refine E.seq ?_
 refine E.reg hr (by simp; rfl) ?_
 refine E.ret ?_
 exact pureK.ret rfl rfl (by simp) (by repeat first | exact sub_refl _ | refine sub_cons rfl ?_)
def gSig (l : List Gun) (sh : List Int) (d : ByteArray) (w : Int) (H : Heap) (n : Nat) : R := if sigE l sh d w = 0 then some (.tuple #[.slice (some ⟨n, 0, some 0⟩) w.toNat 0, iv 0], (n, .ext (((sigN l sh d w.toNat l.length).map sampB).map fv) 98 1) :: H, n + 1) else some (.tuple #[.slice none 0 0, iv (sigE l sh d w)], H, n)
open Classical in
noncomputable def g41 (args : List Value) (H : Heap) (n : Nat) : R := match args with
 | [v, .slice (some a) slen _, .string d, .int .i64 w] => match strR H v, intsAt H a slen with
   | some l, some sh => if hget H 0 = some (.inp 0 names0) then gSig l sh d w H n else none
   | _, _ => none
 | _ => none
theorem sigE_nil (sh : List Int) (d : ByteArray) (w : Int) : sigE [] sh d w = 12 := by simp [sigE, strE]
theorem names_tx (l c : Nat) (e : Int) : Names1 fun m => .tuple #[.slice (some ⟨m, 0, some 0⟩) l c, iv e] := ⟨fun φ ψ m n h1 h2 => by simp [den, denL, h1, h2], fun p n h => by simp [sc, scL, h]⟩
theorem ok41 : EntOk Tryz.prog (41, g41) := by
 intro args H n v H' n' h'
 simp only [g41] at h'
 split at h'
 · rename_i v0 a slen cap0 d w
   split at h'
   · rename_i l sh hg ht
     split at h'
     · rename_i h0
       obtain ⟨hf, hc, hlen, hs31⟩ := intsAt_ok ht
       subst hlen
       unfold strR at hg
       split at hg
       · injection hg with hg; subst hg
         unfold gSig at h'
         rw [sigE_nil, if_neg (by decide)] at h'
         injection h' with h'; injection h' with e1 e2; injection e2 with e2 e3; subst e1 e2 e3
         exact AC.liftP rfl (Part.one (fun x => [nilV, x, sv _, iv _]) (by intro φ φ0 s s0 h; simp [denL, den, h]) (by intro p s h; exact ⟨⟨trivial, trivial⟩, h, trivial, trivial, trivial⟩) hf hc (afL_iv sh) [(0, .inp 0 names0)] (seen0 h0) gsz fun c => ⟨_, _, w41n sh _ _ _ c⟩)
       · split at hg
         · rename_i l' hg'
           split at hg
           · injection hg with hg; subst hg
             obtain ⟨hb, rfl, hlt⟩ := rowGuns_ok hg'
             have hp := fun R hR => Part.rowOneG (P := Tryz.prog) (H := H) (n := n) (R := R) (fun x y => [.agg ⟨[x]⟩, y, sv d, iv w]) (by intro φ φ0 s s0 u u0 h h2; simp [denL, den, h, h2]) (by intro p s u h h2; exact ⟨⟨h, trivial⟩, h2, trivial, trivial, trivial⟩) hb (afL_gcs l') (len := l'.length) (skip := 0) (len2 := sh.length) (cap2 := cap0) hf hc (afL_iv sh) [(0, .inp 0 names0)] (seen0 h0) gsz hR
             unfold gSig at h'
             split at h'
             · rename_i he
               injection h' with h'; injection h' with e1 e2; injection e2 with e2 e3; subst e1 e2 e3
               refine AC.liftF (names_tx _ _ _) (.inr ⟨_, _, _, rfl, afL_fv _⟩) (hp _ fun c2 => ?_)
               obtain ⟨u, H1, n1, H2, hAC, hq, hh⟩ := w41 l' sh _ _ _ c2 hlt hs31
               unfold sgQ at hq
               rw [if_pos he] at hq
               obtain ⟨m, hu, hm, hle⟩ := hq
               subst hu
               have := hh (by simp)
               subst this
               exact ⟨m, _, _, hle, hm, hAC⟩
             · rename_i he
               injection h' with h'; injection h' with e1 e2; injection e2 with e2 e3; subst e1 e2 e3
               refine AC.liftP rfl (hp _ fun c2 => ?_)
               obtain ⟨u, H1, n1, H2, hAC, hq, _⟩ := w41 l' sh _ _ _ c2 hlt hs31
               unfold sgQ at hq
               rw [if_neg he] at hq
               subst hq
               exact ⟨_, _, hAC⟩
           · cases hg
         · cases hg
       · cases hg
     · cases h'
   · cases h'
 · cases h'
end Go.Proofs.YtndlfijfjglkdaaGreatDoor

namespace Go.Proofs.YtndlfijfjglkdaaGreatDoor
open Go Go.Ab Go.Proofs
abbrev bv (n : Int) : Value := .int .u8 n
@[simp] theorem renL_bv (ρ : Nat → Nat) (l : List Int) : renL ρ (l.map bv) = l.map bv := by rw [renL_eq, List.map_map]; rfl
@[simp] theorem afL_bv : ∀ l : List Int, afL (l.map bv) = true
 | [] => rfl
 | _ :: l => by simp [afL_bv l]
@[simp] theorem scL_bv (p : Nat → Prop) (l : List Int) : scL p (l.map bv) := scL_af p _ (afL_bv l)
theorem cv53 (n : Int) : runP Tryz.prog (convert 5 3 (.int .u8 n)) = some (.int .i64 (IntKind.i64.wrap n)) := by kernel_rfl
end Go.Proofs.YtndlfijfjglkdaaGreatDoor

namespace Go.Proofs.YtndlfijfjglkdaaGreatDoor
open Go Go.Ab Go.Proofs
theorem dirs_length : dirs.length = 5 := rfl
def dN (n : Int) : ByteArray := dirs.getD (n.toNat % 5) ⟨#[]⟩
theorem w53 (n : Int) (hn : 0 ≤ n ∧ n ≤ 255) : AC Tryz.prog 53 [bv n] [] 10 (sv (dN n)) [] 10 := by
 have hr := recT_ok (P := Tryz.prog) (l := [(119, g119)]) (by simp only [List.forall_mem_cons]; exact ⟨ok119, by simp⟩)
 have hwn : IntKind.i64.wrap n = n := W_in (by omega) (by omega)
 have hmod : n.tmod 5 = ((n.toNat % 5 : Nat) : Int) := by
   rw [Int.tmod_eq_emod_of_nonneg hn.1]; omega
 have hj : n.toNat % 5 < 5 := Nat.mod_lt _ (by omega)
 obtain ⟨j, hje⟩ : ∃ j, j = n.toNat % 5 := ⟨_, rfl⟩
 rw [← hje] at hmod hj
 have hjI : (j : Int) < 5 := by omega
 have hjd : j < dirs.length := hj
 refine AC.pure Tryz.func53 rfl (by kernel_rfl) rfl [] rfl ?_
 refine E.seq ?_
 refine E.reg hr (by simp; rfl) ?_
 refine E.seq ?_
 refine E.reg hr (by simp [g119, opConvert, cv53, hwn, bin_rem (show (5 : Int) ≠ 0 by decide), hmod, hj, hjI, dirs_length]; rfl) ?_
 refine E.ret ?_
 exact pureK.ret rfl rfl (by simp [dN, ← hje, hjd]) (by repeat first | exact sub_refl _ | refine sub_cons rfl ?_)
def g53 (args : List Value) (H : Heap) (n : Nat) : R := match args with
 | [.int .u8 k] => if 0 ≤ k ∧ k ≤ 255 then some (sv (dN k), H, n) else none
 | _ => none
theorem ok53 : EntOk Tryz.prog (53, g53) := by
 intro args H n v H' n' h'
 simp only [g53] at h'
 split at h'
 · split at h'
   · rename_i hk
     injection h' with h'; injection h' with e1 e2; injection e2 with e2 e3; subst e1 e2 e3
     exact AC.liftP rfl (Part.plain (by simp) [] (by simp [Seen]) gsz ⟨_, _, w53 _ hk⟩)
   · cases h'
 · cases h'
theorem dN_dir (n : Int) : hasW (dN n) dirs = true := by
 have hj : n.toNat % 5 < dirs.length := Nat.mod_lt _ (by omega)
 unfold dN
 rw [List.getD_eq_getElem?_getD, List.getElem?_eq_getElem hj, Option.getD_some]
 exact hasW_iff.2 (List.getElem_mem hj)
def kAt (ns : List Int) (i : Nat) : Int := (ns[i]?).getD 0
def shF (l : List Gun) (ns : List Int) (i : Nat) : Int := match l[i]? with
 | some g => g.lo + (kAt ns i).tmod (g.hi - g.lo + 1)
 | none => 0
def shL (l : List Gun) (ns : List Int) : List Int := rl (shF l ns) l.length
theorem gun_order {l : List Gun} (h : strE l = 0) : ∀ g ∈ l, g.lo ≤ g.hi := by
 intro g hg
 obtain ⟨i, hi, rfl⟩ := List.getElem_of_mem hg
 have hl := strE_len h
 unfold strE at h
 rw [if_neg (by omega), if_neg (by omega)] at h
 have hc := (firstV_zero _).1 h (gunChk l i) (List.mem_map.2 ⟨i, by simpa using hi, rfl⟩)
 rw [gunChk_at hi] at hc
 have h2 := (firstV_zero _).1 hc l[i].err (by simp)
 unfold Gun.err at h2
 have h3 := (firstV_zero _).1 h2 (if l[i].hi < l[i].lo then 11 else 0) (by simp)
 split at h3
 · cases h3
 · omega
theorem kAt_bound {ns : List Int} (hns : ∀ x ∈ ns, 0 ≤ x ∧ x ≤ 255) (i : Nat) : 0 ≤ kAt ns i ∧ kAt ns i ≤ 255 := by
 unfold kAt
 cases h : ns[i]? with
 | none => simp
 | some x => exact hns x (List.mem_of_getElem? h)
theorem shF_bound {l : List Gun} (hst : strE l = 0) {ns : List Int} (hns : ∀ x ∈ ns, 0 ≤ x ∧ x ≤ 255) {i : Nat} (hi : i < l.length) : shF l ns i = l[i].lo + (kAt ns i).tmod (l[i].hi - l[i].lo + 1) ∧ 0 ≤ (kAt ns i).tmod (l[i].hi - l[i].lo + 1) ∧ (kAt ns i).tmod (l[i].hi - l[i].lo + 1) ≤ l[i].hi - l[i].lo := by
 have hk := kAt_bound hns i
 have ho := gun_order hst l[i] (List.getElem_mem hi)
 refine ⟨by unfold shF; rw [List.getElem?_eq_getElem hi], ?_, ?_⟩
 · rw [Int.tmod_eq_emod_of_nonneg hk.1]; exact Int.emod_nonneg _ (by omega)
 · rw [Int.tmod_eq_emod_of_nonneg hk.1]
   have := Int.emod_lt_of_pos (kAt ns i) (show 0 < l[i].hi - l[i].lo + 1 by omega)
   omega
theorem shL_ok {l : List Gun} (hst : strE l = 0) {ns : List Int} (hns : ∀ x ∈ ns, 0 ≤ x ∧ x ≤ 255) : shE l (shL l ns) = 0 := by
 have hlen : (shL l ns).length = l.length := by simp [shL]
 refine shE_ok hlen fun j hj => ?_
 rw [shC_at hj (by omega)]
 have h := shF_bound hst hns hj
 rw [withinV_zero]
 simp only [shL, rl_getElem]
 rw [h.1]
 omega
def S54n (l : List Gun) (o c : Nat) : Nat → St
 | 0 => { fr := [(1, .slice none 0 0), (5, .slice none 0 0), (10, .slice (some ⟨10, o, none⟩) l.length c), (11, iv l.length), (12, iv 0)], sz := 45, H := (11, .cells [.slice (some ⟨10, o, none⟩) l.length c] 24) :: [(10, .inp o (gcs l))], n := 12, marks := [], vs := [1, 5, 10, 11, 12] }
 | i + 1 => { fr := [(1, .slice none 0 0), (5, .slice (some ⟨12, 0, some 0⟩) (i + 1) 0), (10, .slice (some ⟨10, o, none⟩) l.length c), (11, iv l.length), (12, iv (i + 1 : Nat))], sz := 45, H := (12, .ext ((rl (shF l ([] : List Int)) (i + 1)).map iv) 3 1) :: (11, .cells [.slice (some ⟨10, o, none⟩) l.length c] 24) :: [(10, .inp o (gcs l))], n := 13, marks := [], vs := [1, 5, 10, 11, 12] }
set_option maxRecDepth 100000 in
theorem w54n (l : List Gun) (o c : Nat) (hst : strE l = 0) : ∃ u H1 n1 H2, AC Tryz.prog 54 [strV o l.length c, .slice none 0 0] [(10, .inp o (gcs l))] 11 u H1 n1 ∧ intQ 11 (shL l ([] : List Int)) u H2 ∧ (af u = false → H1 = H2) := by
 have hr := recT_ok (P := Tryz.prog) (l := []) (by simp)
 obtain ⟨h1, h8⟩ := strE_len hst
 have hpos : 0 < l.length := h1
 refine AC.out Tryz.func54 rfl (by kernel_rfl) rfl [1, 5, 10, 11, 12] ?_
 refine E.seq ?_
 refine E.reg hr (by simp; rfl) ?_
 refine E.seq ?_
 refine E.reg hr (by simp; rfl) ?_
 refine E.seq ?_
 refine E.seq ?_
 refine E.reg hr (by simp; rfl) ?_
 refine E.block ?_
 refine E.loop ?_
 refine EL.ind (S54n l o c) (fun i => l.length - i) (fun i => i ≤ l.length) 0 (.less rfl rfl rfl (by simp [S54n]) (by simp [S54n])) (Nat.zero_le _) (fun i => by cases i <;> rfl) ?_
 intro i hi
 rcases i with _ | i
 · have hw : IntKind.i64.wrap 1 = 1 := W_in (by omega) (by omega)
   refine E.seq ?_
   refine E.reg hr (by simp [S54n]; rfl) ?_
   refine E.seq ?_
   refine E.cond (by rfl) (fun h => ?_) (fun h => ?_)
   · simp at h
     have hlt := hpos
     have hx := gcs_take hpos
     have h7 : 7 ≤ l.length * 7 := by omega
     rw [Nat.zero_mul, List.drop_zero] at hx
     obtain ⟨e1, e2, e3⟩ := shF_bound hst (ns := []) (by simp) hlt
     obtain ⟨_, _, _, _, hlo, hhi⟩ := gun_nums hst l[0] (List.getElem_mem hlt)
     have ho := gun_order hst l[0] (List.getElem_mem hlt)
     have q1 : IntKind.i64.wrap (l[0].hi - l[0].lo) = l[0].hi - l[0].lo := W_in (by omega) (by omega)
     have q2 : IntKind.i64.wrap (l[0].hi - l[0].lo + 1) = l[0].hi - l[0].lo + 1 := W_in (by omega) (by omega)
     have q3 : l[0].hi - l[0].lo + 1 ≠ 0 := by omega
     have q4 : IntKind.i64.wrap (l[0].lo + (kAt ([] : List Int) (0)).tmod (l[0].hi - l[0].lo + 1)) = shF l ([] : List Int) (0) := by rw [e1]; exact W_in (by omega) (by omega)
     have hts : (rl (shF l ([] : List Int)) 1).map iv = [iv (shF l ([] : List Int) 0)] := rfl
     refine E.skip ?_
     refine E.seq ?_
     refine E.block ?_
     refine E.seq ?_
     refine E.reg hr (by simp [hx, hpos, h7]; rfl) ?_
     refine E.seq ?_
     refine E.reg hr (by simp; rfl) ?_
     refine E.seq ?_
     refine E.seq ?_
     refine E.reg hr (by simp; rfl) ?_
     refine E.cond (by rfl) (fun h2 => ?_) (fun h2 => ?_)
     · simp at h2
     refine E.skip ?_
     rw [show kAt ([] : List Int) (0) = 0 by simp [kAt], Int.zero_tmod, Int.add_zero] at q4
     refine E.drawC mixed hr [15, 16] [15, 16] [3, 7, 10, 15, 16] (by kernel_rfl) (by simp [q1, q2, bin_rem q3, q4]; rfl) ?_
     refine E.reg hr (by simp [hw]; rfl) ?_
     exact ⟨1, Leads.ren [11, 14] rfl rfl rfl ⟨rfl, rfl⟩ (by simp [S54n]) (by simp [S54n, hts]), by omega, by dsimp only; omega⟩
   · simp at h
     simp [h] at h1
 · have hw : IntKind.i64.wrap ((i : Int) + 1 + 1) = (i : Int) + 1 + 1 := W_in (by omega) (by omega)
   have ht : List.take (i + 1) ((rl (shF l ([] : List Int)) (i + 1)).map iv) = (rl (shF l ([] : List Int)) (i + 1)).map iv := List.take_of_length_le (by simp)
   refine E.seq ?_
   refine E.reg hr (by simp [S54n]; rfl) ?_
   refine E.seq ?_
   refine E.cond (by rfl) (fun h => ?_) (fun h => ?_)
   · simp at h
     have hlt : i + 1 < l.length := by omega
     have hltI : (i : Int) + 1 < l.length := by omega
     have hx := gcs_take hlt
     have h7 : (i + 1) * 7 + 7 ≤ l.length * 7 := by omega
     have hsm : (i + 1 + 1) * 8 ≤ 1099511627776 ∧ i + 1 + 1 ≤ 1099511627776 := by omega
     obtain ⟨e1, e2, e3⟩ := shF_bound hst (ns := []) (by simp) hlt
     obtain ⟨_, _, _, _, hlo, hhi⟩ := gun_nums hst l[i + 1] (List.getElem_mem hlt)
     have ho := gun_order hst l[i + 1] (List.getElem_mem hlt)
     have q1 : IntKind.i64.wrap (l[i + 1].hi - l[i + 1].lo) = l[i + 1].hi - l[i + 1].lo := W_in (by omega) (by omega)
     have q2 : IntKind.i64.wrap (l[i + 1].hi - l[i + 1].lo + 1) = l[i + 1].hi - l[i + 1].lo + 1 := W_in (by omega) (by omega)
     have q3 : l[i + 1].hi - l[i + 1].lo + 1 ≠ 0 := by omega
     have q4 : IntKind.i64.wrap (l[i + 1].lo + (kAt ([] : List Int) (i + 1)).tmod (l[i + 1].hi - l[i + 1].lo + 1)) = shF l ([] : List Int) (i + 1) := by rw [e1]; exact W_in (by omega) (by omega)
     have hts : (rl (shF l ([] : List Int)) (i + 1 + 1)).map iv = (rl (shF l ([] : List Int)) (i + 1)).map iv ++ [iv (shF l ([] : List Int) (i + 1))] := by rw [rl_succ, List.map_append]; rfl
     refine E.skip ?_
     refine E.seq ?_
     refine E.block ?_
     refine E.seq ?_
     refine E.reg hr (by simp [hx, hltI, h7]; rfl) ?_
     refine E.seq ?_
     refine E.reg hr (by simp; rfl) ?_
     refine E.seq ?_
     refine E.seq ?_
     refine E.reg hr (by simp; rfl) ?_
     refine E.cond (by rfl) (fun h2 => ?_) (fun h2 => ?_)
     · simp at h2; omega
     refine E.skip ?_
     rw [show kAt ([] : List Int) (i + 1) = 0 by simp [kAt], Int.zero_tmod, Int.add_zero] at q4
     refine E.drawC mixed hr [15, 16] [15, 16] [3, 7, 10, 15, 16] (by kernel_rfl) (by simp [q1, q2, bin_rem q3, q4, ht, hsm]; rfl) ?_
     refine E.reg hr (by simp [hw]; rfl) ?_
     exact ⟨i + 2, Leads.ren [11, 15] rfl rfl rfl ⟨rfl, rfl⟩ (by simp [S54n]) (by simp [S54n, hts]), by omega, by dsimp only; omega⟩
   · simp at h
     have hll : l.length = i + 1 := by omega
     refine E.exit ?_
     refine E.seq ?_
     refine E.reg hr (by simp; rfl) ?_
     refine E.ret ?_
     refine outK.ret rfl rfl ?_
     exact ⟨12, by simp [shL, hll], by simp [shL, hll], by omega⟩
def S54 (l : List Gun) (ns : List Int) (o c o2 c2 : Nat) : Nat → St
 | 0 => { fr := [(1, .slice (some ⟨11, o2, none⟩) ns.length c2), (5, .slice none 0 0), (10, .slice (some ⟨10, o, none⟩) l.length c), (11, iv l.length), (12, iv 0)], sz := 45, H := (12, .cells [.slice (some ⟨10, o, none⟩) l.length c] 24) :: [(11, .inp o2 (ns.map bv)), (10, .inp o (gcs l))], n := 13, marks := [], vs := [1, 5, 10, 11, 12] }
 | i + 1 => { fr := [(1, .slice (some ⟨11, o2, none⟩) ns.length c2), (5, .slice (some ⟨13, 0, some 0⟩) (i + 1) 0), (10, .slice (some ⟨10, o, none⟩) l.length c), (11, iv l.length), (12, iv (i + 1 : Nat))], sz := 45, H := (13, .ext ((rl (shF l ns) (i + 1)).map iv) 3 1) :: (12, .cells [.slice (some ⟨10, o, none⟩) l.length c] 24) :: [(11, .inp o2 (ns.map bv)), (10, .inp o (gcs l))], n := 14, marks := [], vs := [1, 5, 10, 11, 12] }
set_option maxRecDepth 100000 in
theorem w54 (l : List Gun) (ns : List Int) (o c o2 c2 : Nat) (hst : strE l = 0) (hns : ∀ x ∈ ns, 0 ≤ x ∧ x ≤ 255) (hnl : ns.length < 2 ^ 31) : ∃ u H1 n1 H2, AC Tryz.prog 54 [strV o l.length c, .slice (some ⟨11, o2, none⟩) ns.length c2] [(11, .inp o2 (ns.map bv)), (10, .inp o (gcs l))] 12 u H1 n1 ∧ intQ 12 (shL l ns) u H2 ∧ (af u = false → H1 = H2) := by
 have hr := recT_ok (P := Tryz.prog) (l := []) (by simp)
 obtain ⟨h1, h8⟩ := strE_len hst
 have hpos : 0 < l.length := h1
 refine AC.out Tryz.func54 rfl (by kernel_rfl) rfl [1, 5, 10, 11, 12] ?_
 refine E.seq ?_
 refine E.reg hr (by simp; rfl) ?_
 refine E.seq ?_
 refine E.reg hr (by simp; rfl) ?_
 refine E.seq ?_
 refine E.seq ?_
 refine E.reg hr (by simp; rfl) ?_
 refine E.block ?_
 refine E.loop ?_
 refine EL.ind (S54 l ns o c o2 c2) (fun i => l.length - i) (fun i => i ≤ l.length) 0 (.less rfl rfl rfl (by simp [S54]) (by simp [S54])) (Nat.zero_le _) (fun i => by cases i <;> rfl) ?_
 intro i hi
 rcases i with _ | i
 · have hw : IntKind.i64.wrap 1 = 1 := W_in (by omega) (by omega)
   refine E.seq ?_
   refine E.reg hr (by simp [S54]; rfl) ?_
   refine E.seq ?_
   refine E.cond (by rfl) (fun h => ?_) (fun h => ?_)
   · simp at h
     have hlt := hpos
     have hx := gcs_take hpos
     have h7 : 7 ≤ l.length * 7 := by omega
     rw [Nat.zero_mul, List.drop_zero] at hx
     obtain ⟨e1, e2, e3⟩ := shF_bound hst  hns hlt
     obtain ⟨_, _, _, _, hlo, hhi⟩ := gun_nums hst l[0] (List.getElem_mem hlt)
     have ho := gun_order hst l[0] (List.getElem_mem hlt)
     have q1 : IntKind.i64.wrap (l[0].hi - l[0].lo) = l[0].hi - l[0].lo := W_in (by omega) (by omega)
     have q2 : IntKind.i64.wrap (l[0].hi - l[0].lo + 1) = l[0].hi - l[0].lo + 1 := W_in (by omega) (by omega)
     have q3 : l[0].hi - l[0].lo + 1 ≠ 0 := by omega
     have q4 : IntKind.i64.wrap (l[0].lo + (kAt ns (0)).tmod (l[0].hi - l[0].lo + 1)) = shF l ns (0) := by rw [e1]; exact W_in (by omega) (by omega)
     have hts : (rl (shF l ns) 1).map iv = [iv (shF l ns 0)] := rfl
     refine E.skip ?_
     refine E.seq ?_
     refine E.block ?_
     refine E.seq ?_
     refine E.reg hr (by simp [hx, hpos, h7]; rfl) ?_
     refine E.seq ?_
     refine E.reg hr (by simp; rfl) ?_
     refine E.seq ?_
     refine E.seq ?_
     by_cases hk : 0 < ns.length
     · have hkI : (0 : Int) < ns.length := by omega
       have hke : kAt ns (0) = ns[0] := by unfold kAt; rw [List.getElem?_eq_getElem hk]; rfl
       have hkb := hns _ (List.getElem_mem hk)
       have hkw : IntKind.i64.wrap ns[0] = ns[0] := W_in (by omega) (by omega)
       rw [hke] at q4
       refine E.reg hr (by simp [hk]; rfl) ?_
       refine E.cond (by rfl) (fun h2 => ?_) (fun h2 => ?_)
       rotate_left
       · simp at h2
       refine E.reg hr (by simp [hk, opConvert, cv53, hkw]; rfl) ?_
       refine E.drawC mixed hr [15, 16] [15, 16] [3, 7, 10, 15, 16] (by kernel_rfl) (by simp [q1, q2, bin_rem q3, q4]; rfl) ?_
       refine E.reg hr (by simp [hw]; rfl) ?_
       exact ⟨1, Leads.ren [12, 15] rfl rfl rfl ⟨rfl, rfl⟩ (by simp [S54]) (by simp [S54, hts]), by omega, by dsimp only; omega⟩
     · have hkI : ¬ (0 : Int) < ns.length := by omega
       have hke : kAt ns (0) = 0 := by unfold kAt; rw [List.getElem?_eq_none (by omega)]; rfl
       rw [hke, Int.zero_tmod, Int.add_zero] at q4
       refine E.reg hr (by simp [hk]; rfl) ?_
       refine E.cond (by rfl) (fun h2 => ?_) (fun h2 => ?_)
       · simp at h2
       refine E.skip ?_
       refine E.drawC mixed hr [15, 16] [15, 16] [3, 7, 10, 15, 16] (by kernel_rfl) (by simp [q1, q2, bin_rem q3, q4]; rfl) ?_
       refine E.reg hr (by simp [hw]; rfl) ?_
       exact ⟨1, Leads.ren [12, 15] rfl rfl rfl ⟨rfl, rfl⟩ (by simp [S54]) (by simp [S54, hts]), by omega, by dsimp only; omega⟩
   · simp at h
     simp [h] at h1
 · have hw : IntKind.i64.wrap ((i : Int) + 1 + 1) = (i : Int) + 1 + 1 := W_in (by omega) (by omega)
   have ht : List.take (i + 1) ((rl (shF l ns) (i + 1)).map iv) = (rl (shF l ns) (i + 1)).map iv := List.take_of_length_le (by simp)
   refine E.seq ?_
   refine E.reg hr (by simp [S54]; rfl) ?_
   refine E.seq ?_
   refine E.cond (by rfl) (fun h => ?_) (fun h => ?_)
   · simp at h
     have hlt : i + 1 < l.length := by omega
     have hltI : (i : Int) + 1 < l.length := by omega
     have hx := gcs_take hlt
     have h7 : (i + 1) * 7 + 7 ≤ l.length * 7 := by omega
     have hsm : (i + 1 + 1) * 8 ≤ 1099511627776 ∧ i + 1 + 1 ≤ 1099511627776 := by omega
     obtain ⟨e1, e2, e3⟩ := shF_bound hst  hns hlt
     obtain ⟨_, _, _, _, hlo, hhi⟩ := gun_nums hst l[i + 1] (List.getElem_mem hlt)
     have ho := gun_order hst l[i + 1] (List.getElem_mem hlt)
     have q1 : IntKind.i64.wrap (l[i + 1].hi - l[i + 1].lo) = l[i + 1].hi - l[i + 1].lo := W_in (by omega) (by omega)
     have q2 : IntKind.i64.wrap (l[i + 1].hi - l[i + 1].lo + 1) = l[i + 1].hi - l[i + 1].lo + 1 := W_in (by omega) (by omega)
     have q3 : l[i + 1].hi - l[i + 1].lo + 1 ≠ 0 := by omega
     have q4 : IntKind.i64.wrap (l[i + 1].lo + (kAt ns (i + 1)).tmod (l[i + 1].hi - l[i + 1].lo + 1)) = shF l ns (i + 1) := by rw [e1]; exact W_in (by omega) (by omega)
     have hts : (rl (shF l ns) (i + 1 + 1)).map iv = (rl (shF l ns) (i + 1)).map iv ++ [iv (shF l ns (i + 1))] := by rw [rl_succ, List.map_append]; rfl
     refine E.skip ?_
     refine E.seq ?_
     refine E.block ?_
     refine E.seq ?_
     refine E.reg hr (by simp [hx, hltI, h7]; rfl) ?_
     refine E.seq ?_
     refine E.reg hr (by simp; rfl) ?_
     refine E.seq ?_
     refine E.seq ?_
     by_cases hk : i + 1 < ns.length
     · have hkI : (i : Int) + 1 < ns.length := by omega
       have hke : kAt ns (i + 1) = ns[i + 1] := by unfold kAt; rw [List.getElem?_eq_getElem hk]; rfl
       have hkb := hns _ (List.getElem_mem hk)
       have hkw : IntKind.i64.wrap ns[i + 1] = ns[i + 1] := W_in (by omega) (by omega)
       rw [hke] at q4
       refine E.reg hr (by simp [hkI]; rfl) ?_
       refine E.cond (by rfl) (fun h2 => ?_) (fun h2 => ?_)
       rotate_left
       · simp at h2
       refine E.reg hr (by simp [hk, hkI, opConvert, cv53, hkw]; rfl) ?_
       refine E.drawC mixed hr [15, 16] [15, 16] [3, 7, 10, 15, 16] (by kernel_rfl) (by simp [q1, q2, bin_rem q3, q4, ht, hsm]; rfl) ?_
       refine E.reg hr (by simp [hw]; rfl) ?_
       exact ⟨i + 2, Leads.ren [12, 16] rfl rfl rfl ⟨rfl, rfl⟩ (by simp [S54]) (by simp [S54, hts]), by omega, by dsimp only; omega⟩
     · have hkI : ¬ (i : Int) + 1 < ns.length := by omega
       have hke : kAt ns (i + 1) = 0 := by unfold kAt; rw [List.getElem?_eq_none (by omega)]; rfl
       rw [hke, Int.zero_tmod, Int.add_zero] at q4
       refine E.reg hr (by simp [hkI]; rfl) ?_
       refine E.cond (by rfl) (fun h2 => ?_) (fun h2 => ?_)
       · simp at h2
       refine E.skip ?_
       refine E.drawC mixed hr [15, 16] [15, 16] [3, 7, 10, 15, 16] (by kernel_rfl) (by simp [q1, q2, bin_rem q3, q4, ht, hsm]; rfl) ?_
       refine E.reg hr (by simp [hw]; rfl) ?_
       exact ⟨i + 2, Leads.ren [12, 16] rfl rfl rfl ⟨rfl, rfl⟩ (by simp [S54]) (by simp [S54, hts]), by omega, by dsimp only; omega⟩
   · simp at h
     have hll : l.length = i + 1 := by omega
     refine E.exit ?_
     refine E.seq ?_
     refine E.reg hr (by simp; rfl) ?_
     refine E.ret ?_
     refine outK.ret rfl rfl ?_
     exact ⟨13, by simp [shL, hll], by simp [shL, hll], by omega⟩
theorem names_u8 (l : List Int) : afL (l.map bv) = true := by
 induction l with
 | nil => rfl
 | cons a l ih => simp
end Go.Proofs.YtndlfijfjglkdaaGreatDoor

namespace Go.Proofs.YtndlfijfjglkdaaGreatDoor
open Go Go.Ab Go.Proofs
def u8Of : List Value → Option (List Int)
 | [] => some []
 | .int .u8 n :: vs => (u8Of vs).map (n :: ·)
 | _ => none
theorem u8Of_ok : ∀ (cs : List Value) (l : List Int), u8Of cs = some l → cs = l.map bv
 | [], l, h => by simp [u8Of] at h; subst h; rfl
 | c :: cs, l, h => by
   unfold u8Of at h
   split at h
   · rename_i h1; cases h1
   · rename_i n vs h1
     injection h1 with h1 h2; subst h1 h2
     rw [Option.map_eq_some_iff] at h
     obtain ⟨l', h2, h3⟩ := h
     subst h3
     rw [u8Of_ok _ _ h2]; rfl
   · cases h
theorem u8Of_bv : ∀ l : List Int, u8Of (l.map bv) = some l
 | [] => rfl
 | x :: l => by simp [u8Of, u8Of_bv l]
def u8W (H : Heap) : Value → Option (List Int)
 | .slice none 0 0 => some []
 | .slice (some a) len _ => if flat a && Nat.blt len 2147483648 then (cellsA H a.block a.off len).bind u8Of else none
 | _ => none
theorem u8At_ok {H : Heap} {a : Addr} {len : Nat} {l : List Int} (h : (if flat a && Nat.blt len 2147483648 then (cellsA H a.block a.off len).bind u8Of else none) = some l) : flat a = true ∧ cellsA H a.block a.off len = some (l.map bv) ∧ l.length = len ∧ l.length < 2 ^ 31 := by
 split at h
 · rename_i hf
   rw [Bool.and_eq_true] at hf
   rw [Option.bind_eq_some_iff] at h
   obtain ⟨cs, h1, h2⟩ := h
   have h3 := u8Of_ok _ _ h2
   subst h3
   have h4 := (cellsA_at h1).1
   rw [List.length_map] at h4
   exact ⟨hf.1, h1, h4, by have := (blt_iff _ _).1 hf.2; omega⟩
 · cases h
def g54 (args : List Value) (H : Heap) (n : Nat) : R := match args with
 | [v, t] => match strAt H v, u8W H t with
   | some l, some ns => if strE l = 0 ∧ ∀ x ∈ ns, 0 ≤ x ∧ x ≤ 255 then some (.slice (some ⟨n, 0, some 0⟩) (shL l ns).length 0, (n, .ext ((shL l ns).map iv) 3 1) :: H, n + 1) else none
   | _, _ => none
 | _ => none
theorem ok54 : EntOk Tryz.prog (54, g54) := by
 intro args H n v H' n' h'
 simp only [g54] at h'
 split at h'
 · split at h'
   · rename_i l ns hg ht
     split at h'
     · rename_i hc
       obtain ⟨hst, hns⟩ := hc
       have h1 := (strE_len hst).1
       injection h' with h'; injection h' with e1 e2; injection e2 with e2 e3; subst e1 e2 e3
       unfold strAt at hg
       split at hg
       · injection hg with hg; subst hg; simp at h1
       · obtain ⟨hf, hc, hlen, _⟩ := gunsAt_ok hg
         subst hlen
         unfold u8W at ht
         split at ht
         · injection ht with ht; subst ht
           refine AC.liftF (names_sx _ _) (.inr ⟨_, _, _, rfl, afL_iv _⟩) (Part.one (fun x => [.agg ⟨[x]⟩, .slice none 0 0]) (by intro φ φ0 s s0 h; simp [denL, den, h]) (by intro p s h; exact ⟨⟨h, trivial⟩, trivial, trivial⟩) hf hc (afL_gcs l) [] (by simp [Seen]) gsz fun c => ?_)
           obtain ⟨u, H1, n1, H2, hAC, ⟨m, hu, hm, hle⟩, hh⟩ := w54n l _ c hst
           subst hu
           have := hh (by simp)
           subst this
           exact ⟨m, _, _, hle, hm, hAC⟩
         · obtain ⟨hf2, hc2, hlen, h31⟩ := u8At_ok ht
           subst hlen
           refine AC.liftF (names_sx _ _) (.inr ⟨_, _, _, rfl, afL_iv _⟩) (Part.two (fun x y => [.agg ⟨[x]⟩, y]) (by intro φ φ0 s s0 u u0 h h2; simp [denL, den, h, h2]) (by intro p s u h h2; exact ⟨⟨h, trivial⟩, h2, trivial⟩) hf hc (afL_gcs l) hf2 hc2 (names_u8 ns) [] (by simp [Seen]) gsz fun c c2 => ?_)
           obtain ⟨u, H1, n1, H2, hAC, ⟨m, hu, hm, hle⟩, hh⟩ := w54 l ns _ c _ c2 hst hns h31
           subst hu
           have := hh (by simp)
           subst this
           exact ⟨m, _, _, hle, hm, hAC⟩
         · cases ht
       · cases hg
     · cases h'
   · cases h'
 · cases h'
theorem pulse_neg {v s i : Int} (hv : 1 ≤ v ∧ v ≤ 64) (hs : 0 ≤ s ∧ s ≤ 4) (hi : i < 0) : pulseV v s i = 0 := by
 obtain ⟨hp, hp1, hp2⟩ := period_bounds hv hs
 have hq : IntKind.i64.wrap ((periodV v s).tdiv 2) = periodV v s / 2 := by rw [Int.tdiv_eq_ediv_of_nonneg (by omega), W_in (by omega) (by omega)]
 have h2p : IntKind.i64.wrap (2 * periodV v s) = 2 * periodV v s := W_in (by omega) (by omega)
 unfold pulseV
 rw [hq, h2p, if_neg (by omega), if_neg (by omega), if_neg (by omega), if_neg (by omega)]
end Go.Proofs.YtndlfijfjglkdaaGreatDoor

namespace Go.Proofs.YtndlfijfjglkdaaGreatDoor
open Go Go.Ab Go.Proofs
end Go.Proofs.YtndlfijfjglkdaaGreatDoor

namespace Go.Proofs.YtndlfijfjglkdaaGreatDoor
open Go Go.Ab Go.Proofs
end Go.Proofs.YtndlfijfjglkdaaGreatDoor

namespace Go.Proofs.YtndlfijfjglkdaaGreatDoor
open Go Go.Ab Go.Proofs
end Go.Proofs.YtndlfijfjglkdaaGreatDoor

namespace Go.Proofs.YtndlfijfjglkdaaGreatDoor
open Go Go.Ab Go.Proofs
def pcs (l : List (Int × Int)) : List Value := l.flatMap fun p => [iv p.1, iv p.2]
theorem pcs_append (a b : List (Int × Int)) : pcs (a ++ b) = pcs a ++ pcs b := by simp [pcs]
theorem pcs_cons (p : Int × Int) (l : List (Int × Int)) : pcs (p :: l) = iv p.1 :: iv p.2 :: pcs l := rfl
@[simp] theorem pcs_length (l : List (Int × Int)) : (pcs l).length = l.length * 2 := by
 induction l with
 | nil => rfl
 | cons p l ih => rw [pcs_cons, List.length_cons, List.length_cons, ih, List.length_cons]; omega
theorem afL_pcs (l : List (Int × Int)) : afL (pcs l) = true := by
 induction l with
 | nil => rfl
 | cons p l ih => rw [pcs_cons]; simp [ih]
@[simp] theorem renL_pcs (ρ : Nat → Nat) (l : List (Int × Int)) : renL ρ (pcs l) = pcs l := by
 rw [renL_eq]
 induction l with
 | nil => rfl
 | cons p l ih => rw [pcs_cons, List.map_cons, List.map_cons, ih]; rfl
@[simp] theorem scL_pcs (p : Nat → Prop) (l : List (Int × Int)) : scL p (pcs l) := scL_af p _ (afL_pcs l)
theorem pcs_split {l : List (Int × Int)} {i : Nat} (h : i < l.length) (q : Int × Int) : pcs l = pcs (l.take i) ++ (iv l[i].1 :: iv l[i].2 :: pcs (l.drop (i + 1))) ∧ pcs (l.set i q) = pcs (l.take i) ++ (iv q.1 :: iv q.2 :: pcs (l.drop (i + 1))) ∧ (pcs (l.take i)).length = i * 2 := by
 refine ⟨?_, ?_, by rw [pcs_length, List.length_take]; omega⟩
 · conv => lhs; rw [← List.take_append_drop i l, List.drop_eq_getElem_cons h]
   rw [pcs_append, pcs_cons]
 · rw [List.set_eq_take_append_cons_drop, if_pos h, pcs_append, pcs_cons]
theorem pcs_set {l : List (Int × Int)} {i : Nat} (h : i < l.length) (a b : Int) : (pcs l).take (i * 2) ++ iv a :: iv b :: (pcs l).drop (i * 2 + 2) = pcs (l.set i (a, b)) := by
 obtain ⟨e1, e2, e3⟩ := pcs_split h (a, b)
 rw [e2, e1, ← e3, List.drop_length_add_append, List.take_append_of_le_length (Nat.le_refl _), List.take_length]
 rfl
theorem pcs_take {l : List (Int × Int)} {i : Nat} (h : i < l.length) : ((pcs l).drop (i * 2)).take 2 = [iv l[i].1, iv l[i].2] := by
 obtain ⟨e1, _, e3⟩ := pcs_split h (0, 0)
 rw [e1, ← e3, List.drop_append_of_le_length (Nat.le_refl _), List.drop_length]
 rfl
theorem pcs_0E {l : List (Int × Int)} {i : Nat} (h : i < l.length) (h2 : i * 2 < (pcs l).length) : (pcs l)[i * 2] = iv l[i].1 := by
 have e := congrArg (·[0]?) (pcs_take h)
 simp only [List.getElem?_take, List.getElem?_drop] at e
 rw [if_pos (by omega), Nat.add_zero, List.getElem?_eq_getElem h2] at e
 exact Option.some.inj e
theorem pcs_1E {l : List (Int × Int)} {i : Nat} (h : i < l.length) (h2 : i * 2 + 1 < (pcs l).length) : (pcs l)[i * 2 + 1] = iv l[i].2 := by
 have e := congrArg (·[1]?) (pcs_take h)
 simp only [List.getElem?_take, List.getElem?_drop] at e
 rw [if_pos (by omega), List.getElem?_eq_getElem h2] at e
 exact Option.some.inj e
theorem build92 {fr : Fr} {H : Heap} {n : Nat} {x y : Operand} {a b : Int} (hx : evO Tryz.prog fr x = some (iv a)) (hy : evO Tryz.prog fr y = some (iv b)) : opBuild Tryz.prog 92 #[(0, x), (1, y)] fr H n = some (.agg #[iv a, iv b], H, n) := by
 unfold opBuild
 simp only [evPs_cons, evPs_nil, hx, hy]
 kernel_rfl
def bubA (v b s : Int) (W : Nat) : List Int := addAll (zeros W) b v s
@[simp] theorem bubA_length (v b s : Int) (W : Nat) : (bubA v b s W).length = W := by simp [bubA]
def bubAQ (r : List Int) (W : Nat) (u : Value) (H : Heap) : Prop := ∃ m, u = .slice (some ⟨m, 0, none⟩) W W ∧ hget H m = some (.cells (r.map iv) 3) ∧ 10 ≤ m
set_option maxRecDepth 100000 in
theorem w204 (g : Gun) (b s : Int) (W : Nat) (hv : 1 ≤ g.v ∧ g.v ≤ 64) (hb : 0 ≤ b ∧ b ≤ 4096) (hs : 0 ≤ s ∧ s ≤ 4) (hW : 1 ≤ W ∧ W ≤ 64) : ∃ u H1 n1 H2, AC Tryz.prog 204 [.agg ⟨g.cells⟩, iv b, iv s, iv W] [] 10 u H1 n1 ∧ bubAQ (bubA g.v b s W) W u H2 ∧ (af u = false → H1 = H2) := by
 have hr := recT_ok (P := Tryz.prog) (l := [(128, g128)]) (by simp only [List.forall_mem_cons]; exact ⟨ok128, by simp⟩)
 have hz : intsOf ((zeros W).map iv) = some (zeros W) := intsOf_iv _
 have hl31 : W < 2147483648 := by omega
 refine AC.out Tryz.func204 rfl (by kernel_rfl) rfl [] ?_
 refine E.seq ?_
 refine E.reg hr (by simp; rfl) ?_
 refine E.seq ?_
 refine E.reg hr (by simp [mk45 (w := (W : Int)) (by omega) (by omega)]; rw [show List.replicate W (iv 0) = (zeros W).map iv by simp [zeros]]) ?_
 refine E.seq ?_
 refine E.reg hr (by simp [g128, hz, hl31, hv, hs, hb]; rfl) ?_
 refine E.seq ?_
 refine E.reg hr (by simp; rfl) ?_
 refine E.ret ?_
 refine outK.ret rfl rfl ?_
 exact ⟨11, by simp, by simp [bubA], by omega⟩
def g204 (args : List Value) (H : Heap) (n : Nat) : R := match args with
 | [.agg ⟨[.string _, .int .i64 v, .int .i64 _, .int .i64 _, .int .i64 _, .int .i64 _, .int .i64 _]⟩, .int .i64 b, .int .i64 s, .int .i64 w] => if (1 ≤ v ∧ v ≤ 64) ∧ (0 ≤ b ∧ b ≤ 4096) ∧ (0 ≤ s ∧ s ≤ 4) ∧ (1 ≤ w ∧ w ≤ 64) then some (.slice (some ⟨n, 0, none⟩) w.toNat w.toNat, (n, .cells ((bubA v b s w.toNat).map iv) 3) :: H, n + 1) else none
 | _ => none
theorem ok204 : EntOk Tryz.prog (204, g204) := by
 intro args H n v H' n' h'
 simp only [g204] at h'
 split at h'
 · rename_i nm v0 x y dd lo hi b s w
   split at h'
   · rename_i hc
     obtain ⟨hv, hb, hs, hw⟩ := hc
     obtain ⟨W, rfl⟩ := Int.eq_ofNat_of_zero_le (show 0 ≤ w by omega)
     injection h' with h'; injection h' with e1 e2; injection e2 with e2 e3; subst e1 e2 e3
     refine AC.liftF (names_fl _ _) (.inl ⟨_, _, rfl, afL_iv _⟩) (Part.plain (by simp) [] (by simp [Seen]) gsz ?_)
     obtain ⟨u, H1, n1, H2, hAC, ⟨m, hu, hm, hle⟩, hh⟩ := w204 ⟨nm, v0, x, y, dd, lo, hi⟩ b s W hv hb hs ⟨by omega, by omega⟩
     subst hu
     have := hh (by simp)
     subst this
     exact ⟨m, _, _, hle, hm, hAC⟩
   · cases h'
 · cases h'
section
variable (v b lo : Int) (W : Nat)
def pP (t j : Nat) : Int := (bubA v b (lo + t) W).getD j 0
def mnL (j : Nat) : Nat → Int
 | 0 => pP v b lo W 0 j
 | t + 1 => min (mnL j t) (pP v b lo W (t + 1) j)
def mxL (j : Nat) : Nat → Int
 | 0 => pP v b lo W 0 j
 | t + 1 => max (mxL j t) (pP v b lo W (t + 1) j)
def prL (t : Nat) : List (Int × Int) := rl (fun j => (mnL v b lo W j t, mxL v b lo W j t)) W
def mixL (t j : Nat) : List (Int × Int) := rl (fun k => if k < j then (mnL v b lo W k (t + 1), mxL v b lo W k (t + 1)) else (mnL v b lo W k t, mxL v b lo W k t)) W
@[simp] theorem prL_length (t : Nat) : (prL v b lo W t).length = W := by simp [prL]
@[simp] theorem mixL_length (t j : Nat) : (mixL v b lo W t j).length = W := by simp [mixL]
theorem rl_congr {α : Type} {f g : Nat → α} {n : Nat} (h : ∀ i, i < n → f i = g i) : rl f n = rl g n := List.map_congr_left fun i hi => h i (List.mem_range.1 hi)
theorem mixL_zero (t : Nat) : mixL v b lo W t 0 = prL v b lo W t := rl_congr fun i _ => by rw [if_neg (by omega)]
theorem mixL_all (t : Nat) : mixL v b lo W t W = prL v b lo W (t + 1) := rl_congr fun i hi => by rw [if_pos hi]
theorem mixL_get {t j : Nat} (h : j < (mixL v b lo W t j).length) : (mixL v b lo W t j)[j] = (mnL v b lo W j t, mxL v b lo W j t) := by
 simp only [mixL, rl_getElem]
 rw [if_neg (by omega)]
theorem mixL_succ {t j : Nat} (_h : j < W) : (mixL v b lo W t j).set j (mnL v b lo W j (t + 1), mxL v b lo W j (t + 1)) = mixL v b lo W t (j + 1) := by
 apply List.ext_getElem
 · simp
 · intro k h1 h2
   rw [List.getElem_set]
   simp only [mixL, rl_getElem]
   by_cases e : j = k
   · subst e
     rw [if_pos rfl, if_pos (by omega)]
   · rw [if_neg e]
     by_cases e2 : k < j
     · rw [if_pos e2, if_pos (by omega)]
     · rw [if_neg e2, if_neg (by omega)]
end
end Go.Proofs.YtndlfijfjglkdaaGreatDoor

namespace Go.Proofs.YtndlfijfjglkdaaGreatDoor
open Go Go.Ab Go.Proofs
def dup (B : List Int) (k : Nat) : Int × Int := (B.getD k 0, B.getD k 0)
theorem dup_at {B : List Int} {k : Nat} (h : k < B.length) : dup B k = (B[k], B[k]) := by unfold dup; rw [getD_at h]
abbrev F197 (b : Int) (W : Nat) (out : Value) (s : Int) : Fr := [(1, iv b), (2, iv W), (3, .pointer (some ⟨10, 0, none⟩)), (7, out), (8, iv s)]
abbrev vs197 : List Nat := [1, 2, 3, 7, 8, 25, 26, 27]
abbrev H197 (g : Gun) : Heap := [(10, .cells g.cells 95)]
def S197 (g : Gun) (b : Int) (W : Nat) : Nat → St
 | 0 => { fr := F197 b W (.slice none 0 0) g.lo, sz := 63, H := H197 g, n := 11, marks := [], vs := vs197 }
 | t + 1 => { fr := F197 b W (.slice (some ⟨11, 0, some 0⟩) W 0) (g.lo + (t + 1 : Nat)), sz := 63, H := (11, .ext (pcs (prL g.v b g.lo W t)) 92 2) :: H197 g, n := 12, marks := [], vs := vs197 }
def I197 (g : Gun) (b : Int) (W : Nat) (B : List Int) : Nat → St
 | 0 => { fr := F197 b W (.slice none 0 0) g.lo ++ [(25, .slice (some ⟨11, 0, none⟩) W W), (26, iv W), (27, iv 0)], sz := 63, H := (11, .cells (B.map iv) 3) :: H197 g, n := 12, marks := [], vs := vs197 }
 | j + 1 => { fr := F197 b W (.slice (some ⟨12, 0, some 0⟩) (j + 1) 0) g.lo ++ [(25, .slice (some ⟨11, 0, none⟩) W W), (26, iv W), (27, iv (j + 1 : Nat))], sz := 63, H := (12, .ext (pcs (rl (dup B) (j + 1))) 92 2) :: (11, .cells (B.map iv) 3) :: H197 g, n := 13, marks := [], vs := vs197 }
def J197 (g : Gun) (b : Int) (W : Nat) (B : List Int) (t j : Nat) : St := { fr := F197 b W (.slice (some ⟨11, 0, some 0⟩) W 0) (g.lo + (t + 1 : Nat)) ++ [(25, .slice (some ⟨12, 0, none⟩) W W), (26, iv W), (27, iv j)], sz := 63, H := (12, .cells (B.map iv) 3) :: (11, .ext (pcs (mixL g.v b g.lo W t j)) 92 2) :: H197 g, n := 13, marks := [], vs := vs197 }
def pairQ (k : Nat) (l : List (Int × Int)) (u : Value) (H : Heap) : Prop := ∃ m, u = .slice (some ⟨m, 0, some 0⟩) l.length 0 ∧ hget H m = some (.ext (pcs l) 92 2) ∧ k ≤ m
set_option maxRecDepth 100000 in
theorem w197 (g : Gun) (b : Int) (W : Nat) (hv : 1 ≤ g.v ∧ g.v ≤ 64) (hb : 0 ≤ b ∧ b ≤ 4096) (hlo : 0 ≤ g.lo) (hhi : g.hi ≤ 4) (ho : g.lo ≤ g.hi) (hW : 1 ≤ W ∧ W ≤ 64) : ∃ u H1 n1 H2, AC Tryz.prog 197 [.agg ⟨g.cells⟩, iv b, iv W] [] 10 u H1 n1 ∧ pairQ 10 (prL g.v b g.lo W (g.hi - g.lo).toNat) u H2 ∧ (af u = false → H1 = H2) := by
 have hr := recT_ok (P := Tryz.prog) (l := [(204, g204)]) (by simp only [List.forall_mem_cons]; exact ⟨ok204, by simp⟩)
 have hW1 : 1 ≤ (W : Int) := by omega
 have hW2 : (W : Int) ≤ 64 := by omega
 obtain ⟨K, hK⟩ : ∃ K : Nat, K = (g.hi - g.lo).toNat := ⟨_, rfl⟩
 have hK' : g.hi = g.lo + K := by omega
 rw [← hK]
 refine AC.out Tryz.func197 rfl (by kernel_rfl) rfl vs197 ?_
 refine E.seq ?_
 refine E.reg hr (by simp; rfl) ?_
 refine E.seq ?_
 refine E.reg hr (by simp; rfl) ?_
 refine E.seq ?_
 refine E.seq ?_
 refine E.reg hr (by simp; rfl) ?_
 refine E.block ?_
 refine E.loop ?_
 refine EL.ind (S197 g b W) (fun t => K + 1 - t) (fun t => t ≤ K + 1) 0 (.less rfl rfl rfl (by simp [S197]) (by simp [S197])) (Nat.zero_le _) (fun t => by cases t <;> rfl) ?_
 intro t ht
 rcases t with _ | t
 · have hle : g.lo ≤ g.hi := ho
   have hs := (show 0 ≤ g.lo ∧ g.lo ≤ 4 by omega)
   obtain ⟨B, hB⟩ : ∃ B, B = bubA g.v b g.lo W := ⟨_, rfl⟩
   have hBl : B.length = W := by rw [hB]; simp
   have hws : IntKind.i64.wrap (g.lo + 1) = g.lo + 1 := W_in (by omega) (by omega)
   refine E.seq ?_
   refine E.seq ?_
   refine E.reg hr (by simp [S197]; rfl) ?_
   refine E.cond (by rfl) (fun h => ?_) (fun h => ?_)
   rotate_left
   · simp at h; omega
   refine E.skip ?_
   refine E.seq ?_
   refine E.block ?_
   refine E.seq ?_
   refine E.reg hr (by simp [g204, hv, hb, hs, hW1, hW2, ← hB]; rfl) ?_
   refine E.block ?_
   refine E.loop ?_
   refine EL.ind (I197 g b W B) (fun j => W - j) (fun j => j ≤ W) 0 (.less rfl rfl rfl (by simp [I197]) (by simp [I197])) (Nat.zero_le _) (fun j => by cases j <;> rfl) ?_
   intro j hj
   rcases j with _ | j
   · have hw : IntKind.i64.wrap 1 = 1 := W_in (by omega) (by omega)
     refine E.seq ?_
     refine E.reg hr (by simp [I197]; rfl) ?_
     refine E.seq ?_
     refine E.cond (by rfl) (fun h2 => ?_) (fun h2 => ?_)
     · simp at h2
       have hjW : 0 < W := by omega
       have hjB : 0 < B.length := by omega
       have hts : pcs (rl (dup B) 1) = [iv B[0], iv B[0]] := by rw [rl_succ, rl_zero, List.nil_append, dup_at hjB]; rfl
       refine E.skip ?_
       refine E.seq ?_
       refine E.block ?_
       refine E.seq ?_
       refine E.reg hr (by simp [hjW, hjB]; rfl) ?_
       refine E.seq ?_
       refine E.seq ?_
       refine E.reg hr (by simp; rfl) ?_
       refine E.cond (by rfl) (fun h3 => ?_) (fun h3 => ?_)
       rotate_left
       · simp at h3
       refine E.seq ?_
       refine E.reg hr (by simp [build92]; rfl) ?_
       refine E.exit ?_
       refine E.reg hr (by simp [hw]; rfl) ?_
       exact ⟨1, Leads.ren [10, 11, 13] rfl rfl rfl ⟨rfl, rfl⟩ (by simp [I197]) (by simp [I197, hts]), by omega, by dsimp only; omega⟩
     · simp at h2
       omega
   · have hw : IntKind.i64.wrap ((j : Int) + 1 + 1) = (j : Int) + 1 + 1 := W_in (by omega) (by omega)
     have hpl : (pcs (rl (dup B) (j + 1))).length = (j + 1) * 2 := by simp
     have ht : List.take ((j + 1) * 2) (pcs (rl (dup B) (j + 1))) = pcs (rl (dup B) (j + 1)) := List.take_of_length_le (by omega)
     refine E.seq ?_
     refine E.reg hr (by simp [I197]; rfl) ?_
     refine E.seq ?_
     refine E.cond (by rfl) (fun h2 => ?_) (fun h2 => ?_)
     · simp at h2
       have hjW : j + 1 < W := by omega
       have hjWI : (j : Int) + 1 < W := by omega
       have hjB : j + 1 < B.length := by omega
       have hno : ¬ (j + 1 + 1) * 2 ≤ (j + 1) * 2 := by omega
       have hsm : (j + 1 + 1) * 16 ≤ 1099511627776 ∧ (j + 1 + 1) * 2 ≤ 1099511627776 ∧ j + 1 + 1 ≤ 1099511627776 := by omega
       have hts : pcs (rl (dup B) (j + 1 + 1)) = pcs (rl (dup B) (j + 1)) ++ [iv B[j + 1], iv B[j + 1]] := by rw [rl_succ, pcs_append, dup_at hjB]; rfl
       refine E.skip ?_
       refine E.seq ?_
       refine E.block ?_
       refine E.seq ?_
       refine E.reg hr (by simp [hjWI, hjB]; rfl) ?_
       refine E.seq ?_
       refine E.seq ?_
       refine E.reg hr (by simp; rfl) ?_
       refine E.cond (by rfl) (fun h3 => ?_) (fun h3 => ?_)
       rotate_left
       · simp at h3
       refine E.seq ?_
       refine E.reg hr (by simp [build92, ht, hpl, hno, hsm]; rfl) ?_
       refine E.exit ?_
       refine E.reg hr (by simp [hw]; rfl) ?_
       exact ⟨j + 2, Leads.ren [10, 11, 14] rfl rfl rfl ⟨rfl, rfl⟩ (by simp [I197]) (by simp [I197, hts]), by omega, by dsimp only; omega⟩
     · simp at h2
       have hWj : W = j + 1 := by omega
       have hpr : rl (dup B) (j + 1) = prL g.v b g.lo W 0 := by
         rw [← hWj]
         refine rl_congr fun k _ => ?_
         simp [mnL, mxL, pP, hB, dup]
       refine E.exit ?_
       refine E.reg hr (by simp [hws]; rfl) ?_
       exact ⟨1, Leads.ren [10, 12] rfl rfl rfl ⟨rfl, rfl⟩ (by simp [S197, hWj]) (by simp [S197, hpr]), by omega, by dsimp only; omega⟩
 · obtain ⟨s, hs'⟩ : ∃ s, s = g.lo + ((t + 1 : Nat) : Int) := ⟨_, rfl⟩
   by_cases htK : t + 1 ≤ K
   rotate_left
   · obtain rfl : t = K := by omega
     have hgt : ¬ g.lo + ((t : Int) + 1) ≤ g.hi := by omega
     refine E.seq ?_
     refine E.seq ?_
     refine E.reg hr (by simp [S197, hgt]; rfl) ?_
     refine E.cond (by rfl) (fun h => ?_) (fun h => ?_)
     · simp at h
     refine E.exit ?_
     refine E.seq ?_
     refine E.reg hr (by simp; rfl) ?_
     refine E.ret ?_
     refine outK.ret rfl rfl ?_
     exact ⟨11, by simp, by simp, by omega⟩
   have hle : g.lo + ((t : Int) + 1) ≤ g.hi := by omega
   have hs1 : 0 ≤ g.lo + ((t : Int) + 1) := by omega
   have hs4 : g.lo + ((t : Int) + 1) ≤ 4 := by omega
   have hne : ¬ g.lo + ((t : Int) + 1) = g.lo := by omega
   obtain ⟨B, hB⟩ : ∃ B, B = bubA g.v b (g.lo + ((t : Int) + 1)) W := ⟨_, rfl⟩
   have hBl : B.length = W := by rw [hB]; simp
   have hws : IntKind.i64.wrap (g.lo + ((t : Int) + 1) + 1) = g.lo + ((t : Int) + 1 + 1) := by rw [W_in (by omega) (by omega)]; omega
   refine E.seq ?_
   refine E.seq ?_
   refine E.reg hr (by simp [S197, hle]; rfl) ?_
   refine E.cond (by rfl) (fun h => ?_) (fun h => ?_)
   rotate_left
   · simp at h
   refine E.skip ?_
   refine E.seq ?_
   refine E.block ?_
   refine E.seq ?_
   refine E.reg hr (by simp [g204, hv, hb, hs1, hs4, hW1, hW2, ← hB]; rfl) ?_
   refine E.block ?_
   refine E.loop ?_
   refine EL.ind (J197 g b W B t) (fun j => W - j) (fun j => j ≤ W) 0 (.less rfl rfl rfl (by simp [J197]) (by simp [J197, mixL_zero])) (Nat.zero_le _) (fun _ => rfl) ?_
   intro j hj
   refine E.seq ?_
   refine E.reg hr (by simp [J197]; rfl) ?_
   refine E.seq ?_
   refine E.cond (by rfl) (fun h2 => ?_) (fun h2 => ?_)
   · simp at h2
     have hw : IntKind.i64.wrap ((j : Int) + 1) = (j : Int) + 1 := W_in (by omega) (by omega)
     have hjI : (j : Int) < W := by omega
     have hjB : j < B.length := by omega
     have hml : j < (mixL g.v b g.lo W t j).length := by simp; omega
     have c0 : j * 2 < W * 2 := by omega
     have c1 : j * 2 + 1 < W * 2 := by omega
     have c2 : j * 2 + 2 ≤ W * 2 := by omega
     have e0 := pcs_0E hml (by simp; omega)
     have e1 := pcs_1E hml (by simp; omega)
     rw [mixL_get] at e0 e1
     have hst := pcs_set hml (mnL g.v b g.lo W j (t + 1)) (mxL g.v b g.lo W j (t + 1))
     rw [mixL_succ _ _ _ _ h2] at hst
     have hp : pP g.v b g.lo W (t + 1) j = B[j] := by
       rw [← getD_at hjB, hB]
       rfl
     have hmn : min (mnL g.v b g.lo W j t) B[j] = mnL g.v b g.lo W j (t + 1) := by rw [← hp]; rfl
     have hmx : max (mxL g.v b g.lo W j t) B[j] = mxL g.v b g.lo W j (t + 1) := by rw [← hp]; rfl
     refine E.skip ?_
     refine E.seq ?_
     refine E.block ?_
     refine E.seq ?_
     refine E.reg hr (by simp [h2, hjI, hjB]; rfl) ?_
     refine E.seq ?_
     refine E.seq ?_
     refine E.reg hr (by simp [hne]; rfl) ?_
     refine E.cond (by rfl) (fun h3 => ?_) (fun h3 => ?_)
     · simp at h3
     refine E.skip ?_
     refine E.drawC mixed hr [18] [18] [6, 13, 18] (by kernel_rfl) (by simp [hjI, c0, c1, c2, e0, e1, min33, max33', hmn, hmx, build92]; rfl) ?_
     refine E.reg hr (by simp [hw]; rfl) ?_
     exact ⟨j + 1, .less rfl rfl rfl (by simp [J197]) (by simp [J197, hst]), h2, by dsimp only; omega⟩
   · simp at h2
     obtain rfl : j = W := by omega
     refine E.exit ?_
     refine E.reg hr (by simp [hws]; rfl) ?_
     exact ⟨t + 2, Leads.ren [10, 11] rfl rfl rfl ⟨rfl, rfl⟩ (by simp [S197]) (by simp [S197, mixL_all]), by omega, by dsimp only; omega⟩
end Go.Proofs.YtndlfijfjglkdaaGreatDoor

namespace Go.Ab
open Go
mutual
theorem sc_and {p q : Nat → Prop} : ∀ v, sc p v → sc q v → sc (fun k => p k ∧ q k) v
 | .bool _, _, _ | .int _ _, _, _ | .float _ _, _, _ | .complex _ _ _, _, _ | .string _, _, _ | .nilFunc, _, _ | .nilIface, _, _ | .chan _, _, _ => by simp [sc]
 | .pointer none, _, _ | .slice none _ _, _, _ | .map none, _, _ => by simp [sc]
 | .pointer (some _), h1, h2 => ⟨h1, h2⟩
 | .slice (some _) _ _, h1, h2 => ⟨h1, h2⟩
 | .map (some _), h1, h2 => ⟨h1, h2⟩
 | .func (.yield l) a b, h1, h2 => by
   simp only [sc] at h1 h2 ⊢
   exact ⟨⟨h1.1, h2.1⟩, scL_and _ h1.2.1 h2.2.1, scL_and _ h1.2.2 h2.2.2⟩
 | .func (.func f) a b, h1, h2 | .func (.method f) a b, h1, h2 | .func (.methodOf _ f) a b, h1, h2 | .func (.via _ _ f _) a b, h1, h2 => by
   simp only [sc] at h1 h2 ⊢
   exact ⟨scL_and _ h1.1 h2.1, scL_and _ h1.2 h2.2⟩
 | .iface t v, h1, h2 => by simp only [sc] at h1 h2 ⊢; exact sc_and v h1 h2
 | .agg cs, h1, h2 => by simp only [sc] at h1 h2 ⊢; exact scL_and _ h1 h2
 | .tuple cs, h1, h2 => by simp only [sc] at h1 h2 ⊢; exact scL_and _ h1 h2
theorem scL_and {p q : Nat → Prop} : ∀ vs, scL p vs → scL q vs → scL (fun k => p k ∧ q k) vs
 | [], _, _ => trivial
 | v :: vs, h1, h2 => by simp only [scL] at h1 h2 ⊢; exact ⟨sc_and v h1.1 h2.1, scL_and vs h1.2 h2.2⟩
end
def heldB (n0 : Nat) : Blk → Prop
 | .loop _ _ fr _ _ _ _ _ d => d < n0 ∧ ∀ x ∈ fr, sc (· < n0) x.2
 | _ => True
theorem heldB_cases {n0 : Nat} {b : Blk} (h : heldB n0 b) : carried b ∨ (scB (· < n0) b ∧ (∀ ρ, renB ρ b = b) ∧ ∀ (P : Program) (p : Nat → Prop) (φ ψ : Vl) (j k : Nat) (o : Option Obj), Agr p φ ψ → scB p b → BRel P φ j b o → BRel P ψ k b o) := by
 cases b with
 | loop st pe fr sz vs ps a c d =>
   refine .inr ⟨⟨h.1, fun t v hv => h.2 (t, v) (lk_mem _ _ _ hv)⟩, fun _ => rfl, fun P p φ ψ j k o ha hs hb => ?_⟩
   obtain ⟨fn, tmps, ho, hf⟩ := hb
   exact ⟨fn, tmps, by rw [(ha d hs.1).1]; exact ho, hf.congr ha hs.2⟩
 | _ => exact .inl trivial
theorem scB_and {p q : Nat → Prop} : ∀ b, scB p b → scB q b → scB (fun k => p k ∧ q k) b
 | .cells cs _, h1, h2 | .ext cs _ _, h1, h2 | .inp _ cs, h1, h2 | .row cs _, h1, h2 | .tab cs, h1, h2 => scL_and cs h1 h2
 | .map _ _, h1, h2 => fun e he => ⟨sc_and _ (h1 e he).1 (h2 e he).1, sc_and _ (h1 e he).2 (h2 e he).2⟩
 | .iter _ _, _, _ | .defd, _, _ => trivial
 | .miter _ _ _ _, h1, h2 => fun r hr => ⟨h1 r hr, h2 r hr⟩
 | .loop .., h1, h2 => ⟨⟨h1.1, h2.1⟩, fun t v hv => sc_and v (h1.2 t v hv) (h2.2 t v hv)⟩
structure Renamed2 (n0 : Nat) (ρ : Nat → Nat) (s s2 : St) : Prop where
 le : n0 ≤ s2.n
 sz : s2.sz = s.sz
 marks : s.marks = [] ∧ s2.marks = []
 low : ∀ k, k < n0 → ρ k = k
 high : ∀ k, n0 ≤ k → k < s2.n → n0 ≤ ρ k ∧ ρ k < s.n
 inj : ∀ j k, j < s2.n → k < s2.n → ρ j = ρ k → j = k
 fr : ∀ x ∈ s2.fr, lk s.fr x.1 = some (ren ρ x.2) ∧ sc (· < s2.n) x.2
 heap : ∀ x ∈ s2.H, x.1 < s2.n ∧ hget s.H (ρ x.1) = some (renB ρ x.2) ∧ scB (· < s2.n) x.2 ∧ heldB n0 x.2 ∧ (x.2.own = false → ρ x.1 = x.1 ∧ renB ρ x.2 = x.2)
theorem Renamed2.step {P : Program} {n0 : Nat} {ρ : Nat → Nat} {s s2 : St} (h : Renamed2 n0 ρ s s2) {p : Nat → Prop} {φ φ1 : Vl} {M : Mp} {w0 w : World} {a : Act} (hg : ∀ g, g < P.globals.size → p g) (hp : ∀ k, p k → k < n0)
   (hS : SRel P (Nx p n0 s.n) φ1 s a w) (hs : Step P φ n0 M w0 φ1 s.n (hget s.H) w) : ∃ φ2, SRel P (Nx p n0 s2.n) φ2 s2 a w ∧ Step P φ n0 M w0 φ2 s2.n (hget s2.H) w := by
 let φ2 : Vl := ⟨fun k => if n0 ≤ k ∧ k < s2.n then φ1.loc (ρ k) else φ.loc k, fun k => if n0 ≤ k ∧ k < s2.n then φ1.cap (ρ k) else φ.cap k⟩
 have hlow : ∀ k, k < n0 → φ2.loc k = φ.loc k ∧ φ2.cap k = φ.cap k := fun k hk => by simp only [φ2]; rw [if_neg (by omega), if_neg (by omega)]; exact ⟨rfl, rfl⟩
 have hmid : ∀ k, n0 ≤ k → k < s2.n → φ2.loc k = φ1.loc (ρ k) ∧ φ2.cap k = φ1.cap (ρ k) := fun k h1 h2 => by simp only [φ2]; rw [if_pos ⟨h1, h2⟩, if_pos ⟨h1, h2⟩]; exact ⟨rfl, rfl⟩
 have hrn : Rn (Nx p n0 s2.n) ρ φ1 φ2 := fun k hk => by
   rcases hk with hk | hk
   · have hk0 := hp k hk
     rw [(hlow k hk0).1, (hlow k hk0).2, h.low k hk0, (hs.only k (.inl hk0)).1, (hs.only k (.inl hk0)).2]
     exact ⟨rfl, rfl⟩
   · exact hmid k hk.1 hk.2
 have hnx : ∀ k, Nx p n0 s.n (ρ k) ∧ k < s2.n → Nx p n0 s2.n k := fun k hk => by
   by_cases h0 : k < n0
   · have := hk.1
     rw [h.low k h0] at this
     rcases this with h1 | h1
     · exact .inl h1
     · omega
   · exact .inr ⟨by omega, hk.2⟩
 have hscv : ∀ v, sc (Nx p n0 s.n) (ren ρ v) → sc (· < s2.n) v → sc (Nx p n0 s2.n) v := fun v h1 h2 => sc_mono hnx v (sc_ren v h1 h2)
 have hpl : ∀ k, Nx p n0 s.n k ∧ k < n0 → p k := fun k hk => by
   rcases hk.1 with h1 | h1
   · exact h1
   · omega
 have hH : ∀ k b, hget s2.H k = some b → Nx p n0 s2.n k ∧ hget s.H (ρ k) = some (renB ρ b) ∧ scB (Nx p n0 s2.n) b ∧ (BRel P φ1 (ρ k) (renB ρ b) w.heap[φ1.loc (ρ k)]? → BRel P φ2 k b w.heap[φ1.loc (ρ k)]?) ∧ (b.own = false → ρ k = k ∧ renB ρ b = b) := fun k b hk => by
   obtain ⟨h1, h2, h3, h4, h5⟩ := h.heap (k, b) (hget_mem _ _ _ hk)
   have hsm := hS.base.sm _ _ h2
   have hn := hnx k ⟨hsm.1, h1⟩
   rcases heldB_cases h4 with h4 | ⟨g1, g2, g3⟩
   · have := scB_mono hnx _ (scB_ren b h4 hsm.2 h3)
     exact ⟨hn, h2, this, BRel.ren hrn hn h4 this, h5⟩
   · have h6 := hsm.2
     simp only [g2] at h6
     have h7 : scB p b := scB_mono hpl _ (scB_and b h6 g1)
     refine ⟨hn, h2, scB_mono (fun _ h => .inl h) _ h7, fun hb => ?_, h5⟩
     rw [g2] at hb
     refine g3 P p φ1 φ2 _ k _ (fun j hj => ?_) h7 hb
     have hj0 := hp j hj
     rw [(hlow j hj0).1, (hlow j hj0).2, (hs.only j (.inl hj0)).1, (hs.only j (.inl hj0)).2]
     exact ⟨rfl, rfl⟩
 have hlt : ∀ k, Nx p n0 s2.n k → k < s2.n := fun k hk => Nx.lt hp h.le hk
 have hrel : HRel P φ2 (hget s2.H) w := by
   refine ⟨fun k b hk => ?_, fun k b k' b' h1 h2 hne ho => ?_, fun g hg' => ?_⟩
   · obtain ⟨hn, h2, h3, h4, _⟩ := hH k b hk
     rw [(hrn k hn).1]
     exact h4 (hS.base.rel.blk _ _ h2)
   · obtain ⟨n1, e1, _, _, _⟩ := hH k b h1
     obtain ⟨n2, e2, _, _, _⟩ := hH k' b' h2
     rw [(hrn k n1).1, (hrn k' n2).1]
     exact hS.base.rel.apart _ _ _ _ e1 e2 (fun e => hne (h.inj k k' (hlt k n1) (hlt k' n2) e)) (by rw [renB_own]; exact ho)
   · have := hp g (hg g hg')
     rw [(hlow g this).1, ← (hs.only g (.inl this)).1]
     exact hS.base.rel.glob g hg'
 refine ⟨φ2, ⟨⟨hrel, hlt, fun g hg' => .inl (hg g hg'), ?_, fun k b hk => ⟨(hH k b hk).1, (hH k b hk).2.2.1⟩, fun t v hv => ?_, fun t v hv => ?_⟩, ?_, ?_, ?_⟩, h.le, fun k hk => ?_, hrel, fun k b hk ho => ?_, fun k b hk ho => ?_, hs.frm⟩
 · refine Nat.le_of_not_lt fun hc => ?_
   have := hp _ (hg _ hc)
   have := h.le
   omega
 · obtain ⟨h1, h2⟩ := h.fr (t, v) (lk_mem _ _ _ hv)
   have hsf := hS.base.sf t _ h1
   rw [hS.base.ar t _ h1, den_ren hrn v (hscv v hsf h2)]
 · obtain ⟨h1, h2⟩ := h.fr (t, v) (lk_mem _ _ _ hv)
   exact hscv v (hS.base.sf t _ h1) h2
 · rw [h.sz]; exact hS.size
 · rw [h.marks.2, hS.defs, h.marks.1]; rfl
 · rw [h.marks.2]; simp
 · rcases hk with hk | hk
   · exact hlow k hk
   · simp only [φ2]; rw [if_neg (by omega), if_neg (by omega)]; exact ⟨rfl, rfl⟩
 · obtain ⟨hn, h2, _, _, _⟩ := hH k b hk
   rw [(hrn k hn).1]
   exact hs.new _ _ h2 (by rw [renB_own]; exact ho)
 · obtain ⟨hn, h2, _, _, h5⟩ := hH k b hk
   have := hs.inp _ _ h2 (by rw [renB_own]; exact ho)
   rw [(h5 ho).1, (h5 ho).2] at this
   exact this
theorem Leads.ren2 {P : Program} {n0 : Nat} {s s2 : St} (olds : List Nat) (ho : oldsOk n0 s.n olds = true) (hn : s2.n = n0 + olds.length) (hz : s2.sz = s.sz) (hm : s.marks = [] ∧ s2.marks = [])
   (hf : ∀ x ∈ s2.fr, lk s.fr x.1 = some (Ab.ren (rnm n0 olds) x.2) ∧ sc (· < s2.n) x.2)
   (hh : ∀ x ∈ s2.H, x.1 < s2.n ∧ hget s.H (rnm n0 olds x.1) = some (renB (rnm n0 olds) x.2) ∧ scB (· < s2.n) x.2 ∧ heldB n0 x.2 ∧ (x.2.own = false → rnm n0 olds x.1 = x.1 ∧ renB (rnm n0 olds) x.2 = x.2)) : Leads P n0 s s2 := by
 have hr := Leads.ren (P := P) (s := s) (s2 := { s2 with fr := [], H := [] }) olds ho hn hz hm (by simp) (by simp)
 obtain ⟨hk, hd⟩ := oldsOk_spec olds ho
 have hget : ∀ k, n0 ≤ k → k < s2.n → ∃ h : k - n0 < olds.length, rnm n0 olds k = olds[k - n0] := fun k h1 h2 => by
   refine ⟨by omega, ?_⟩
   unfold rnm
   rw [if_neg (by omega), List.getD_eq_getElem?_getD, List.getElem?_eq_getElem (by omega)]
   rfl
 have h2 : Renamed2 n0 (rnm n0 olds) s s2 := ⟨by omega, hz, hm, fun k h => by unfold rnm; rw [if_pos h], fun k h1 h2 => by
     obtain ⟨h, e⟩ := hget k h1 h2
     rw [e]; exact hk _ (List.getElem_mem h), fun j k h1 h2 he => by
   by_cases hj : j < n0
   · by_cases hk' : k < n0
     · unfold rnm at he; rw [if_pos hj, if_pos hk'] at he; exact he
     · obtain ⟨h, e⟩ := hget k (by omega) h2
       have := hk _ (List.getElem_mem h)
       rw [← e, ← he] at this
       unfold rnm at this; rw [if_pos hj] at this; omega
   · obtain ⟨h, e⟩ := hget j (by omega) h1
     by_cases hk' : k < n0
     · have := hk _ (List.getElem_mem h)
       rw [← e, he] at this
       unfold rnm at this; rw [if_pos hk'] at this; omega
     · obtain ⟨h', e'⟩ := hget k (by omega) h2
       rw [e, e'] at he
       have hne : ∀ (x y : Nat) (hx : x < olds.length) (hy : y < olds.length), x < y → olds[x] ≠ olds[y] := fun x y hx hy hlt => List.pairwise_iff_getElem.1 hd x y hx hy hlt
       rcases Nat.lt_trichotomy (j - n0) (k - n0) with hlt | heq | hlt
       · exact absurd he (hne _ _ _ _ hlt)
       · omega
       · exact absurd he.symm (hne _ _ _ _ hlt), hf, hh⟩
 exact fun p φ M w0 hg hp a w φ1 hS hs => h2.step hg hp hS hs
theorem Leads.short {P : Program} {n0 : Nat} {s s2 : St} (b : Nat) (cs rest : List Value) (t : TypeId) (sz : Nat) (hb : hget s.H b = some (.ext (cs ++ rest) t sz)) (hn : s2.n = s.n) (hz : s2.sz = s.sz) (hm : s2.marks = s.marks) (hf : ∀ x ∈ s2.fr, lk s.fr x.1 = some x.2)
   (hh : ∀ x ∈ s2.H, (x.1 = b ∧ x.2 = .ext cs t sz) ∨ hget s.H x.1 = some x.2) : Leads P n0 s s2 := by
 intro p φ M w0 hg hp a w φ1 hS hs
 have hf' : ∀ t v, lk s2.fr t = some v → lk s.fr t = some v := fun t v h => hf (t, v) (lk_mem _ _ _ h)
 have hh' : ∀ k x, hget s2.H k = some x → (k = b ∧ x = .ext cs t sz) ∨ hget s.H k = some x := fun k x h => hh (k, x) (hget_mem _ _ _ h)
 have hold : ∀ k x, hget s2.H k = some x → ∃ y, hget s.H k = some y ∧ y.own = x.own := fun k x h => by
   rcases hh' k x h with ⟨rfl, rfl⟩ | h
   · exact ⟨_, hb, rfl⟩
   · exact ⟨x, h, rfl⟩
 have hrel : HRel P φ1 (hget s2.H) w := by
   refine ⟨fun k x h => ?_, fun k x k' x' h1 h2 hne ho => ?_, hS.base.rel.glob⟩
   · rcases hh' k x h with ⟨rfl, rfl⟩ | h
     · obtain ⟨c, e1, e2, e3⟩ := hS.base.rel.blk _ _ hb
       refine ⟨c, e1, ?_, e3⟩
       have := congrArg (List.take cs.length) e2
       rw [denL_append, List.take_append_of_le_length (l₁ := denL φ1 cs) (by simp), List.take_of_length_le (l := denL φ1 cs) (by simp), List.take_take, List.length_append, Nat.min_eq_left (by omega)] at this
       exact this
     · exact hS.base.rel.blk _ _ h
   · obtain ⟨y, g1, g2⟩ := hold k x h1
     obtain ⟨y', g3, _⟩ := hold k' x' h2
     exact hS.base.rel.apart _ _ _ _ g1 g3 hne (g2.trans ho)
 have hsm : SM (Nx p n0 s.n) (hget s2.H) := fun k x h => by
   rcases hh' k x h with ⟨rfl, rfl⟩ | h
   · obtain ⟨h1, h2⟩ := hS.base.sm _ _ hb
     refine ⟨h1, ?_⟩
     simp only [scB, scL_iff] at h2 ⊢
     exact fun v hv => h2 v (List.mem_append_left _ hv)
   · exact hS.base.sm _ _ h
 rw [hn]
 refine ⟨φ1, ⟨⟨hrel, hn ▸ hS.base.lt, hS.base.gl, hn ▸ hS.base.gn, hsm, fun t v hv => hS.base.ar t v (hf' t v hv), fun t v hv => hS.base.sf t v (hf' t v hv)⟩, hz ▸ hS.size, hm ▸ hS.defs, hm ▸ hS.marks⟩, hs.le, hs.only, hrel, fun k x hk ho => ?_, fun k x hk ho => ?_, hs.frm⟩
 · obtain ⟨y, g1, g2⟩ := hold k x hk
   exact hs.new _ _ g1 (g2.trans ho)
 · rcases hh' k x hk with ⟨rfl, rfl⟩ | h
   · cases ho
   · exact hs.inp _ _ h ho
mutual
def nsp (b : Nat) : Value → Prop
 | .slice (some a) _ _ => a.block = b → a.spot = none
 | .func _ x y => nspL b x.toList ∧ nspL b y.toList
 | .iface _ v => nsp b v
 | .agg cs => nspL b cs.toList
 | .tuple vs => nspL b vs.toList
 | _ => True
def nspL (b : Nat) : List Value → Prop
 | [] => True
 | v :: vs => nsp b v ∧ nspL b vs
end
def agrL (φ ψ : Vl) (b : Nat) : Prop := (∀ k, ψ.loc k = φ.loc k) ∧ ∀ k, k ≠ b → ψ.cap k = φ.cap k
mutual
theorem den_nsp {φ ψ : Vl} {b : Nat} (h : agrL φ ψ b) : ∀ v, nsp b v → den ψ v = den φ v
 | .bool _, _ | .int _ _, _ | .float _ _, _ | .complex _ _ _, _ | .string _, _ | .nilFunc, _ | .nilIface, _ | .chan _, _ => by simp [den]
 | .pointer none, _ | .slice none _ _, _ | .map none, _ => by simp [den]
 | .pointer (some a), _ => by simp [den, h.1]
 | .slice (some ⟨k, o, none⟩) l c, _ => by simp [den, h.1]
 | .slice (some ⟨k, o, some j⟩) l c, hs => by
   have : k ≠ b := fun e => by
     have := hs e
     cases this
   simp [den, h.1, h.2 k this]
 | .map (some r), _ => by simp [den, h.1]
 | .func (.yield l) a c, hs => by
   simp only [nsp] at hs
   simp only [den]
   rw [denL_nsp h _ hs.1, denL_nsp h _ hs.2, h.1]
 | .func (.func f) a c, hs | .func (.method f) a c, hs | .func (.methodOf _ f) a c, hs | .func (.via _ _ f _) a c, hs => by
   simp only [nsp] at hs
   simp only [den]
   rw [denL_nsp h _ hs.1, denL_nsp h _ hs.2]
 | .iface t v, hs => by simp only [den]; rw [den_nsp h v hs]
 | .agg cs, hs => by simp only [den]; rw [denL_nsp h _ hs]
 | .tuple cs, hs => by simp only [den]; rw [denL_nsp h _ hs]
theorem denL_nsp {φ ψ : Vl} {b : Nat} (h : agrL φ ψ b) : ∀ vs, nspL b vs → denL ψ vs = denL φ vs
 | [], _ => rfl
 | v :: vs, hs => by simp only [denL]; rw [den_nsp h v hs.1, denL_nsp h vs hs.2]
end
mutual
theorem nsp_af (b : Nat) : ∀ v, af v = true → nsp b v
 | .bool _, _ | .int _ _, _ | .float _ _, _ | .complex _ _ _, _ | .string _, _ | .nilFunc, _ | .nilIface, _ | .chan _, _ | .pointer _, _ | .map _, _ => by simp [nsp]
 | .slice none _ _, _ => by simp [nsp]
 | .slice (some _) _ _, hs => by simp [af] at hs
 | .func (.yield l) _ _, hs => by simp [af] at hs
 | .func (.func f) x y, hs | .func (.method f) x y, hs | .func (.methodOf _ f) x y, hs | .func (.via _ _ f _) x y, hs => by
   simp only [af, Bool.and_eq_true] at hs
   simp only [nsp]
   exact ⟨nspL_af b _ hs.1, nspL_af b _ hs.2⟩
 | .iface t v, hs => nsp_af b v (by simpa [af] using hs)
 | .agg cs, hs => nspL_af b _ (by simpa [af] using hs)
 | .tuple cs, hs => nspL_af b _ (by simpa [af] using hs)
theorem nspL_af (b : Nat) : ∀ vs, afL vs = true → nspL b vs
 | [], _ => trivial
 | v :: vs, hs => by
   simp only [afL, Bool.and_eq_true] at hs
   exact ⟨nsp_af b v hs.1, nspL_af b vs hs.2⟩
end
theorem nspL_iff (b : Nat) : ∀ vs, nspL b vs ↔ ∀ v ∈ vs, nsp b v
 | [] => by simp [nspL]
 | v :: vs => by simp [nspL, nspL_iff b vs]
def nspB (b : Nat) : Blk → Prop
 | .cells cs _ | .ext cs _ _ | .inp _ cs | .row cs _ | .tab cs => nspL b cs
 | .iter _ _ | .defd => True
 | _ => False
theorem BRel.nsp {P : Program} {φ ψ : Vl} {b k : Nat} (h : agrL φ ψ b) (hk : k ≠ b) : ∀ {x : Blk} {o : Option Obj}, nspB b x → BRel P φ k x o → BRel P ψ k x o
 | .cells cs t, o, hs, hb => by simp only [BRel] at *; rw [denL_nsp h _ hs]; exact hb
 | .ext cs t sz, o, hs, hb => by simp only [BRel] at *; rw [denL_nsp h _ hs, h.2 k hk]; exact hb
 | .inp o0 cs, o, hs, hb => by simp only [BRel] at *; rw [denL_nsp h _ hs]; exact hb
 | .row cs sz, o, hs, hb => by simp only [BRel] at *; rw [denL_nsp h _ hs, h.2 k hk]; exact hb
 | .tab cs, o, hs, hb => by simp only [BRel] at *; rw [denL_nsp h _ hs]; exact hb
 | .iter _ _, o, _, hb => hb
 | .defd, o, _, hb => hb
theorem Leads.ext {P : Program} {n0 : Nat} {s s2 : St} (b : Nat) (cs : List Value) (t : TypeId) (sz m : Nat) (hb0 : n0 ≤ b ∧ b < s.n) (hb : hget s.H b = some (.cells cs t)) (hl : cs.length = m * sz) (hsz : 0 < sz) (hn : s2.n = s.n) (hz : s2.sz = s.sz) (hm : s2.marks = s.marks)
   (hf : ∀ x ∈ s2.fr, lk s.fr x.1 = some x.2 ∧ nsp b x.2)
   (hh : ∀ x ∈ s2.H, (x.1 = b ∧ x.2 = .ext cs t sz ∧ nspL b cs) ∨ (x.1 ≠ b ∧ hget s.H x.1 = some x.2 ∧ nspB b x.2)) : Leads P n0 s s2 := by
 intro p φ M w0 hg hp a w φ1 hS hs
 let φ2 : Vl := ⟨φ1.loc, fun k => if k = b then m else φ1.cap k⟩
 have ha : agrL φ1 φ2 b := ⟨fun _ => rfl, fun k hk => by simp only [φ2]; rw [if_neg hk]⟩
 have hf' : ∀ t v, lk s2.fr t = some v → lk s.fr t = some v ∧ nsp b v := fun t v h => hf (t, v) (lk_mem _ _ _ h)
 have hh' : ∀ k x, hget s2.H k = some x → (k = b ∧ x = .ext cs t sz ∧ nspL b cs) ∨ (k ≠ b ∧ hget s.H k = some x ∧ nspB b x) := fun k x h => hh (k, x) (hget_mem _ _ _ h)
 have hold : ∀ k x, hget s2.H k = some x → ∃ y, hget s.H k = some y ∧ y.own = x.own := fun k x h => by
   rcases hh' k x h with ⟨rfl, rfl, _⟩ | ⟨_, h, _⟩
   · exact ⟨_, hb, rfl⟩
   · exact ⟨x, h, rfl⟩
 have hrel : HRel P φ2 (hget s2.H) w := by
   refine ⟨fun k x h => ?_, fun k x k' x' h1 h2 hne ho => ?_, hS.base.rel.glob⟩
   · rcases hh' k x h with ⟨rfl, rfl, h3⟩ | ⟨hk, h, h3⟩
     · have := hS.base.rel.blk _ _ hb
       simp only [BRel] at this
       refine ⟨_, this, ?_, ?_, hsz⟩
       · rw [denL_nsp ha _ h3, List.take_of_length_le (by simp)]
       · simp [φ2, hl]
     · exact (hS.base.rel.blk _ _ h).nsp ha hk h3
   · obtain ⟨y, g1, g2⟩ := hold k x h1
     obtain ⟨y', g3, _⟩ := hold k' x' h2
     exact hS.base.rel.apart _ _ _ _ g1 g3 hne (g2.trans ho)
 have hsm : SM (Nx p n0 s.n) (hget s2.H) := fun k x h => by
   rcases hh' k x h with ⟨rfl, rfl, _⟩ | ⟨_, h, _⟩
   · have := hS.base.sm _ _ hb
     exact this
   · exact hS.base.sm _ _ h
 rw [hn]
 refine ⟨φ2, ⟨⟨hrel, hn ▸ hS.base.lt, hS.base.gl, hn ▸ hS.base.gn, hsm, fun t v hv => ?_, fun t v hv => hS.base.sf t v (hf' t v hv).1⟩, hz ▸ hS.size, hm ▸ hS.defs, hm ▸ hS.marks⟩, hs.le, fun k hk => ?_, hrel, fun k x hk ho => ?_, fun k x hk ho => ?_, hs.frm⟩
 · obtain ⟨h1, h2⟩ := hf' t v hv
   rw [hS.base.ar t _ h1, den_nsp ha v h2]
 · have := hs.only k hk
   have hkb : k ≠ b := by omega
   exact ⟨this.1, by rw [ha.2 k hkb]; exact this.2⟩
 · obtain ⟨y, g1, g2⟩ := hold k x hk
   exact hs.new _ _ g1 (g2.trans ho)
 · rcases hh' k x hk with ⟨rfl, rfl, _⟩ | ⟨_, h, _⟩
   · cases ho
   · exact hs.inp _ _ h ho
end Go.Ab

namespace Go.Proofs.YtndlfijfjglkdaaGreatDoor
open Go Go.Ab Go.Proofs
def g197 (args : List Value) (H : Heap) (n : Nat) : R := match args with
 | [.agg ⟨[.string _, .int .i64 v, .int .i64 _, .int .i64 _, .int .i64 _, .int .i64 lo, .int .i64 hi]⟩, .int .i64 b, .int .i64 w] => if (1 ≤ v ∧ v ≤ 64) ∧ (0 ≤ b ∧ b ≤ 4096) ∧ 0 ≤ lo ∧ hi ≤ 4 ∧ lo ≤ hi ∧ 1 ≤ w ∧ w ≤ 64 then some (.slice (some ⟨n, 0, some 0⟩) w.toNat 0, (n, .ext (pcs (prL v b lo w.toNat (hi - lo).toNat)) 92 2) :: H, n + 1) else none
 | _ => none
theorem ok197 : EntOk Tryz.prog (197, g197) := by
 intro args H n v H' n' h'
 simp only [g197] at h'
 split at h'
 · rename_i nm v0 x y dd lo hi b w
   split at h'
   · rename_i hc
     obtain ⟨hv, hb, hlo, hhi, ho, hw⟩ := hc
     obtain ⟨W, rfl⟩ := Int.eq_ofNat_of_zero_le (show 0 ≤ w by omega)
     injection h' with h'; injection h' with e1 e2; injection e2 with e2 e3; subst e1 e2 e3
     refine AC.liftF (names_sx _ _) (.inr ⟨_, _, _, rfl, afL_pcs _⟩) (Part.plain (by simp) [] (by simp [Seen]) gsz ?_)
     obtain ⟨u, H1, n1, H2, hAC, ⟨m, hu, hm, hle⟩, hh⟩ := w197 ⟨nm, v0, x, y, dd, lo, hi⟩ b W hv hb hlo hhi ho ⟨by omega, by omega⟩
     subst hu
     have := hh (by simp)
     subst this
     rw [prL_length] at hAC
     exact ⟨m, _, _, hle, hm, hAC⟩
   · cases h'
 · cases h'
end Go.Proofs.YtndlfijfjglkdaaGreatDoor

namespace Go.Proofs.YtndlfijfjglkdaaGreatDoor
open Go Go.Ab Go.Proofs
def mnF (P : Nat → Int) : Nat → Int
 | 0 => P 0
 | t + 1 => min (mnF P t) (P (t + 1))
def mxF (P : Nat → Int) : Nat → Int
 | 0 => P 0
 | t + 1 => max (mxF P t) (P (t + 1))
theorem mnF_bd {P : Nat → Int} {a b : Int} (h : ∀ t, a ≤ P t ∧ P t ≤ b) : ∀ n, a ≤ mnF P n ∧ mnF P n ≤ b
 | 0 => h 0
 | n + 1 => by
   have h1 := mnF_bd h n
   have h2 := h (n + 1)
   rw [mnF]
   omega
theorem mxF_bd {P : Nat → Int} {a b : Int} (h : ∀ t, a ≤ P t ∧ P t ≤ b) : ∀ n, a ≤ mxF P n ∧ mxF P n ≤ b
 | 0 => h 0
 | n + 1 => by
   have h1 := mxF_bd h n
   have h2 := h (n + 1)
   rw [mxF]
   omega
theorem mnF_congr {P Q : Nat → Int} : ∀ n, (∀ t, t ≤ n → P t = Q t) → mnF P n = mnF Q n
 | 0, h => h 0 (Nat.le_refl _)
 | n + 1, h => by rw [mnF, mnF, mnF_congr n fun t ht => h t (by omega), h (n + 1) (Nat.le_refl _)]
theorem mxF_congr {P Q : Nat → Int} : ∀ n, (∀ t, t ≤ n → P t = Q t) → mxF P n = mxF Q n
 | 0, h => h 0 (Nat.le_refl _)
 | n + 1, h => by rw [mxF, mxF, mxF_congr n fun t ht => h t (by omega), h (n + 1) (Nat.le_refl _)]
def gP (g : Gun) (at' : Int) (t : Nat) : Int := pulseV g.v (g.lo + t) at'
def gK (g : Gun) : Nat := (g.hi - g.lo).toNat
def gMn (g : Gun) (at' : Int) : Int := mnF (gP g at') (gK g)
def gMx (g : Gun) (at' : Int) : Int := mxF (gP g at') (gK g)
theorem gP_bd {g : Gun} (hv : 1 ≤ g.v ∧ g.v ≤ 64) (at' : Int) (t : Nat) : -256 ≤ gP g at' t ∧ gP g at' t ≤ 256 := pulse256 hv
theorem gMn_bd {g : Gun} (hv : 1 ≤ g.v ∧ g.v ≤ 64) (at' : Int) : -256 ≤ gMn g at' ∧ gMn g at' ≤ 256 := mnF_bd (gP_bd hv at') _
theorem gMx_bd {g : Gun} (hv : 1 ≤ g.v ∧ g.v ≤ 64) (at' : Int) : -256 ≤ gMx g at' ∧ gMx g at' ≤ 256 := mxF_bd (gP_bd hv at') _
theorem pP_gP {g : Gun} {b : Int} {W j t : Nat} (hv : 1 ≤ g.v ∧ g.v ≤ 64) (hb : 0 ≤ b ∧ b ≤ 4096) (hlo : 0 ≤ g.lo) (ht : g.lo + t ≤ 4) (hj : j < W) : pP g.v b g.lo W t j = gP g (j - b) t := by
 have h0 : (zeros W)[j]? = some 0 := by simp [zeros, hj]
 have := addAll_get (l := zeros W) (b := b) (v := g.v) (s := g.lo + t) hv (by omega) hb (j := j) (by simpa using hj) h0 (by omega)
 unfold pP bubA gP
 rw [List.getD_eq_getElem?_getD, this]
 simp
theorem mnL_F (v b lo : Int) (W j : Nat) : ∀ t, mnL v b lo W j t = mnF (fun t => pP v b lo W t j) t
 | 0 => rfl
 | t + 1 => by rw [mnL, mnF, mnL_F v b lo W j t]
theorem mxL_F (v b lo : Int) (W j : Nat) : ∀ t, mxL v b lo W j t = mxF (fun t => pP v b lo W t j) t
 | 0 => rfl
 | t + 1 => by rw [mxL, mxF, mxL_F v b lo W j t]
theorem prL_gM {g : Gun} {b : Int} {W : Nat} (hv : 1 ≤ g.v ∧ g.v ≤ 64) (hb : 0 ≤ b ∧ b ≤ 4096) (hlo : 0 ≤ g.lo) (hhi : g.hi ≤ 4) (ho : g.lo ≤ g.hi) : prL g.v b g.lo W (g.hi - g.lo).toNat = rl (fun j => (gMn g (j - b), gMx g (j - b))) W := by
 refine rl_congr fun j hj => ?_
 have hk : ∀ t, t ≤ (g.hi - g.lo).toNat → pP g.v b g.lo W t j = gP g (j - b) t := fun t ht => pP_gP hv hb hlo (by omega) hj
 rw [mnL_F, mxL_F, mnF_congr _ hk, mxF_congr _ hk]
 rfl
section
variable (l : List Gun) (d : ByteArray)
def gAt (k : Nat) : Gun := (l[k]?).getD ⟨⟨#[]⟩, 0, 0, 0, 0, 0, 0⟩
theorem gAt_at {k : Nat} (h : k < l.length) : gAt l k = l[k] := by unfold gAt; rw [List.getElem?_eq_getElem h]; rfl
def encS (i : Int) : Nat → Int × Int
 | 0 => (0, 0)
 | k + 1 => ((encS i k).1 + gMn (gAt l k) (i - (arrL d l).getD k 0), (encS i k).2 + gMx (gAt l k) (i - (arrL d l).getD k 0))
def encT (i : Int) : Nat → Int × Int
 | 0 => (0, 0)
 | r + 1 => (gMn (gAt l (l.length - (r + 1))) (i - (arrL d l).getD (l.length - (r + 1)) 0) + (encT i r).1, gMx (gAt l (l.length - (r + 1))) (i - (arrL d l).getD (l.length - (r + 1)) 0) + (encT i r).2)
theorem encT_S (i : Int) : ∀ r, r ≤ l.length → (encS l d i (l.length - r)).1 + (encT l d i r).1 = (encS l d i l.length).1 ∧ (encS l d i (l.length - r)).2 + (encT l d i r).2 = (encS l d i l.length).2
 | 0, _ => by simp [encT]
 | r + 1, h => by
   obtain ⟨h1, h2⟩ := encT_S i r (by omega)
   have e : l.length - r = (l.length - (r + 1)) + 1 := by omega
   rw [e, encS] at h1 h2
   rw [encT]
   simp only at h1 h2 ⊢
   omega
theorem encT_all (i : Int) : encT l d i l.length = encS l d i l.length := by
 obtain ⟨h1, h2⟩ := encT_S l d i l.length (Nat.le_refl _)
 rw [Nat.sub_self, encS] at h1 h2
 simp only [Int.zero_add] at h1 h2
 exact Prod.ext h1 h2
variable {l}
theorem encS_bd (hst : strE l = 0) (i : Int) : ∀ k, k ≤ l.length → (-(256 * (k : Int)) ≤ (encS l d i k).1 ∧ (encS l d i k).1 ≤ 256 * (k : Int)) ∧ -(256 * (k : Int)) ≤ (encS l d i k).2 ∧ (encS l d i k).2 ≤ 256 * (k : Int)
 | 0, _ => by simp [encS]
 | k + 1, h => by
   obtain ⟨h1, h2⟩ := encS_bd hst i k (by omega)
   obtain ⟨hv, _⟩ := gun_nums hst l[k] (List.getElem_mem (by omega))
   have h3 := gMn_bd hv (i - (arrL d l).getD k 0)
   have h4 := gMx_bd hv (i - (arrL d l).getD k 0)
   rw [encS, gAt_at l (by omega)]
   simp only
   omega
theorem encT_bd (hst : strE l = 0) (i : Int) : ∀ r, r ≤ l.length → (-(256 * (r : Int)) ≤ (encT l d i r).1 ∧ (encT l d i r).1 ≤ 256 * (r : Int)) ∧ -(256 * (r : Int)) ≤ (encT l d i r).2 ∧ (encT l d i r).2 ≤ 256 * (r : Int)
 | 0, _ => by simp [encT]
 | r + 1, h => by
   obtain ⟨h1, h2⟩ := encT_bd hst i r (by omega)
   obtain ⟨hv, _⟩ := gun_nums hst l[l.length - (r + 1)] (List.getElem_mem (by omega))
   have h3 := gMn_bd hv (i - (arrL d l).getD (l.length - (r + 1)) 0)
   have h4 := gMx_bd hv (i - (arrL d l).getD (l.length - (r + 1)) 0)
   rw [encT, gAt_at l (by omega)]
   simp only
   omega
end
def encL (l : List Gun) (d : ByteArray) (W : Nat) : List (Int × Int) := rl (fun i : Nat => encS l d i l.length) W
@[simp] theorem encL_length (l : List Gun) (d : ByteArray) (W : Nat) : (encL l d W).length = W := by simp [encL]
end Go.Proofs.YtndlfijfjglkdaaGreatDoor

namespace Go.Proofs.YtndlfijfjglkdaaGreatDoor
open Go Go.Ab Go.Proofs
end Go.Proofs.YtndlfijfjglkdaaGreatDoor

namespace Go.Ab
open Go
def footT' (P : Program) (ops : Array Oper) (o : Oper) (st : St) (sn : List Nat) : List Nat := match footA P (trim (lookTmps ops o) st.fr) o.op with
 | some f => f.see ++ sn
 | none => sn
def handW (P : Program) (r : Rec) (mk : List Nat) (w : Nat) (o : Oper) (see put : List Nat) (fr : Fr) (st : St) : Option St :=
 match runOp P r o { st with fr := fr, H := handA see put st.H } with
 | some (v, H, k) => match Nat.ble st.n k && namesOk k (takeNew st.n H) && (Nat.beq k st.n || memN mk w) with
   | true => some { st with fr := putA st.fr o.dst v, H := takeNew st.n H ++ backA put H st.H, n := k }
   | false => none
 | none => none
def writeT (P : Program) (r : Rec) (ops : Array Oper) (al mk late : List Nat) (n0 w : Nat) (o : Oper) (sn : List Nat) (st : St) : Option St :=
 match dstOk st.sz o.dst with
 | false => none
 | true => match wantedA ops (trim (lookTmps ops o) st.fr) o with
   | some true => match isPure o.op || isRead o.op || memN al w with
     | true => none
     | false => match footA P (trim (lookTmps ops o) st.fr) o.op with
       | some f => match visT late n0 w st.n f.see && f.put.all (memN f.see) && disj f.put sn with
         | true => handW P r mk w o f.see f.put (trim (lookTmps ops o) st.fr) st
         | false => none
       | none => none
   | _ => none
def opsW (P : Program) (r : Rec) (ops : Array Oper) (al mk late q : List Nat) (w n0 : Nat) : List Oper → Nat → List Nat → St → Option St
 | [], _, _, st => some st
 | o :: os, i, sn, st => match Nat.beq i w with
   | true => match writeT P r ops al mk late n0 i o sn st with
     | some st' => opsW P r ops al mk late q w n0 os (i + 1) sn st'
     | none => none
   | false => match oneT P r ops al mk late n0 i o st with
     | some st' => match memN q i with
       | true => opsW P r ops al mk late q w n0 os (i + 1) (footT' P ops o st sn) st'
       | false => opsW P r ops al mk late q w n0 os (i + 1) sn st'
     | none => none
def runW (P : Program) (r : Rec) (ops : Array Oper) (al mk late q : List Nat) (w : Nat) (st : St) : Option St :=
 match namesOk st.n st.H with
 | true => opsW P r ops al mk late q w st.n ops.toList 0 [] st
 | false => none
def wOk (bef : Array Nat) (q : List Nat) (w : Nat) : List Oper → Nat → Bool
 | [], _ => true
 | o :: os, i => (if i < w then ahead bef i w || (memN q i && (isPure o.op || isRead o.op)) else Nat.beq i w || isPure o.op || ahead bef w i) && wOk bef q w os (i + 1)
structure InvW (mk : List Nat) (n0 i : Nat) (ds : List Done) (st : St) : Prop where
 lt : ∀ d ∈ ds, d.i < i
 cov : ∀ k, n0 ≤ k → k < st.n → ∃ d ∈ ds, d.lo ≤ k ∧ k < d.hi ∧ memN mk d.i = true ∧ d.i < i
 nam : ∀ x ∈ st.H, x.1 < st.n
theorem InvW.same {mk : List Nat} {n0 i : Nat} {ds : List Done} {st : St} (hI : InvW mk n0 i ds st) {fr : Fr} : InvW mk n0 (i + 1) ds { st with fr := fr } :=
 ⟨fun d hd => Nat.lt_succ_of_lt (hI.lt d hd), fun k h1 h2 => by obtain ⟨d, a, b, c, e, f⟩ := hI.cov k h1 h2; exact ⟨d, a, b, c, e, by omega⟩, hI.nam⟩
theorem InvW.next {mk : List Nat} {n0 i : Nat} {ds : List Done} {st : St} (hI : InvW mk n0 i ds st) {fr : Fr} {see put : List Nat} {H : Heap} {k : Nat} (hn : ∀ x ∈ H, x.1 < k) (hm : (Nat.beq k st.n || memN mk i) = true) : InvW mk n0 (i + 1) (⟨i, see, put, st.n, k⟩ :: ds) { st with fr := fr, H := H, n := k } := by
 refine ⟨fun d hd => ?_, fun j h1 h2 => ?_, hn⟩
 · rcases List.mem_cons.1 hd with rfl | hd
   · exact Nat.lt_succ_self _
   · exact Nat.lt_succ_of_lt (hI.lt d hd)
 · rcases Nat.lt_or_ge j st.n with h | h
   · obtain ⟨d, a, b, c, e, f⟩ := hI.cov j h1 h
     exact ⟨d, List.mem_cons_of_mem _ a, b, c, e, by omega⟩
   · rw [Bool.or_eq_true] at hm
     have h2 : j < k := h2
     rcases hm with hm | hm
     · have := Nat.eq_of_beq_eq_true hm
       omega
     · exact ⟨_, List.mem_cons_self .., h, h2, hm, Nat.lt_succ_self _⟩
theorem lateOk_visW {bef : Array Nat} {mk late : List Nat} (hl : lateOk bef mk late = true) {n0 i : Nat} (hi : memN late i = true) {ds : List Done} {st : St} (hI : InvW mk n0 i ds st) {k : Nat} (hk : k < st.n) : visA bef n0 i ds k = true := by
 unfold visA
 rw [Bool.or_eq_true]
 rcases Nat.lt_or_ge k n0 with h | h
 · exact .inl ((blt_iff _ _).2 h)
 · obtain ⟨d, hd, h1, h2, h3, h4⟩ := hI.cov k h hk
   refine .inr (List.any_eq_true.2 ⟨d, hd, ?_⟩)
   have := List.all_eq_true.1 (List.all_eq_true.1 hl i ((memN_iff _ _).1 hi)) d.i ((memN_iff _ _).1 h3)
   rw [Bool.or_eq_true] at this
   rcases this with h | h
   · have := Nat.le_of_ble_eq_true h
     omega
   · simp only [Bool.and_eq_true]
     exact ⟨⟨Nat.ble_eq_true_of_le h1, (blt_iff _ _).2 h2⟩, h⟩
theorem visW {bef : Array Nat} {mk late : List Nat} (hl : lateOk bef mk late = true) {n0 i : Nat} {ds : List Done} {st : St} (hI : InvW mk n0 i ds st) {see : List Nat} (h : visT late n0 i st.n see = true) : see.all (visA bef n0 i ds) = true := by
 refine List.all_eq_true.2 fun k hk => ?_
 unfold visT at h
 rw [Bool.or_eq_true] at h
 rcases h with h | h
 · rw [Bool.and_eq_true] at h
   exact lateOk_visW hl h.1 hI ((blt_iff _ _).1 (List.all_eq_true.1 h.2 k hk))
 · have := List.all_eq_true.1 h k hk
   unfold visA
   rw [this, Bool.true_or]
abbrev Calm (bef : Array Nat) (i : Nat) (ds : List Done) : Prop := ∀ d ∈ ds, d.put = [] ∨ ahead bef d.i i = true
theorem footW {bef : Array Nat} {mk late : List Nat} (hl : lateOk bef mk late = true) {n0 i : Nat} {ds : List Done} {st : St} (hI : InvW mk n0 i ds st) (hp : Calm bef i ds) {see : List Nat} (h : visT late n0 i st.n see = true) : footOk bef n0 i ds see [] = true := by
 unfold footOk
 simp only [Bool.and_eq_true]
 refine ⟨⟨List.all_eq_true.2 fun d hd => ?_, visW hl hI h⟩, rfl⟩
 rcases hp d hd with h | h <;> simp [disj, h]
theorem seeCall_calm {bef : Array Nat} {n0 i : Nat} {ds : List Done} (hp : Calm bef i ds) : ∀ H : Heap, (∀ x ∈ H, visA bef n0 i ds x.1 = true) → seeCall bef n0 i ds H = dnames H
 | [], _ => rfl
 | (k, b) :: H, hv => by
   have ih := seeCall_calm hp H fun x hx => hv x (List.mem_cons_of_mem _ hx)
   have h1 := hv _ (List.mem_cons_self ..)
   have h2 : (ds.all fun d => ahead bef d.i i || !memN d.put k) = true := List.all_eq_true.2 fun d hd => by rcases hp d hd with h | h <;> simp [h, memN]
   cases b <;> simp only [seeCall, dnames, h1, h2, ih, Bool.and_self, if_true]
theorem backA_mem (put : List Nat) (H' : Heap) : ∀ (H : Heap) (x : Nat × Blk), x ∈ backA put H' H → ∃ b, (x.1, b) ∈ H
 | [], _, h => by cases h
 | (k, b) :: H, x, h => by
   simp only [backA] at h
   split at h
   · rcases List.mem_cons.1 h with rfl | h
     · exact ⟨b, List.mem_cons_self ..⟩
     · obtain ⟨c, hc⟩ := backA_mem put H' H x h
       exact ⟨c, List.mem_cons_of_mem _ hc⟩
   · split at h
     · rcases List.mem_cons.1 h with rfl | h
       · exact ⟨b, List.mem_cons_self ..⟩
       · obtain ⟨c, hc⟩ := backA_mem put H' H x h
         exact ⟨c, List.mem_cons_of_mem _ hc⟩
     · obtain ⟨c, hc⟩ := backA_mem put H' H x h
       exact ⟨c, List.mem_cons_of_mem _ hc⟩
theorem handW_ok {P : Program} {r : Rec} {bef : Array Nat} {mk : List Nat} {n0 i : Nat} {ds : List Done} {o : Oper} {fr : Fr} {st st' : St} (hI : InvW mk n0 i ds st) {see put : List Nat} (hf : footOk bef n0 i ds see put = true) (h : handW P r mk i o see put fr st = some st') :
   ∃ lo hi, handOp P r bef n0 i ds o see put fr st = some (st', ⟨i, see, put, lo, hi⟩ :: ds) ∧ InvW mk n0 (i + 1) (⟨i, see, put, lo, hi⟩ :: ds) st' := by
 unfold handW at h
 unfold handOp
 rw [hf]
 simp only
 split at h
 · rename_i v H k hv
   rw [hv]
   simp only
   split at h
   · rename_i hc
     simp only [Bool.and_eq_true] at hc
     injection h with h; subst h
     rw [hc.1.1, hc.1.2]
     simp only [Bool.and_self]
     have hle := Nat.le_of_ble_eq_true hc.1.1
     refine ⟨_, _, rfl, hI.next (fun x hx => ?_) hc.2⟩
     rcases List.mem_append.1 hx with hx | hx
     · exact namesOk_mem _ _ hc.1.2 x hx
     · obtain ⟨b, hb⟩ := backA_mem _ _ _ _ hx
       exact Nat.lt_of_lt_of_le (hI.nam (x.1, b) hb) hle
   · cases h
 · cases h
theorem handT_W {P : Program} {r : Rec} {mk : List Nat} {i : Nat} {o : Oper} {see : List Nat} {fr : Fr} {st : St} : handT P r mk i o see fr st = handW P r mk i o see [] fr st := by
 have hb : ∀ (H' H : Heap), backA [] H' H = H := fun H' H => by
   induction H with
   | nil => rfl
   | cons x H ih => obtain ⟨k, b⟩ := x; simp only [backA, memN, ih]
 unfold handT handW
 simp only [hb]
 generalize runOp P r o { st with fr := fr, H := handA see [] st.H } = z
 cases z with
 | none => rfl
 | some y =>
   obtain ⟨v, H, k⟩ := y
   simp only
   cases (Nat.ble st.n k && namesOk k (takeNew st.n H) && (Nat.beq k st.n || memN mk i)) <;> rfl
theorem oneT_ok {P : Program} {r : Rec} {ops : Array Oper} {bef : Array Nat} {al mk late : List Nat} (hl : lateOk bef mk late = true) {n0 i : Nat} {o : Oper} {st st1 : St} {ds : List Done} (hal : (isPure o.op || isRead o.op || memN al i == aloneA bef i ops.toList 0) = true)
   (hI : InvW mk n0 i ds st) (hp : Calm bef i ds) (h1 : oneT P r ops al mk late n0 i o st = some st1) :
   ∃ ds', oneD P r ops bef n0 i ds o st = some (st1, ds') ∧ InvW mk n0 (i + 1) ds' st1 ∧ (ds' = ds ∨ isPure o.op = false ∧ ∃ see lo hi, ds' = ⟨i, see, [], lo, hi⟩ :: ds ∧ (isRead o.op = true → ∃ f, footA P (trim (lookTmps ops o) st.fr) o.op = some f ∧ see = f.see)) := by
 simp only [Bool.or_eq_true, beq_iff_eq] at hal
 have halo : isPure o.op = false → isRead o.op = false → memN al i = aloneA bef i ops.toList 0 := fun h1 h2 => by
   rcases hal with (h | h) | h
   · rw [h1] at h; cases h
   · rw [h2] at h; cases h
   · exact h
 unfold oneT at h1
 unfold oneD
 split at h1
 · cases h1
 · rename_i hd
   rw [hd]
   simp only
   split at h1
   · cases h1
   · rename_i hw
     rw [hw]
     injection h1 with h1; subst h1
     exact ⟨ds, rfl, hI.same, .inl rfl⟩
   · rename_i hw
     rw [hw]
     simp only
     unfold doneT at h1
     unfold doneD
     split at h1
     · rename_i hp
       rw [hp]
       simp only
       unfold pureS at h1
       unfold pureOp
       split at h1
       · rename_i v a k hv
         rw [hv]
         simp only
         split at h1
         · rename_i hk
           rw [hk]
           injection h1 with h1; subst h1
           exact ⟨ds, rfl, hI.same, .inl rfl⟩
         · cases h1
       · cases h1
     · rename_i hpu
       rw [hpu]
       simp only
       split at h1
       · rename_i hrd
         rw [hrd]
         simp only
         split at h1
         · rename_i f hf
           rw [hf]
           simp only
           unfold readT at h1
           split at h1
           · rename_i hv
             unfold readOp
             rw [footW hl hI hp hv]
             simp only
             split at h1
             · rename_i v a b hv
               rw [hv]
               injection h1 with h1; subst h1
               exact ⟨_, rfl, hI.next hI.nam (by simp), .inr ⟨trivial, _, _, _, rfl, fun _ => ⟨f, rfl, rfl⟩⟩⟩
             · cases h1
           · cases h1
         · cases h1
       · rename_i hrd
         rw [hrd]
         simp only
         split at h1
         · rename_i hm
           have ha : aloneA bef i ops.toList 0 = true := by rw [← halo hpu hrd, hm]
           rw [ha]
           simp only
           unfold aloneT at h1
           unfold aloneOp
           split at h1
           · rename_i v H k hv
             rw [hv]
             simp only
             split at h1
             · rename_i hk
               simp only [Bool.and_eq_true] at hk
               rw [hk.1.1, hk.1.2]
               injection h1 with h1; subst h1
               exact ⟨_, rfl, hI.next (namesOk_mem _ _ hk.1.2) hk.2, .inr ⟨trivial, _, _, _, rfl, fun h => by cases h⟩⟩
             · cases h1
           · cases h1
         · rename_i hm
           have ha : aloneA bef i ops.toList 0 = false := by rw [← halo hpu hrd, hm]
           rw [ha]
           simp only
           split at h1
           · rename_i f hf
             rw [hf]
             simp only
             split at h1
             · rename_i hv
               rw [Bool.and_eq_true] at hv
               rw [List.isEmpty_iff.1 hv.1]
               rw [handT_W] at h1
               obtain ⟨lo, hi, e1, e2⟩ := handW_ok hI (footW hl hI hp hv.2) h1
               exact ⟨_, e1, e2, .inr ⟨trivial, _, _, _, rfl, fun h => by cases h⟩⟩
             · cases h1
           · rename_i hf
             rw [hf]
             simp only
             split at h1
             · rename_i hv
               have hvis : ∀ k, k < st.n → visA bef n0 i ds k = true := fun k hk => lateOk_visW hl hv hI hk
               rw [seeCall_calm hp st.H fun x hx => hvis _ (hI.nam x hx)]
               rw [handT_W] at h1
               obtain ⟨lo, hi, e1, e2⟩ := handW_ok hI (footW hl hI hp (by
                 unfold visT
                 rw [hv]
                 simp only [Bool.true_and, Bool.or_eq_true]
                 refine .inl (List.all_eq_true.2 fun k hk => ?_)
                 obtain ⟨b, hb⟩ := dnames_mem _ _ hk
                 exact (blt_iff _ _).2 (hI.nam _ hb))) h1
               exact ⟨_, e1, e2, .inr ⟨trivial, _, _, _, rfl, fun h => by cases h⟩⟩
             · cases h1
theorem opsW_ok {P : Program} {r : Rec} {ops : Array Oper} {bef : Array Nat} {al mk late q : List Nat} {w : Nat} (hl : lateOk bef mk late = true) {n0 : Nat} : ∀ (os : List Oper) (i : Nat) (sn : List Nat) (st st' : St) (ds : List Done), alEq ops bef al os i = true → wOk bef q w os i = true → InvW mk n0 i ds st →
   (i ≤ w → ∀ d ∈ ds, d.put = [] ∧ (ahead bef d.i w = true ∨ ∀ k ∈ d.see, k ∈ sn)) → (w < i → ∀ d ∈ ds, d.put = [] ∨ d.i = w) → opsW P r ops al mk late q w n0 os i sn st = some st' → opsD P r ops bef n0 os i ds st = some st'
 | [], _, _, st, st', ds, _, _, _, _, _, h => h
 | o :: os, i, sn, st, st', ds, hal, hw, hI, hc1, hc2, h => by
   simp only [alEq, Bool.and_eq_true] at hal
   simp only [wOk, Bool.and_eq_true] at hw
   simp only [opsW] at h
   split at h
   · rename_i hiw
     have hiw := Nat.eq_of_beq_eq_true hiw
     subst hiw
     split at h
     · rename_i st1 h1
       have key : ∃ ds', oneD P r ops bef n0 i ds o st = some (st1, ds') ∧ InvW mk n0 (i + 1) ds' st1 ∧ ∃ see put lo hi, ds' = ⟨i, see, put, lo, hi⟩ :: ds := by
         unfold writeT at h1
         unfold oneD
         split at h1
         · cases h1
         · rename_i hd
           rw [hd]
           simp only
           split at h1
           · rename_i hwa
             rw [hwa]
             simp only
             split at h1
             · cases h1
             · rename_i hk
               simp only [Bool.or_eq_false_iff] at hk
               unfold doneD
               rw [hk.1.1, hk.1.2]
               simp only
               have ha : aloneA bef i ops.toList 0 = false := by
                 have := hal.1
                 rw [hk.1.1, hk.1.2, hk.2] at this
                 simpa using this
               rw [ha]
               simp only
               split at h1
               · rename_i f hf
                 rw [hf]
                 simp only
                 split at h1
                 · rename_i hv
                   simp only [Bool.and_eq_true] at hv
                   obtain ⟨⟨hv1, hv2⟩, hv3⟩ := hv
                   have hfo : footOk bef n0 i ds f.see f.put = true := by
                     unfold footOk
                     simp only [Bool.and_eq_true]
                     refine ⟨⟨List.all_eq_true.2 fun d hd => ?_, visW hl hI hv1⟩, hv2⟩
                     obtain ⟨e1, e2⟩ := hc1 (Nat.le_refl _) d hd
                     rw [Bool.or_eq_true]
                     rcases e2 with e2 | e2
                     · exact .inl e2
                     · refine .inr ?_
                       rw [e1, Bool.and_eq_true]
                       refine ⟨List.all_eq_true.2 fun k hk => ?_, rfl⟩
                       have := List.all_eq_true.1 hv3 k hk
                       cases hm : memN d.see k with
                       | false => rfl
                       | true =>
                         have h3 := (memN_iff _ _).2 (e2 k ((memN_iff _ _).1 hm))
                         rw [h3] at this
                         cases this
                   obtain ⟨lo, hi, g1, g2⟩ := handW_ok hI hfo h1
                   exact ⟨_, g1, g2, _, _, _, _, rfl⟩
                 · cases h1
               · cases h1
           · cases h1
       obtain ⟨ds', h2, hI', see, put, lo, hi, rfl⟩ := key
       simp only [opsD, h2]
       refine opsW_ok hl os (i + 1) sn st1 st' _ hal.2 hw.2 hI' (fun hle => by omega) (fun _ d hd => ?_) h
       rcases List.mem_cons.1 hd with rfl | hd
       · exact .inr rfl
       · exact .inl (hc1 (Nat.le_refl _) d hd).1
     · cases h
   · rename_i hiw
     have hne : i ≠ w := fun e => by rw [e, Nat.beq_refl] at hiw; cases hiw
     split at h
     · rename_i st1 h1
       by_cases hpu : isPure o.op = true
       · have hone : ∃ ds', oneD P r ops bef n0 i ds o st = some (st1, ds') ∧ InvW mk n0 (i + 1) ds' st1 ∧ ds' = ds := by
           unfold oneT at h1
           unfold oneD
           split at h1
           · cases h1
           · rename_i hd
             rw [hd]
             simp only
             split at h1
             · cases h1
             · rename_i hw
               rw [hw]
               injection h1 with h1; subst h1
               exact ⟨ds, rfl, hI.same, rfl⟩
             · rename_i hw
               rw [hw]
               simp only
               unfold doneT at h1
               unfold doneD
               rw [hpu] at h1 ⊢
               simp only at h1 ⊢
               unfold pureS at h1
               unfold pureOp
               split at h1
               · rename_i v a k hv
                 rw [hv]
                 simp only
                 split at h1
                 · rename_i hk
                   rw [hk]
                   injection h1 with h1; subst h1
                   exact ⟨ds, rfl, hI.same, rfl⟩
                 · cases h1
               · cases h1
         obtain ⟨ds', h2, hI', rfl⟩ := hone
         simp only [opsD, h2]
         split at h
         · refine opsW_ok hl os (i + 1) _ st1 st' _ hal.2 hw.2 hI' (fun hle d hd => ?_) (fun hlt d hd => hc2 (by omega) d hd) h
           obtain ⟨e1, e2⟩ := hc1 (by omega) d hd
           refine ⟨e1, e2.imp_right fun e2 k hk => ?_⟩
           unfold footT'
           split
           · exact List.mem_append_right _ (e2 k hk)
           · exact e2 k hk
         · exact opsW_ok hl os (i + 1) sn st1 st' _ hal.2 hw.2 hI' (fun hle d hd => hc1 (by omega) d hd) (fun hlt d hd => hc2 (by omega) d hd) h
       · have hpu : isPure o.op = false := by simpa using hpu
         have hcalm : Calm bef i ds := fun d hd => by
           rcases Nat.lt_or_ge w i with hlt | hle
           · rcases hc2 hlt d hd with e | e
             · exact .inl e
             · refine .inr ?_
               have := hw.1
               rw [if_neg (by omega), hpu, hiw] at this
               rw [e]
               simpa using this
           · exact .inl (hc1 hle d hd).1
         obtain ⟨ds', h2, hI', hds⟩ := oneT_ok hl hal.1 hI hcalm h1
         simp only [opsD, h2]
         have hsub : ∀ (sn' : List Nat), (∀ k ∈ sn, k ∈ sn') → (i < w → ahead bef i w = true ∨ (isRead o.op = true ∧ ∀ f, footA P (trim (lookTmps ops o) st.fr) o.op = some f → ∀ k ∈ f.see, k ∈ sn')) → i + 1 ≤ w → ∀ d ∈ ds', d.put = [] ∧ (ahead bef d.i w = true ∨ ∀ k ∈ d.see, k ∈ sn') := fun sn' hs ho hle d hd => by
           have old : ∀ d ∈ ds, d.put = [] ∧ (ahead bef d.i w = true ∨ ∀ k ∈ d.see, k ∈ sn') := fun d hd => by
             obtain ⟨e1, e2⟩ := hc1 (by omega) d hd
             exact ⟨e1, e2.imp_right fun e2 k hk => hs k (e2 k hk)⟩
           rcases hds with rfl | ⟨_, see, lo, hi, rfl, hf⟩
           · exact old d hd
           · rcases List.mem_cons.1 hd with rfl | hd
             · refine ⟨rfl, (ho (by omega)).imp_right fun h => ?_⟩
               obtain ⟨f, e1, e2⟩ := hf h.1
               intro k hk
               exact h.2 f e1 k (e2 ▸ hk)
             · exact old d hd
         have hput : w < i + 1 → ∀ d ∈ ds', d.put = [] ∨ d.i = w := fun hlt d hd => by
           rcases hds with rfl | ⟨_, see, lo, hi, rfl, _⟩
           · exact hc2 (by omega) d hd
           · rcases List.mem_cons.1 hd with rfl | hd
             · exact .inl rfl
             · exact hc2 (by omega) d hd
         have hst : i < w → ahead bef i w = true ∨ (memN q i = true ∧ isRead o.op = true) := fun hlt => by
           have := hw.1
           rw [if_pos hlt, hpu] at this
           simpa using this
         split at h
         · rename_i hq
           refine opsW_ok hl os (i + 1) _ st1 st' _ hal.2 hw.2 hI' (hsub _ (fun k hk => ?_) fun hlt => ?_) hput h
           · unfold footT'
             split
             · exact List.mem_append_right _ hk
             · exact hk
           · refine (hst hlt).imp_right fun e => ⟨e.2, fun f hf k hk => ?_⟩
             unfold footT'
             rw [hf]
             exact List.mem_append_left _ hk
         · rename_i hq
           refine opsW_ok hl os (i + 1) sn st1 st' _ hal.2 hw.2 hI' (hsub sn (fun k hk => hk) fun hlt => ?_) hput h
           refine (hst hlt).imp_right fun e => ?_
           rw [e.1] at hq
           cases hq
     · cases h
def drawTW (ops : Array Oper) (bef : Array Nat) (al mk late q : List Nat) (w : Nat) : Bool := drawT ops bef al mk late && wOk bef q w ops.toList 0
section
variable {P : Program} {n0 : Nat} {ro : Option Nat} {st st' : St} {K : Ex → St → Prop} {r : Rec} {m : Nat}
theorem E.drawW (hm : P.follows .mixedOrders = true) (hr : RecOk P r m) (al mk late q : List Nat) (w : Nat) {id : Nat} {ops : Array Oper} (hd : drawTW ops (Region.before ops) al mk late q w = true) (h : runW P r ops al mk late q w st = some st') (k : K .normal st') : E P n0 ro (.region id ops true) st K := by
 unfold drawTW drawT at hd
 simp only [Bool.and_eq_true] at hd
 obtain ⟨⟨⟨h1, h2⟩, h3⟩, h4⟩ := hd
 unfold runW at h
 split at h
 · rename_i hn
   exact E.draw hm hr h1 (opsW_ok h3 _ 0 [] st st' [] h2 h4 ⟨fun d hd => (by simp at hd), fun k h1 h2 => (by omega), namesOk_mem _ _ hn⟩ (fun _ d hd => (by simp at hd)) (fun _ d hd => (by simp at hd)) h) k
 · cases h
end
attribute [simp] runW opsW writeT handW footT' disj backA
end Go.Ab

namespace Go.Proofs.YtndlfijfjglkdaaGreatDoor
open Go Go.Ab Go.Proofs
abbrev nilS : Value := .slice none 0 0
def nils (n : Nat) : List Value := List.replicate n nilS
@[simp] theorem nils_length (n : Nat) : (nils n).length = n := by simp [nils]
@[simp] theorem afL_nils (n : Nat) : afL (nils n) = true := by
 induction n with
 | zero => rfl
 | succ n ih => unfold nils at ih ⊢; rw [List.replicate_succ]; simp [ih]
@[simp] theorem renL_nils (ρ : Nat → Nat) (n : Nat) : renL ρ (nils n) = nils n := by
 rw [renL_eq]
 simp [nils, nilS, ren]
@[simp] theorem scL_nils (p : Nat → Prop) (n : Nat) : scL p (nils n) := scL_af p _ (afL_nils n)
@[simp] theorem nspL_nils (b n : Nat) : nspL b (nils n) := nspL_af b _ (afL_nils n)
theorem nils_succ (n : Nat) : nils (n + 1) = nils n ++ [nilS] := by simp [nils, List.replicate_succ']
theorem nils_drop (n : Nat) (x : Value) : List.drop (n + 1) (nils n ++ [x]) = [] := List.drop_of_length_le (by simp)
@[simp] theorem nspL_append (b : Nat) (x y : List Value) : nspL b (x ++ y) = (nspL b x ∧ nspL b y) := by
 simp only [nspL_iff, List.mem_append, eq_iff_iff]
 exact ⟨fun h => ⟨fun v hv => h v (.inl hv), fun v hv => h v (.inr hv)⟩, fun h v hv => hv.elim (h.1 v) (h.2 v)⟩
theorem E.toATc {P : Program} {ro : Option Nat} {c : Code} {s s' : St} {e : Ex} (h : E P s.n ro c s fun e2 s2 => e2 = e ∧ s2.n = s'.n ∧ s2.sz = s'.sz ∧ s2.marks = s'.marks ∧ (∀ x ∈ s'.fr, lk s2.fr x.1 = some x.2) ∧ ∀ x ∈ s'.H, hget s2.H x.1 = some x.2) : AT P ro c s e s' := by
 obtain ⟨e2, s2, hx, rfl, h1, h2, h3, h4, h5⟩ := h
 exact (ATX.at hx).cut h1 h2 h3 (fun t v hv => h4 (t, v) (lk_mem _ _ _ hv)) (fun k b hk => h5 (k, b) (hget_mem _ _ _ hk))
noncomputable def asg135 : Code := match rfOf (bodyOf' Tryz.f135) with
 | some x => x.1
 | none => .skip
noncomputable def bdy135 : Code := match rfOf (bodyOf' Tryz.f135) with
 | some x => x.2
 | none => .skip
abbrev encR (l : List Gun) (d : ByteArray) (r i : Nat) : Int × Int := encT l d i r
abbrev fn237 : Value := .func (.func 237) #[] #[.pointer (some ⟨19, 0, none⟩)]
abbrev fr135 : Fr := [(31, fn237), (5, .pointer (some ⟨13, 0, none⟩)), (7, .pointer (some ⟨15, 0, none⟩)), (8, .pointer (some ⟨17, 0, none⟩))]
abbrev vs135 : List Nat := [5, 7, 8, 9, 11, 45, 46, 47]
noncomputable abbrev B135 (ls : LoopState) (l : List Gun) (d : ByteArray) (W : Nat) (os : List Value) : Heap := [(21, .loop ls none fr135 80 vs135 #[32, 33] asg135 bdy135 20), (20, .defd), (19, .cells [.slice (some ⟨10, 0, some 0⟩) l.length 0] 30), (18, .cells (pcs (rl (encR l d 0) W)) 92), (17, .cells [.slice (some ⟨16, 0, none⟩) (l.length + 1) (l.length + 1)] 201), (16, .ext os 64 1), (15, .cells [.slice (some ⟨14, 0, some 0⟩) (arrL d l).length 0] 45), (14, .ext ((arrL d l).map iv) 3 1), (13, .cells [iv W] 3), (10, .row (gcs l) 7)]
noncomputable def r135 (s1 s2 : St) : Rec := recV Tryz.prog (fun _ c _ => match c with
 | .seq _ _ => some (.normal, s1)
 | .block _ _ => some (.normal, s2)
 | _ => none) (fun _ _ _ _ => none)
theorem fr135_sc {m : Nat} (h : 20 ≤ m) : ∀ x ∈ fr135, sc (· < m) x.2 := by
 intro x hx
 simp only [fr135, List.mem_cons, List.not_mem_nil, or_false] at hx
 rcases hx with rfl | rfl | rfl | rfl <;> simp [sc, scL] <;> omega
@[simp high] theorem held135 {m : Nat} {ls : LoopState} {a b : Code} (h : 20 < m) : heldB m (.loop ls none fr135 80 vs135 #[32, 33] a b 20) = True := eq_true ⟨h, fr135_sc (by omega)⟩
@[simp] theorem scB_cells (p : Nat → Prop) (cs : List Value) (t : TypeId) : scB p (.cells cs t) = scL p cs := rfl
@[simp] theorem scB_ext (p : Nat → Prop) (cs : List Value) (t : TypeId) (sz : Nat) : scB p (.ext cs t sz) = scL p cs := rfl
@[simp] theorem scB_inp (p : Nat → Prop) (o : Nat) (cs : List Value) : scB p (.inp o cs) = scL p cs := rfl
@[simp] theorem scB_row (p : Nat → Prop) (cs : List Value) (sz : Nat) : scB p (.row cs sz) = scL p cs := rfl
@[simp] theorem scB_defd (p : Nat → Prop) : scB p .defd = True := rfl
@[simp] theorem scB_loop {p : Nat → Prop} {ls : LoopState} {pe : Option Code} {fr : Fr} {sz d : Nat} {vs : List Nat} {ps : Array Tmp} {a b : Code} (h1 : p d) (h2 : ∀ x ∈ fr, sc p x.2) : scB p (.loop ls pe fr sz vs ps a b d) = True := eq_true ⟨h1, fun t v hv => h2 (t, v) (lk_mem _ _ _ hv)⟩
@[simp] theorem heldB_cells (m : Nat) (cs : List Value) (t : TypeId) : heldB m (.cells cs t) = True := rfl
@[simp] theorem heldB_ext (m : Nat) (cs : List Value) (t : TypeId) (sz : Nat) : heldB m (.ext cs t sz) = True := rfl
@[simp] theorem heldB_inp (m o : Nat) (cs : List Value) : heldB m (.inp o cs) = True := rfl
@[simp] theorem heldB_row (m : Nat) (cs : List Value) (sz : Nat) : heldB m (.row cs sz) = True := rfl
@[simp] theorem heldB_defd (m : Nat) : heldB m .defd = True := rfl
noncomputable abbrev baseA (ls : LoopState) (l : List Gun) (d : ByteArray) (W : Nat) (os : List Value) : Heap := B135 ls l d W os
abbrev slA (W : Nat) : Value := .slice (some ⟨18, 0, none⟩) W W
noncomputable def NA (l : List Gun) (d : ByteArray) (W : Nat) (SP : List (Int × Int)) (i : Nat) : Nat → St
 | 0 => { fr := [(5, .pointer (some ⟨13, 0, none⟩)), (7, .pointer (some ⟨15, 0, none⟩)), (8, .pointer (some ⟨17, 0, none⟩)), (9, iv i), (11, slA W), (45, .slice (some ⟨23, 0, some 0⟩) W 0), (46, iv W), (47, iv 0)], sz := 80, H := (23, .ext (pcs SP) 92 2) :: baseA .busy l d W (nils i ++ [nilS]), n := 24, marks := [], vs := vs135 }
 | k + 1 => { fr := [(5, .pointer (some ⟨13, 0, none⟩)), (7, .pointer (some ⟨15, 0, none⟩)), (8, .pointer (some ⟨17, 0, none⟩)), (9, iv i), (11, slA W), (45, .slice (some ⟨23, 0, some 0⟩) W 0), (46, iv W), (47, iv (k + 1 : Nat))], sz := 80, H := (24, .ext (pcs (rl (encR l d (1)) (k + 1))) 92 2) :: (23, .ext (pcs SP) 92 2) :: baseA .busy l d W (nils i ++ [.slice (some ⟨24, 0, some 0⟩) (k + 1) 0]), n := 25, marks := [], vs := vs135 }
set_option maxRecDepth 100000 in
theorem yield135A (l : List Gun) (d : ByteArray) (W : Nat) (i : Nat) (hst : strE l = 0) (hW : 1 ≤ W ∧ W ≤ 64) (hi : i + 1 + 0 = l.length) :
   ∃ q, RecOk Tryz.prog q 0 ∧ yieldF q 21 [iv i, .agg ⟨(l[i]'(by omega)).cells⟩] (baseA .ready l d W (nils i ++ [nilS, slA W])) 22 = some (.bool true, (24, .ext (pcs (rl (encR l d (1)) W)) 92 2) :: B135 .ready l d W (nils i ++ [.slice (some ⟨24, 0, some 0⟩) W 0]), 25) := by
 have hr := recT_ok (P := Tryz.prog) (l := [(197, g197)]) (by simp only [List.forall_mem_cons]; exact ⟨ok197, by simp⟩)
 obtain ⟨h1, h8⟩ := strE_len hst
 have hil : i < l.length := by omega
 obtain ⟨g, hg⟩ : ∃ g, g = l[i] := ⟨_, rfl⟩
 rw [← hg]
 have hgm : g ∈ l := hg ▸ List.getElem_mem hil
 obtain ⟨hvb, _, _, _, hlo, hhi⟩ := gun_nums hst g hgm
 have hor := gun_order hst g hgm
 have hka : i < (arrL d l).length := by rw [arrL_length]; omega
 have hkaI : (i : Int) < (arrL d l).length := by omega
 have hab := arrL_bounds hst d _ (List.getElem_mem hka)
 obtain ⟨b, hbb⟩ : ∃ b, b = (arrL d l)[i] := ⟨_, rfl⟩
 rw [← hbb] at hab
 have hb1 := hab.1
 have hb2 : b ≤ 4096 := by omega
 obtain ⟨SP, hSP⟩ : ∃ SP, SP = prL g.v b g.lo W (g.hi - g.lo).toNat := ⟨_, rfl⟩
 have hSPl : SP.length = W := by rw [hSP]; simp
 have hSPg : ∀ k (h : k < SP.length), SP[k] = (gMn g (k - b), gMx g (k - b)) := fun k h => by
   have : SP = _ := hSP.trans (prL_gM hvb ⟨hb1, hb2⟩ hlo.1 hhi.2 hor)
   subst this
   rw [rl_getElem]
 have hW1 : 1 ≤ (W : Int) := by omega
 have hW2 : (W : Int) ≤ 64 := by omega
 have hv1 := hvb.1
 have hv2 := hvb.2
 have hlo0 := hlo.1
 have hhi4 := hhi.2
 have hwi : IntKind.i64.wrap ((i : Int) + 1) = (i : Int) + 1 := W_in (by omega) (by omega)
 have hi0 : (i : Int) < l.length + 1 := by omega
 have hi1 : (i : Int) + 1 < l.length + 1 := by omega
 let s1 : St := { fr := [(5, .pointer (some ⟨13, 0, none⟩)), (7, .pointer (some ⟨15, 0, none⟩)), (8, .pointer (some ⟨17, 0, none⟩)), (9, iv i), (10, .pointer (some ⟨22, 0, none⟩))], sz := 80, H := (22, .cells g.cells 95) :: baseA .ready l d W (nils i ++ [nilS, slA W]), n := 23, marks := [], vs := vs135 }
 let s2 : St := { fr := [], sz := 80, H := (24, .ext (pcs (rl (encR l d (1)) W)) 92 2) :: B135 .busy l d W (nils i ++ [.slice (some ⟨24, 0, some 0⟩) W 0]), n := 25, marks := [], vs := [] }
 refine ⟨r135 s1 s2, recV_ok, ?_⟩
 have hA : AT Tryz.prog (some 21) asg135 { fr := (33, .agg ⟨g.cells⟩) :: (32, iv i) :: fr135, sz := 80, H := baseA .ready l d W (nils i ++ [nilS, slA W]), n := 22, marks := [], vs := vs135 } .normal s1 := by
   refine E.toATc ?_
   refine E.seq ?_
   refine E.reg hr (by simp; rfl) ?_
   refine E.reg hr (by simp; rfl) ?_
   exact ⟨rfl, rfl, rfl, rfl, by simp [s1], by simp [s1]⟩
 have hB : AT Tryz.prog (some 21) bdy135 { s1 with H := (22, .cells g.cells 95) :: baseA .busy l d W (nils i ++ [nilS, slA W]) } .normal s2 := by
   refine E.toATc ?_
   refine E.block ?_
   refine E.seq ?_
   refine E.reg hr (by simp [s1, hwi, hi1]; rfl) ?_
   refine E.seq ?_
   refine E.drawC mixed hr [6] [6] [0, 1, 4, 5, 6] (by kernel_rfl) (by simp [hka, hkaI, ← hbb, g197, hv1, hv2, hb1, hb2, hlo0, hhi4, hor, hW1, hW2, ← hSP]; rfl) ?_
   refine E.block ?_
   refine E.loop ?_
   refine EL.ind (NA l d W SP i) (fun k => W - k) (fun k => k ≤ W) 0 (Leads.short 16 (nils i ++ [nilS]) [slA W] 64 1 (by simp) rfl rfl rfl (by simp [NA]) (by simp [NA])) (Nat.zero_le _) (fun k => by cases k <;> rfl) ?_
   intro k hk
   rcases k with _ | k
   · by_cases hkW : 0 < W
     rotate_left
     · omega
     have hts : pcs (rl (encR l d (1)) 1) = [iv (encR l d (1) 0).1, iv (encR l d (1) 0).2] := by rw [rl_succ, rl_zero, List.nil_append]; rfl
     have hw : IntKind.i64.wrap 1 = 1 := W_in (by omega) (by omega)
     have hkI : (0 : Int) < W := by omega
     have hks : 0 < SP.length := by omega
     have c1 : 1 < W * 2 := by omega
     have c2 : 2 ≤ W * 2 := by omega
     have hsm : (0 + 1) * 16 ≤ 1099511627776 ∧ (0 + 1) * 2 ≤ 1099511627776 ∧ 0 + 1 ≤ 1099511627776 := by omega
     have et := pcs_take hks
     rw [hSPg _ hks] at et
     rw [Nat.zero_mul, List.drop_zero] at et
     have hrk : 0 < (rl (encR l d 0) W).length := by simp; omega
     have e0 := pcs_0E hrk (by simp; omega)
     have e1 := pcs_1E hrk (by simp; omega)
     rw [rl_getElem] at e0 e1
     obtain ⟨y, hy⟩ : ∃ y, y = encR l d 0 0 := ⟨_, rfl⟩
     have hyb := encT_bd d hst (0 : Nat) 0 (by omega)
     rw [show encT l d ((0 : Nat) : Int) 0 = y from hy.symm] at hyb
     rw [← hy] at e0 e1
     simp only [Nat.zero_mul, Nat.zero_add] at e0 e1
     obtain ⟨x, hx⟩ : ∃ x : Int × Int, x = (gMn g (((0 : Nat) : Int) - b), gMx g (((0 : Nat) : Int) - b)) := ⟨_, rfl⟩
     rw [← hx] at et
     have hxb : (-256 ≤ x.1 ∧ x.1 ≤ 256) ∧ -256 ≤ x.2 ∧ x.2 ≤ 256 := by rw [hx]; exact ⟨gMn_bd hvb _, gMx_bd hvb _⟩
     have hsu : encR l d (1) 0 = (x.1 + y.1, x.2 + y.2) := by
       show encT l d ((0 : Nat) : Int) (1) = _
       rw [encT, show l.length - (1) = i by omega, gAt_at l hil, ← hg, getD_at hka, ← hbb, hx, hy]
     have q3 : IntKind.i64.wrap (x.1 + y.1) = x.1 + y.1 := W_in (by omega) (by omega)
     have q4 : IntKind.i64.wrap (x.2 + y.2) = x.2 + y.2 := W_in (by omega) (by omega)
     rw [hsu] at hts
     refine E.seq ?_
     refine E.reg hr (by simp [NA]; rfl) ?_
     refine E.seq ?_
     refine E.cond (by rfl) (fun h2 => ?_) (fun h2 => ?_)
     rotate_left
     · simp at h2
       omega
     clear h2
     refine E.skip ?_
     refine E.seq ?_
     refine E.block ?_
     refine E.seq ?_
     refine E.reg hr (by simp [hkW, hSPl, c2, et]; rfl) ?_
     refine E.drawC mixed hr [26] [23, 24, 26] [0, 2, 5, 7, 12, 15, 20, 23, 24, 26] (by kernel_rfl) (by simp [hi0, hkW, nils_drop, c1, e0, e1, q3, q4, build92, ]; rfl) ?_
     refine E.reg hr (by simp [hw]; rfl) ?_
     exact ⟨0 + 1, Leads.ren2 [23, 26] rfl rfl rfl ⟨rfl, rfl⟩ (by simp [NA, s1]) (by simp [NA, s1, hts, -scB]), by dsimp only; omega, by dsimp only; omega⟩
   · by_cases hkW : k + 1 < W
     rotate_left
     · obtain rfl : W = k + 1 := by omega
       refine E.seq ?_
       refine E.reg hr (by simp [NA]; rfl) ?_
       refine E.seq ?_
       refine E.cond (by rfl) (fun h2 => ?_) (fun h2 => ?_)
       · simp at h2
       refine E.exit ?_
       exact ⟨rfl, rfl, rfl, rfl, by simp [s2], by simp [s2]⟩
     have hpl : (pcs (rl (encR l d (1)) (k + 1))).length = (k + 1) * 2 := by simp
     have ht : List.take ((k + 1) * 2) (pcs (rl (encR l d (1)) (k + 1))) = pcs (rl (encR l d (1)) (k + 1)) := List.take_of_length_le (by omega)
     have hno : ¬ (k + 1 + 1) * 2 ≤ (k + 1) * 2 := by omega
     have hts : pcs (rl (encR l d (1)) (k + 1 + 1)) = pcs (rl (encR l d (1)) (k + 1)) ++ [iv (encR l d (1) (k + 1)).1, iv (encR l d (1) (k + 1)).2] := by rw [rl_succ, pcs_append]; rfl
     have hw : IntKind.i64.wrap ((k : Int) + 1 + 1) = (k : Int) + 1 + 1 := W_in (by omega) (by omega)
     have hkI : ((k : Int) + 1) < W := by omega
     have hks : k + 1 < SP.length := by omega
     have c0 : (k + 1) * 2 < W * 2 := by omega
     have c1 : (k + 1) * 2 + 1 < W * 2 := by omega
     have c2 : (k + 1) * 2 + 2 ≤ W * 2 := by omega
     have hsm : ((k + 1) + 1) * 16 ≤ 1099511627776 ∧ ((k + 1) + 1) * 2 ≤ 1099511627776 ∧ (k + 1) + 1 ≤ 1099511627776 := by omega
     have et := pcs_take hks
     rw [hSPg _ hks] at et
     have hrk : k + 1 < (rl (encR l d 0) W).length := by simp; omega
     have e0 := pcs_0E hrk (by simp; omega)
     have e1 := pcs_1E hrk (by simp; omega)
     rw [rl_getElem] at e0 e1
     obtain ⟨y, hy⟩ : ∃ y, y = encR l d 0 (k + 1) := ⟨_, rfl⟩
     have hyb := encT_bd d hst ((k + 1) : Nat) 0 (by omega)
     rw [show encT l d (((k + 1) : Nat) : Int) 0 = y from hy.symm] at hyb
     rw [← hy] at e0 e1
     obtain ⟨x, hx⟩ : ∃ x : Int × Int, x = (gMn g ((((k + 1) : Nat) : Int) - b), gMx g ((((k + 1) : Nat) : Int) - b)) := ⟨_, rfl⟩
     rw [← hx] at et
     have hxb : (-256 ≤ x.1 ∧ x.1 ≤ 256) ∧ -256 ≤ x.2 ∧ x.2 ≤ 256 := by rw [hx]; exact ⟨gMn_bd hvb _, gMx_bd hvb _⟩
     have hsu : encR l d (1) (k + 1) = (x.1 + y.1, x.2 + y.2) := by
       show encT l d (((k + 1) : Nat) : Int) (1) = _
       rw [encT, show l.length - (1) = i by omega, gAt_at l hil, ← hg, getD_at hka, ← hbb, hx, hy]
     have q3 : IntKind.i64.wrap (x.1 + y.1) = x.1 + y.1 := W_in (by omega) (by omega)
     have q4 : IntKind.i64.wrap (x.2 + y.2) = x.2 + y.2 := W_in (by omega) (by omega)
     rw [hsu] at hts
     refine E.seq ?_
     refine E.reg hr (by simp [NA]; rfl) ?_
     refine E.seq ?_
     refine E.cond (by rfl) (fun h2 => ?_) (fun h2 => ?_)
     rotate_left
     · simp at h2
       omega
     clear h2
     refine E.skip ?_
     refine E.seq ?_
     refine E.block ?_
     refine E.seq ?_
     refine E.reg hr (by simp [hkI, hSPl, c2, et]; rfl) ?_
     refine E.drawW mixed hr [26] [23, 24, 26] [0, 2, 5, 7, 12, 15, 20, 23, 24, 26] [0, 1] 24 (by kernel_rfl) (by simp [hi0, hkI, nils_drop, c0, c1, e0, e1, q3, q4, build92, ht, hpl, hno, hsm, ]; rfl) ?_
     refine E.reg hr (by simp [hw]; rfl) ?_
     exact ⟨k + 1 + 1, Leads.ren2 [23, 27] rfl rfl rfl ⟨rfl, rfl⟩ (by simp [NA, s1]) (by simp [NA, s1, hts, -scB]), by dsimp only; omega, by dsimp only; omega⟩
 have hh : hset s2.H 21 (.loop .ready none fr135 80 vs135 #[32, 33] asg135 bdy135 20) = (24, .ext (pcs (rl (encR l d (1)) W)) 92 2) :: B135 .ready l d W (nils i ++ [.slice (some ⟨24, 0, some 0⟩) W 0]) := by simp [s2]
 rw [← hh]
 refine yieldF_of (s1 := s1) (s2 := s2) (fr := fr135) (sz := 80) (vs := vs135) (ps := #[32, 33]) (a := asg135) (b := bdy135) (d := 20) (by simp) rfl ?_ (by simp [s1]) ?_ (by simp [s2])
 · exact recV_code (by intro b h; cases h) rfl hA
 · show (r135 s1 s2).code (some 21) bdy135 { s1 with H := hset s1.H 21 _ } = _
   rw [show hset s1.H 21 (.loop .busy none fr135 80 vs135 #[32, 33] asg135 bdy135 20) = (22, .cells g.cells 95) :: baseA .busy l d W (nils i ++ [nilS, slA W]) by simp [s1]]
   exact recV_code (by intro b h; cases h) rfl hB
end Go.Proofs.YtndlfijfjglkdaaGreatDoor
