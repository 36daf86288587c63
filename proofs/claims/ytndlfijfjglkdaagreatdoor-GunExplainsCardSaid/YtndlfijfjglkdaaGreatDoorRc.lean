/-
Contracts and plain reckonings behind the law GunExplains, part 3 of 8 (each under the conditions in its statement).
-/
import Derived.Maps.RangeRun
import Derived.Test.YtndlfijfjglkdaaGreatDoorRb
import Derived.Test.YtndlfijfjglkdaaGreatDoorRa
import Derived.Test.YtndlfijfjglkdaaGreatDoorAf
namespace Go.Proofs.YtndlfijfjglkdaaGreatDoor
open Go Go.Ab Go.Proofs
end Go.Proofs.YtndlfijfjglkdaaGreatDoor

namespace Go.Proofs.YtndlfijfjglkdaaGreatDoor
open Go Go.Ab Go.Proofs
def sumF (l : List Gun) (sh : List Int) (d : ByteArray) (i : Nat) : Int := sumP l sh d i l.length
theorem sig_rl {l : List Gun} {sh : List Int} (hst : strE l = 0) (hsh : shE l sh = 0) (d : ByteArray) (W : Nat) : sigN l sh d W l.length = rl (sumF l sh d) W := by
 apply List.ext_getElem?
 intro j
 by_cases hj : j < W
 · rw [sigN_get hst hsh d hj _ (Nat.le_refl _), List.getElem?_eq_getElem (by simpa using hj), rl_getElem]
   rfl
 · rw [List.getElem?_eq_none (by simp; omega), List.getElem?_eq_none (by simp; omega)]
abbrev H45 (l : List Gun) (sh : List Int) (o c o2 : Nat) : Heap := [(12, .cells [.slice (some ⟨10, o, none⟩) l.length c] 24), (11, .inp o2 (sh.map iv)), (10, .inp o (gcs l))]
abbrev F45 (sh : List Int) (d : ByteArray) (o2 c2 W : Nat) (out : Value) (i : Nat) : Fr := [(1, .slice (some ⟨11, o2, none⟩) sh.length c2), (2, .slice none 0 0), (3, sv d), (4, iv W), (5, .pointer (some ⟨12, 0, none⟩)), (11, out), (12, iv i)]
abbrev vs45 : List Nat := [1, 2, 3, 4, 5, 11, 12, 13, 14]
def S45 (l : List Gun) (sh : List Int) (d : ByteArray) (o c o2 c2 W : Nat) : Nat → St
 | 0 => { fr := F45 sh d o2 c2 W (.slice none 0 0) 0, sz := 60, H := H45 l sh o c o2, n := 13, marks := [], vs := vs45 }
 | i + 1 => { fr := F45 sh d o2 c2 W (.slice (some ⟨13, 0, some 0⟩) (i + 1) 0) (i + 1), sz := 60, H := (13, .ext ((rl (sumF l sh d) (i + 1)).map iv) 3 1) :: H45 l sh o c o2, n := 14, marks := [], vs := vs45 }
def I45 (l : List Gun) (sh : List Int) (d : ByteArray) (o2 c2 W : Nat) (out : Value) (i : Nat) (X : Heap) (n k : Nat) : St := { fr := F45 sh d o2 c2 W out i ++ [(13, iv (sumP l sh d i k)), (14, iv k)], sz := 60, H := X, n := n, marks := [], vs := vs45 }
set_option maxRecDepth 100000 in
theorem w45 (l : List Gun) (sh : List Int) (d : ByteArray) (o c o2 c2 W : Nat) (hst : strE l = 0) (hd : hasW d dirs = true) (hsh : shE l sh = 0) (hW : 1 ≤ W ∧ W ≤ 64) : ∃ u H1 n1 H2, AC Tryz.prog 45 [strV o l.length c, .slice (some ⟨11, o2, none⟩) sh.length c2, .slice none 0 0, sv d, iv W] [(11, .inp o2 (sh.map iv)), (10, .inp o (gcs l))] 12 u H1 n1 ∧ intQ 12 (sigN l sh d W l.length) u H2 ∧ (af u = false → H1 = H2) := by
 have hr := recT_ok (P := Tryz.prog) (l := [(67, g67), (30, g30), (130, g3 pulseV)]) (by simp only [List.forall_mem_cons]; exact ⟨ok67, ok30, ok130, by simp⟩)
 obtain ⟨h1, h8⟩ := strE_len hst
 obtain ⟨hse, hsb⟩ := shE_zero hsh
 have hsat : ∀ G : Heap, hget G 10 = some (.inp o (gcs l)) → strAt G (strV o l.length c) = some l := fun G hG => by
   unfold strAt gunsAt
   simp [hG, List.take_of_length_le, gunsOf_gcs, show l.length < 9223372036854775808 by omega]
 refine AC.out Tryz.func45 rfl (by kernel_rfl) rfl vs45 ?_
 refine E.seq ?_
 refine E.reg hr (by simp; rfl) ?_
 refine E.seq ?_
 refine E.reg hr (by simp; rfl) ?_
 refine E.seq ?_
 refine E.seq ?_
 refine E.reg hr (by simp; rfl) ?_
 refine E.block ?_
 refine E.loop ?_
 refine EL.ind (S45 l sh d o c o2 c2 W) (fun i => W - i) (fun i => i ≤ W) 0 (.less rfl rfl rfl (by simp [S45]) (by simp [S45])) (Nat.zero_le _) (fun i => by cases i <;> rfl) ?_
 intro i hi
 rcases i with _ | i
 · have hw : IntKind.i64.wrap 1 = 1 := W_in (by omega) (by omega)
   refine E.seq ?_
   refine E.seq ?_
   refine E.reg hr (by simp [S45]; rfl) ?_
   refine E.cond (by rfl) (fun h => ?_) (fun h => ?_)
   · simp at h
     have hts : (rl (sumF l sh d) 1).map iv = [iv (sumF l sh d 0)] := rfl
     refine E.skip ?_
     refine E.seq ?_
     refine E.block ?_
     refine E.seq ?_
     refine E.reg hr (by simp; rfl) ?_
     refine E.seq ?_
     refine E.seq ?_
     refine E.reg hr (by simp; rfl) ?_
     refine E.block ?_
     refine E.loop ?_
     refine EL.ind (fun k => I45 l sh d o2 c2 W (.slice none 0 0) 0 (H45 l sh o c o2) 13 k) (fun k => l.length - k) (fun k => k ≤ l.length) 0 (.less rfl rfl rfl (by simp [I45, sumP]) (by simp [I45])) (Nat.zero_le _) (fun _ => rfl) ?_
     intro k hk
     refine E.seq ?_
     refine E.seq ?_
     refine E.reg hr (by simp [I45]; rfl) ?_
     refine E.cond (by rfl) (fun h2 => ?_) (fun h2 => ?_)
     · simp at h2
       have hwk : IntKind.i64.wrap ((k : Int) + 1) = (k : Int) + 1 := W_in (by omega) (by omega)
       have hkI : (k : Int) < l.length := by omega
       have hks : k < sh.length := by omega
       have hksI : (k : Int) < sh.length := by omega
       have c1 : k * 7 + 1 < l.length * 7 := by omega
       have hvE := gcs_vE h2 (by simp; omega)
       have o1 : o ≤ o + k * 7 + 1 := by omega
       have o2' : o + k * 7 + 1 - o = k * 7 + 1 := by omega
       have hka : k < (arrL d l).length := by rw [arrL_length]; omega
       have hav : arrV d l k = (arrL d l)[k] := by rw [← arr_same hst hd h2, getD_at hka]
       have hab := arrL_bounds hst d _ (List.getElem_mem hka)
       obtain ⟨hvb, _⟩ := gun_nums hst l[k] (List.getElem_mem h2)
       have hpb := pulse256 (s := sh[k]) (i := -(arrL d l)[k]) hvb
       have hsb' := sum_bound (sh := sh) hst d 0 k (by omega)
       have q1 : IntKind.i64.wrap (-arrV d l k) = -arrV d l k := by rw [hav]; exact W_in (by omega) (by omega)
       have q2 : IntKind.i64.wrap (sumP l sh d 0 k + pulseV l[k].v sh[k] (-arrV d l k)) = sumP l sh d 0 (k + 1) := by
         rw [sumP, vAt_at h2, getD_at hka, getD_at hks, hav, Int.zero_sub]
         exact W_in (by omega) (by omega)
       refine E.skip ?_
       refine E.seq ?_
       refine E.block ?_
       refine E.seq ?_
       refine E.reg hr (by simp [h2, hkI, gcs_nameE h2, g67]; rfl) ?_
       refine E.cond (by rfl) (fun h3 => ?_) (fun h3 => ?_)
       rotate_left
       · simp at h3
       refine E.drawC mixed hr [17] [15, 17] [2, 6, 10, 12, 15, 17] (by kernel_rfl) (by simp [hkI, c1, hvE, o1, o2', hks, hksI, g30, hsat, hst, hd, q1, g3]; rfl) ?_
       refine E.reg hr (by simp [hwk]; rfl) ?_
       exact ⟨k + 1, .less rfl rfl rfl (by simp [I45, q2]) (by simp [I45]), h2, by dsimp only; omega⟩
     · simp at h2
       obtain rfl : k = l.length := by omega
       refine E.exit ?_
       refine E.reg hr (by simp; rfl) ?_
       refine E.reg hr (by simp [hw]; rfl) ?_
       exact ⟨1, Leads.ren [12, 14] rfl rfl rfl ⟨rfl, rfl⟩ (by simp [S45]) (by simp [S45, hts, sumF]), by omega, by dsimp only; omega⟩
   · simp at h
     omega
 · have hw : IntKind.i64.wrap ((i : Int) + 1 + 1) = (i : Int) + 1 + 1 := W_in (by omega) (by omega)
   have ht : List.take (i + 1) ((rl (sumF l sh d) (i + 1)).map iv) = (rl (sumF l sh d) (i + 1)).map iv := List.take_of_length_le (by simp)
   refine E.seq ?_
   refine E.seq ?_
   refine E.reg hr (by simp [S45]; rfl) ?_
   refine E.cond (by rfl) (fun h => ?_) (fun h => ?_)
   · simp at h
     have hiW : i + 1 < W := by omega
     have hsm : (i + 1 + 1) * 8 ≤ 1099511627776 ∧ i + 1 + 1 ≤ 1099511627776 := by omega
     have hts : (rl (sumF l sh d) (i + 1 + 1)).map iv = (rl (sumF l sh d) (i + 1)).map iv ++ [iv (sumF l sh d (i + 1))] := by rw [rl_succ, List.map_append]; rfl
     refine E.skip ?_
     refine E.seq ?_
     refine E.block ?_
     refine E.seq ?_
     refine E.reg hr (by simp; rfl) ?_
     refine E.seq ?_
     refine E.seq ?_
     refine E.reg hr (by simp; rfl) ?_
     refine E.block ?_
     refine E.loop ?_
     refine EL.ind (fun k => I45 l sh d o2 c2 W (.slice (some ⟨13, 0, some 0⟩) (i + 1) 0) (i + 1) ((13, .ext ((rl (sumF l sh d) (i + 1)).map iv) 3 1) :: H45 l sh o c o2) 14 k) (fun k => l.length - k) (fun k => k ≤ l.length) 0 (.less rfl rfl rfl (by simp [I45, sumP]) (by simp [I45])) (Nat.zero_le _) (fun _ => rfl) ?_
     intro k hk
     refine E.seq ?_
     refine E.seq ?_
     refine E.reg hr (by simp [I45]; rfl) ?_
     refine E.cond (by rfl) (fun h2 => ?_) (fun h2 => ?_)
     · simp at h2
       have hwk : IntKind.i64.wrap ((k : Int) + 1) = (k : Int) + 1 := W_in (by omega) (by omega)
       have hkI : (k : Int) < l.length := by omega
       have hks : k < sh.length := by omega
       have hksI : (k : Int) < sh.length := by omega
       have c1 : k * 7 + 1 < l.length * 7 := by omega
       have hvE := gcs_vE h2 (by simp; omega)
       have o1 : o ≤ o + k * 7 + 1 := by omega
       have o2' : o + k * 7 + 1 - o = k * 7 + 1 := by omega
       have hka : k < (arrL d l).length := by rw [arrL_length]; omega
       have hav : arrV d l k = (arrL d l)[k] := by rw [← arr_same hst hd h2, getD_at hka]
       have hab := arrL_bounds hst d _ (List.getElem_mem hka)
       obtain ⟨hvb, _⟩ := gun_nums hst l[k] (List.getElem_mem h2)
       have hpb := pulse256 (s := sh[k]) (i := (i : Int) + 1 - (arrL d l)[k]) hvb
       have hsb' := sum_bound (sh := sh) hst d ((i : Int) + 1) k (by omega)
       have q1 : IntKind.i64.wrap ((i : Int) + 1 - arrV d l k) = (i : Int) + 1 - arrV d l k := by rw [hav]; exact W_in (by omega) (by omega)
       have q2 : IntKind.i64.wrap (sumP l sh d ((i : Int) + 1) k + pulseV l[k].v sh[k] ((i : Int) + 1 - arrV d l k)) = sumP l sh d ((i : Int) + 1) (k + 1) := by
         rw [sumP, vAt_at h2, getD_at hka, getD_at hks, hav]
         exact W_in (by omega) (by omega)
       refine E.skip ?_
       refine E.seq ?_
       refine E.block ?_
       refine E.seq ?_
       refine E.reg hr (by simp [h2, hkI, gcs_nameE h2, g67]; rfl) ?_
       refine E.cond (by rfl) (fun h3 => ?_) (fun h3 => ?_)
       rotate_left
       · simp at h3
       refine E.drawC mixed hr [17] [15, 17] [2, 6, 10, 12, 15, 17] (by kernel_rfl) (by simp [hkI, c1, hvE, o1, o2', hks, hksI, g30, hsat, hst, hd, q1, g3]; rfl) ?_
       refine E.reg hr (by simp [hwk]; rfl) ?_
       exact ⟨k + 1, .less rfl rfl rfl (by simp [I45, q2]) (by simp [I45]), h2, by dsimp only; omega⟩
     · simp at h2
       obtain rfl : k = l.length := by omega
       refine E.exit ?_
       refine E.reg hr (by simp [ht, hsm]; rfl) ?_
       refine E.reg hr (by simp [hw]; rfl) ?_
       exact ⟨i + 2, Leads.ren [12, 15] rfl rfl rfl ⟨rfl, rfl⟩ (by simp [S45]) (by simp [S45, hts, sumF]), by omega, by dsimp only; omega⟩
   · simp at h
     obtain rfl : W = i + 1 := by omega
     refine E.exit ?_
     refine E.seq ?_
     refine E.reg hr (by simp; rfl) ?_
     refine E.ret ?_
     refine outK.ret rfl rfl ?_
     exact ⟨13, by simp, by simp [sig_rl hst hsh], by omega⟩
def g45 (args : List Value) (H : Heap) (n : Nat) : R := match args with
 | [v, .slice (some a) slen _, .slice none 0 0, .string d, .int .i64 w] => match strAt H v, intsAt H a slen with
   | some l, some sh => if strE l = 0 ∧ hasW d dirs = true ∧ shE l sh = 0 ∧ 1 ≤ w ∧ w ≤ 64 then some (.slice (some ⟨n, 0, some 0⟩) (sigN l sh d w.toNat l.length).length 0, (n, .ext ((sigN l sh d w.toNat l.length).map iv) 3 1) :: H, n + 1) else none
   | _, _ => none
 | _ => none
theorem ok45 : EntOk Tryz.prog (45, g45) := by
 intro args H n v H' n' h'
 simp only [g45] at h'
 split at h'
 · rename_i v0 a slen cap0 d w
   split at h'
   · rename_i l sh hg ht
     split at h'
     · rename_i hc
       obtain ⟨hst, hd, hsh, hw1, hw2⟩ := hc
       obtain ⟨W, rfl⟩ := Int.eq_ofNat_of_zero_le (show 0 ≤ w by omega)
       injection h' with h'; injection h' with e1 e2; injection e2 with e2 e3; subst e1 e2 e3
       have h1 := (strE_len hst).1
       obtain ⟨hf2, hc2, hlen, _⟩ := intsAt_ok ht
       subst hlen
       unfold strAt at hg
       split at hg
       · injection hg with hg; subst hg; simp at h1
       · obtain ⟨hf, hc, hlen, _⟩ := gunsAt_ok hg
         subst hlen
         refine AC.liftF (names_sx _ _) (.inr ⟨_, _, _, rfl, afL_iv _⟩) (Part.two (fun x y => [.agg ⟨[x]⟩, y, .slice none 0 0, sv d, iv W]) (by intro φ φ0 s s0 u u0 h h2; simp [denL, den, h, h2]) (by intro p s u h h2; exact ⟨⟨h, trivial⟩, h2, trivial, trivial, trivial, trivial⟩) hf hc (afL_gcs l) hf2 hc2 (afL_iv sh) [] (by simp [Seen]) gsz fun c c2 => ?_)
         obtain ⟨u, H1, n1, H2, hAC, ⟨m, hu, hm, hle⟩, hh⟩ := w45 l sh d _ c _ c2 W hst hd hsh ⟨by omega, by omega⟩
         subst hu
         have := hh (by simp)
         subst this
         exact ⟨m, _, _, hle, hm, hAC⟩
       · cases hg
     · cases h'
   · cases h'
 · cases h'
end Go.Proofs.YtndlfijfjglkdaaGreatDoor

namespace Go.Proofs.YtndlfijfjglkdaaGreatDoor
open Go Go.Ab Go.Proofs
end Go.Proofs.YtndlfijfjglkdaaGreatDoor

namespace Go.Proofs.YtndlfijfjglkdaaGreatDoor
open Go Go.Ab Go.Proofs
end Go.Proofs.YtndlfijfjglkdaaGreatDoor

namespace Go.Proofs.YtndlfijfjglkdaaGreatDoor
open Go Go.Ab Go.Proofs
def pcs (l : List (Int × Int)) : List Value := l.flatMap fun p => [iv p.1, iv p.2]
theorem pcs_append (a b : List (Int × Int)) : pcs (a ++ b) = pcs a ++ pcs b := by simp [pcs]
theorem pcs_cons (p : Int × Int) (l : List (Int × Int)) : pcs (p :: l) = iv p.1 :: iv p.2 :: pcs l := rfl
@[simp] theorem pcs_length (l : List (Int × Int)) : (pcs l).length = l.length * 2 := by
 induction l with
 | nil => rfl
 | cons p l ih => rw [pcs_cons, List.length_cons, List.length_cons, ih, List.length_cons]; omega
theorem afL_pcs (l : List (Int × Int)) : afL (pcs l) = true := by
 induction l with
 | nil => rfl
 | cons p l ih => rw [pcs_cons]; simp [ih]
@[simp] theorem renL_pcs (ρ : Nat → Nat) (l : List (Int × Int)) : renL ρ (pcs l) = pcs l := by
 rw [renL_eq]
 induction l with
 | nil => rfl
 | cons p l ih => rw [pcs_cons, List.map_cons, List.map_cons, ih]; rfl
@[simp] theorem scL_pcs (p : Nat → Prop) (l : List (Int × Int)) : scL p (pcs l) := scL_af p _ (afL_pcs l)
theorem pcs_split {l : List (Int × Int)} {i : Nat} (h : i < l.length) (q : Int × Int) : pcs l = pcs (l.take i) ++ (iv l[i].1 :: iv l[i].2 :: pcs (l.drop (i + 1))) ∧ pcs (l.set i q) = pcs (l.take i) ++ (iv q.1 :: iv q.2 :: pcs (l.drop (i + 1))) ∧ (pcs (l.take i)).length = i * 2 := by
 refine ⟨?_, ?_, by rw [pcs_length, List.length_take]; omega⟩
 · conv => lhs; rw [← List.take_append_drop i l, List.drop_eq_getElem_cons h]
   rw [pcs_append, pcs_cons]
 · rw [List.set_eq_take_append_cons_drop, if_pos h, pcs_append, pcs_cons]
theorem pcs_set {l : List (Int × Int)} {i : Nat} (h : i < l.length) (a b : Int) : (pcs l).take (i * 2) ++ iv a :: iv b :: (pcs l).drop (i * 2 + 2) = pcs (l.set i (a, b)) := by
 obtain ⟨e1, e2, e3⟩ := pcs_split h (a, b)
 rw [e2, e1, ← e3, List.drop_length_add_append, List.take_append_of_le_length (Nat.le_refl _), List.take_length]
 rfl
theorem pcs_take {l : List (Int × Int)} {i : Nat} (h : i < l.length) : ((pcs l).drop (i * 2)).take 2 = [iv l[i].1, iv l[i].2] := by
 obtain ⟨e1, _, e3⟩ := pcs_split h (0, 0)
 rw [e1, ← e3, List.drop_append_of_le_length (Nat.le_refl _), List.drop_length]
 rfl
theorem pcs_0E {l : List (Int × Int)} {i : Nat} (h : i < l.length) (h2 : i * 2 < (pcs l).length) : (pcs l)[i * 2] = iv l[i].1 := by
 have e := congrArg (·[0]?) (pcs_take h)
 simp only [List.getElem?_take, List.getElem?_drop] at e
 rw [if_pos (by omega), Nat.add_zero, List.getElem?_eq_getElem h2] at e
 exact Option.some.inj e
theorem pcs_1E {l : List (Int × Int)} {i : Nat} (h : i < l.length) (h2 : i * 2 + 1 < (pcs l).length) : (pcs l)[i * 2 + 1] = iv l[i].2 := by
 have e := congrArg (·[1]?) (pcs_take h)
 simp only [List.getElem?_take, List.getElem?_drop] at e
 rw [if_pos (by omega), List.getElem?_eq_getElem h2] at e
 exact Option.some.inj e
theorem build92 {fr : Fr} {H : Heap} {n : Nat} {x y : Operand} {a b : Int} (hx : evO Tryz.prog fr x = some (iv a)) (hy : evO Tryz.prog fr y = some (iv b)) : opBuild Tryz.prog 92 #[(0, x), (1, y)] fr H n = some (.agg #[iv a, iv b], H, n) := by
 unfold opBuild
 simp only [evPs_cons, evPs_nil, hx, hy]
 kernel_rfl
def bubA (v b s : Int) (W : Nat) : List Int := addAll (zeros W) b v s
@[simp] theorem bubA_length (v b s : Int) (W : Nat) : (bubA v b s W).length = W := by simp [bubA]
def bubAQ (r : List Int) (W : Nat) (u : Value) (H : Heap) : Prop := ∃ m, u = .slice (some ⟨m, 0, none⟩) W W ∧ hget H m = some (.cells (r.map iv) 3) ∧ 10 ≤ m
set_option maxRecDepth 100000 in
theorem w204 (g : Gun) (b s : Int) (W : Nat) (hv : 1 ≤ g.v ∧ g.v ≤ 64) (hb : 0 ≤ b ∧ b ≤ 4096) (hs : 0 ≤ s ∧ s ≤ 4) (hW : 1 ≤ W ∧ W ≤ 64) : ∃ u H1 n1 H2, AC Tryz.prog 204 [.agg ⟨g.cells⟩, iv b, iv s, iv W] [] 10 u H1 n1 ∧ bubAQ (bubA g.v b s W) W u H2 ∧ (af u = false → H1 = H2) := by
 have hr := recT_ok (P := Tryz.prog) (l := [(128, g128)]) (by simp only [List.forall_mem_cons]; exact ⟨ok128, by simp⟩)
 have hz : intsOf ((zeros W).map iv) = some (zeros W) := intsOf_iv _
 have hl31 : W < 2147483648 := by omega
 refine AC.out Tryz.func204 rfl (by kernel_rfl) rfl [] ?_
 refine E.seq ?_
 refine E.reg hr (by simp; rfl) ?_
 refine E.seq ?_
 refine E.reg hr (by simp [mk45 (w := (W : Int)) (by omega) (by omega)]; rw [show List.replicate W (iv 0) = (zeros W).map iv by simp [zeros]]) ?_
 refine E.seq ?_
 refine E.reg hr (by simp [g128, hz, hl31, hv, hs, hb]; rfl) ?_
 refine E.seq ?_
 refine E.reg hr (by simp; rfl) ?_
 refine E.ret ?_
 refine outK.ret rfl rfl ?_
 exact ⟨11, by simp, by simp [bubA], by omega⟩
def g204 (args : List Value) (H : Heap) (n : Nat) : R := match args with
 | [.agg ⟨[.string _, .int .i64 v, .int .i64 _, .int .i64 _, .int .i64 _, .int .i64 _, .int .i64 _]⟩, .int .i64 b, .int .i64 s, .int .i64 w] => if (1 ≤ v ∧ v ≤ 64) ∧ (0 ≤ b ∧ b ≤ 4096) ∧ (0 ≤ s ∧ s ≤ 4) ∧ (1 ≤ w ∧ w ≤ 64) then some (.slice (some ⟨n, 0, none⟩) w.toNat w.toNat, (n, .cells ((bubA v b s w.toNat).map iv) 3) :: H, n + 1) else none
 | _ => none
theorem ok204 : EntOk Tryz.prog (204, g204) := by
 intro args H n v H' n' h'
 simp only [g204] at h'
 split at h'
 · rename_i nm v0 x y dd lo hi b s w
   split at h'
   · rename_i hc
     obtain ⟨hv, hb, hs, hw⟩ := hc
     obtain ⟨W, rfl⟩ := Int.eq_ofNat_of_zero_le (show 0 ≤ w by omega)
     injection h' with h'; injection h' with e1 e2; injection e2 with e2 e3; subst e1 e2 e3
     refine AC.liftF (names_fl _ _) (.inl ⟨_, _, rfl, afL_iv _⟩) (Part.plain (by simp) [] (by simp [Seen]) gsz ?_)
     obtain ⟨u, H1, n1, H2, hAC, ⟨m, hu, hm, hle⟩, hh⟩ := w204 ⟨nm, v0, x, y, dd, lo, hi⟩ b s W hv hb hs ⟨by omega, by omega⟩
     subst hu
     have := hh (by simp)
     subst this
     exact ⟨m, _, _, hle, hm, hAC⟩
   · cases h'
 · cases h'
section
variable (v b lo : Int) (W : Nat)
def pP (t j : Nat) : Int := (bubA v b (lo + t) W).getD j 0
def mnL (j : Nat) : Nat → Int
 | 0 => pP v b lo W 0 j
 | t + 1 => min (mnL j t) (pP v b lo W (t + 1) j)
def mxL (j : Nat) : Nat → Int
 | 0 => pP v b lo W 0 j
 | t + 1 => max (mxL j t) (pP v b lo W (t + 1) j)
def prL (t : Nat) : List (Int × Int) := rl (fun j => (mnL v b lo W j t, mxL v b lo W j t)) W
def mixL (t j : Nat) : List (Int × Int) := rl (fun k => if k < j then (mnL v b lo W k (t + 1), mxL v b lo W k (t + 1)) else (mnL v b lo W k t, mxL v b lo W k t)) W
@[simp] theorem prL_length (t : Nat) : (prL v b lo W t).length = W := by simp [prL]
@[simp] theorem mixL_length (t j : Nat) : (mixL v b lo W t j).length = W := by simp [mixL]
theorem rl_congr {α : Type} {f g : Nat → α} {n : Nat} (h : ∀ i, i < n → f i = g i) : rl f n = rl g n := List.map_congr_left fun i hi => h i (List.mem_range.1 hi)
theorem mixL_zero (t : Nat) : mixL v b lo W t 0 = prL v b lo W t := rl_congr fun i _ => by rw [if_neg (by omega)]
theorem mixL_all (t : Nat) : mixL v b lo W t W = prL v b lo W (t + 1) := rl_congr fun i hi => by rw [if_pos hi]
theorem mixL_get {t j : Nat} (h : j < (mixL v b lo W t j).length) : (mixL v b lo W t j)[j] = (mnL v b lo W j t, mxL v b lo W j t) := by
 simp only [mixL, rl_getElem]
 rw [if_neg (by omega)]
theorem mixL_succ {t j : Nat} (_h : j < W) : (mixL v b lo W t j).set j (mnL v b lo W j (t + 1), mxL v b lo W j (t + 1)) = mixL v b lo W t (j + 1) := by
 apply List.ext_getElem
 · simp
 · intro k h1 h2
   rw [List.getElem_set]
   simp only [mixL, rl_getElem]
   by_cases e : j = k
   · subst e
     rw [if_pos rfl, if_pos (by omega)]
   · rw [if_neg e]
     by_cases e2 : k < j
     · rw [if_pos e2, if_pos (by omega)]
     · rw [if_neg e2, if_neg (by omega)]
end
end Go.Proofs.YtndlfijfjglkdaaGreatDoor

namespace Go.Proofs.YtndlfijfjglkdaaGreatDoor
open Go Go.Ab Go.Proofs
def dup (B : List Int) (k : Nat) : Int × Int := (B.getD k 0, B.getD k 0)
theorem dup_at {B : List Int} {k : Nat} (h : k < B.length) : dup B k = (B[k], B[k]) := by unfold dup; rw [getD_at h]
abbrev F197 (b : Int) (W : Nat) (out : Value) (s : Int) : Fr := [(1, iv b), (2, iv W), (3, .pointer (some ⟨10, 0, none⟩)), (7, out), (8, iv s)]
abbrev vs197 : List Nat := [1, 2, 3, 7, 8, 25, 26, 27]
abbrev H197 (g : Gun) : Heap := [(10, .cells g.cells 95)]
def S197 (g : Gun) (b : Int) (W : Nat) : Nat → St
 | 0 => { fr := F197 b W (.slice none 0 0) g.lo, sz := 63, H := H197 g, n := 11, marks := [], vs := vs197 }
 | t + 1 => { fr := F197 b W (.slice (some ⟨11, 0, some 0⟩) W 0) (g.lo + (t + 1 : Nat)), sz := 63, H := (11, .ext (pcs (prL g.v b g.lo W t)) 92 2) :: H197 g, n := 12, marks := [], vs := vs197 }
def I197 (g : Gun) (b : Int) (W : Nat) (B : List Int) : Nat → St
 | 0 => { fr := F197 b W (.slice none 0 0) g.lo ++ [(25, .slice (some ⟨11, 0, none⟩) W W), (26, iv W), (27, iv 0)], sz := 63, H := (11, .cells (B.map iv) 3) :: H197 g, n := 12, marks := [], vs := vs197 }
 | j + 1 => { fr := F197 b W (.slice (some ⟨12, 0, some 0⟩) (j + 1) 0) g.lo ++ [(25, .slice (some ⟨11, 0, none⟩) W W), (26, iv W), (27, iv (j + 1 : Nat))], sz := 63, H := (12, .ext (pcs (rl (dup B) (j + 1))) 92 2) :: (11, .cells (B.map iv) 3) :: H197 g, n := 13, marks := [], vs := vs197 }
def J197 (g : Gun) (b : Int) (W : Nat) (B : List Int) (t j : Nat) : St := { fr := F197 b W (.slice (some ⟨11, 0, some 0⟩) W 0) (g.lo + (t + 1 : Nat)) ++ [(25, .slice (some ⟨12, 0, none⟩) W W), (26, iv W), (27, iv j)], sz := 63, H := (12, .cells (B.map iv) 3) :: (11, .ext (pcs (mixL g.v b g.lo W t j)) 92 2) :: H197 g, n := 13, marks := [], vs := vs197 }
def pairQ (k : Nat) (l : List (Int × Int)) (u : Value) (H : Heap) : Prop := ∃ m, u = .slice (some ⟨m, 0, some 0⟩) l.length 0 ∧ hget H m = some (.ext (pcs l) 92 2) ∧ k ≤ m
set_option maxRecDepth 100000 in
theorem w197 (g : Gun) (b : Int) (W : Nat) (hv : 1 ≤ g.v ∧ g.v ≤ 64) (hb : 0 ≤ b ∧ b ≤ 4096) (hlo : 0 ≤ g.lo) (hhi : g.hi ≤ 4) (ho : g.lo ≤ g.hi) (hW : 1 ≤ W ∧ W ≤ 64) : ∃ u H1 n1 H2, AC Tryz.prog 197 [.agg ⟨g.cells⟩, iv b, iv W] [] 10 u H1 n1 ∧ pairQ 10 (prL g.v b g.lo W (g.hi - g.lo).toNat) u H2 ∧ (af u = false → H1 = H2) := by
 have hr := recT_ok (P := Tryz.prog) (l := [(204, g204)]) (by simp only [List.forall_mem_cons]; exact ⟨ok204, by simp⟩)
 have hW1 : 1 ≤ (W : Int) := by omega
 have hW2 : (W : Int) ≤ 64 := by omega
 obtain ⟨K, hK⟩ : ∃ K : Nat, K = (g.hi - g.lo).toNat := ⟨_, rfl⟩
 have hK' : g.hi = g.lo + K := by omega
 rw [← hK]
 refine AC.out Tryz.func197 rfl (by kernel_rfl) rfl vs197 ?_
 refine E.seq ?_
 refine E.reg hr (by simp; rfl) ?_
 refine E.seq ?_
 refine E.reg hr (by simp; rfl) ?_
 refine E.seq ?_
 refine E.seq ?_
 refine E.reg hr (by simp; rfl) ?_
 refine E.block ?_
 refine E.loop ?_
 refine EL.ind (S197 g b W) (fun t => K + 1 - t) (fun t => t ≤ K + 1) 0 (.less rfl rfl rfl (by simp [S197]) (by simp [S197])) (Nat.zero_le _) (fun t => by cases t <;> rfl) ?_
 intro t ht
 rcases t with _ | t
 · have hle : g.lo ≤ g.hi := ho
   have hs := (show 0 ≤ g.lo ∧ g.lo ≤ 4 by omega)
   obtain ⟨B, hB⟩ : ∃ B, B = bubA g.v b g.lo W := ⟨_, rfl⟩
   have hBl : B.length = W := by rw [hB]; simp
   have hws : IntKind.i64.wrap (g.lo + 1) = g.lo + 1 := W_in (by omega) (by omega)
   refine E.seq ?_
   refine E.seq ?_
   refine E.reg hr (by simp [S197]; rfl) ?_
   refine E.cond (by rfl) (fun h => ?_) (fun h => ?_)
   rotate_left
   · simp at h; omega
   refine E.skip ?_
   refine E.seq ?_
   refine E.block ?_
   refine E.seq ?_
   refine E.reg hr (by simp [g204, hv, hb, hs, hW1, hW2, ← hB]; rfl) ?_
   refine E.block ?_
   refine E.loop ?_
   refine EL.ind (I197 g b W B) (fun j => W - j) (fun j => j ≤ W) 0 (.less rfl rfl rfl (by simp [I197]) (by simp [I197])) (Nat.zero_le _) (fun j => by cases j <;> rfl) ?_
   intro j hj
   rcases j with _ | j
   · have hw : IntKind.i64.wrap 1 = 1 := W_in (by omega) (by omega)
     refine E.seq ?_
     refine E.reg hr (by simp [I197]; rfl) ?_
     refine E.seq ?_
     refine E.cond (by rfl) (fun h2 => ?_) (fun h2 => ?_)
     · simp at h2
       have hjW : 0 < W := by omega
       have hjB : 0 < B.length := by omega
       have hts : pcs (rl (dup B) 1) = [iv B[0], iv B[0]] := by rw [rl_succ, rl_zero, List.nil_append, dup_at hjB]; rfl
       refine E.skip ?_
       refine E.seq ?_
       refine E.block ?_
       refine E.seq ?_
       refine E.reg hr (by simp [hjW, hjB]; rfl) ?_
       refine E.seq ?_
       refine E.seq ?_
       refine E.reg hr (by simp; rfl) ?_
       refine E.cond (by rfl) (fun h3 => ?_) (fun h3 => ?_)
       rotate_left
       · simp at h3
       refine E.seq ?_
       refine E.reg hr (by simp [build92]; rfl) ?_
       refine E.exit ?_
       refine E.reg hr (by simp [hw]; rfl) ?_
       exact ⟨1, Leads.ren [10, 11, 13] rfl rfl rfl ⟨rfl, rfl⟩ (by simp [I197]) (by simp [I197, hts]), by omega, by dsimp only; omega⟩
     · simp at h2
       omega
   · have hw : IntKind.i64.wrap ((j : Int) + 1 + 1) = (j : Int) + 1 + 1 := W_in (by omega) (by omega)
     have hpl : (pcs (rl (dup B) (j + 1))).length = (j + 1) * 2 := by simp
     have ht : List.take ((j + 1) * 2) (pcs (rl (dup B) (j + 1))) = pcs (rl (dup B) (j + 1)) := List.take_of_length_le (by omega)
     refine E.seq ?_
     refine E.reg hr (by simp [I197]; rfl) ?_
     refine E.seq ?_
     refine E.cond (by rfl) (fun h2 => ?_) (fun h2 => ?_)
     · simp at h2
       have hjW : j + 1 < W := by omega
       have hjWI : (j : Int) + 1 < W := by omega
       have hjB : j + 1 < B.length := by omega
       have hno : ¬ (j + 1 + 1) * 2 ≤ (j + 1) * 2 := by omega
       have hsm : (j + 1 + 1) * 16 ≤ 1099511627776 ∧ (j + 1 + 1) * 2 ≤ 1099511627776 ∧ j + 1 + 1 ≤ 1099511627776 := by omega
       have hts : pcs (rl (dup B) (j + 1 + 1)) = pcs (rl (dup B) (j + 1)) ++ [iv B[j + 1], iv B[j + 1]] := by rw [rl_succ, pcs_append, dup_at hjB]; rfl
       refine E.skip ?_
       refine E.seq ?_
       refine E.block ?_
       refine E.seq ?_
       refine E.reg hr (by simp [hjWI, hjB]; rfl) ?_
       refine E.seq ?_
       refine E.seq ?_
       refine E.reg hr (by simp; rfl) ?_
       refine E.cond (by rfl) (fun h3 => ?_) (fun h3 => ?_)
       rotate_left
       · simp at h3
       refine E.seq ?_
       refine E.reg hr (by simp [build92, ht, hpl, hno, hsm]; rfl) ?_
       refine E.exit ?_
       refine E.reg hr (by simp [hw]; rfl) ?_
       exact ⟨j + 2, Leads.ren [10, 11, 14] rfl rfl rfl ⟨rfl, rfl⟩ (by simp [I197]) (by simp [I197, hts]), by omega, by dsimp only; omega⟩
     · simp at h2
       have hWj : W = j + 1 := by omega
       have hpr : rl (dup B) (j + 1) = prL g.v b g.lo W 0 := by
         rw [← hWj]
         refine rl_congr fun k _ => ?_
         simp [mnL, mxL, pP, hB, dup]
       refine E.exit ?_
       refine E.reg hr (by simp [hws]; rfl) ?_
       exact ⟨1, Leads.ren [10, 12] rfl rfl rfl ⟨rfl, rfl⟩ (by simp [S197, hWj]) (by simp [S197, hpr]), by omega, by dsimp only; omega⟩
 · obtain ⟨s, hs'⟩ : ∃ s, s = g.lo + ((t + 1 : Nat) : Int) := ⟨_, rfl⟩
   by_cases htK : t + 1 ≤ K
   rotate_left
   · obtain rfl : t = K := by omega
     have hgt : ¬ g.lo + ((t : Int) + 1) ≤ g.hi := by omega
     refine E.seq ?_
     refine E.seq ?_
     refine E.reg hr (by simp [S197, hgt]; rfl) ?_
     refine E.cond (by rfl) (fun h => ?_) (fun h => ?_)
     · simp at h
     refine E.exit ?_
     refine E.seq ?_
     refine E.reg hr (by simp; rfl) ?_
     refine E.ret ?_
     refine outK.ret rfl rfl ?_
     exact ⟨11, by simp, by simp, by omega⟩
   have hle : g.lo + ((t : Int) + 1) ≤ g.hi := by omega
   have hs1 : 0 ≤ g.lo + ((t : Int) + 1) := by omega
   have hs4 : g.lo + ((t : Int) + 1) ≤ 4 := by omega
   have hne : ¬ g.lo + ((t : Int) + 1) = g.lo := by omega
   obtain ⟨B, hB⟩ : ∃ B, B = bubA g.v b (g.lo + ((t : Int) + 1)) W := ⟨_, rfl⟩
   have hBl : B.length = W := by rw [hB]; simp
   have hws : IntKind.i64.wrap (g.lo + ((t : Int) + 1) + 1) = g.lo + ((t : Int) + 1 + 1) := by rw [W_in (by omega) (by omega)]; omega
   refine E.seq ?_
   refine E.seq ?_
   refine E.reg hr (by simp [S197, hle]; rfl) ?_
   refine E.cond (by rfl) (fun h => ?_) (fun h => ?_)
   rotate_left
   · simp at h
   refine E.skip ?_
   refine E.seq ?_
   refine E.block ?_
   refine E.seq ?_
   refine E.reg hr (by simp [g204, hv, hb, hs1, hs4, hW1, hW2, ← hB]; rfl) ?_
   refine E.block ?_
   refine E.loop ?_
   refine EL.ind (J197 g b W B t) (fun j => W - j) (fun j => j ≤ W) 0 (.less rfl rfl rfl (by simp [J197]) (by simp [J197, mixL_zero])) (Nat.zero_le _) (fun _ => rfl) ?_
   intro j hj
   refine E.seq ?_
   refine E.reg hr (by simp [J197]; rfl) ?_
   refine E.seq ?_
   refine E.cond (by rfl) (fun h2 => ?_) (fun h2 => ?_)
   · simp at h2
     have hw : IntKind.i64.wrap ((j : Int) + 1) = (j : Int) + 1 := W_in (by omega) (by omega)
     have hjI : (j : Int) < W := by omega
     have hjB : j < B.length := by omega
     have hml : j < (mixL g.v b g.lo W t j).length := by simp; omega
     have c0 : j * 2 < W * 2 := by omega
     have c1 : j * 2 + 1 < W * 2 := by omega
     have c2 : j * 2 + 2 ≤ W * 2 := by omega
     have e0 := pcs_0E hml (by simp; omega)
     have e1 := pcs_1E hml (by simp; omega)
     rw [mixL_get] at e0 e1
     have hst := pcs_set hml (mnL g.v b g.lo W j (t + 1)) (mxL g.v b g.lo W j (t + 1))
     rw [mixL_succ _ _ _ _ h2] at hst
     have hp : pP g.v b g.lo W (t + 1) j = B[j] := by
       rw [← getD_at hjB, hB]
       rfl
     have hmn : min (mnL g.v b g.lo W j t) B[j] = mnL g.v b g.lo W j (t + 1) := by rw [← hp]; rfl
     have hmx : max (mxL g.v b g.lo W j t) B[j] = mxL g.v b g.lo W j (t + 1) := by rw [← hp]; rfl
     refine E.skip ?_
     refine E.seq ?_
     refine E.block ?_
     refine E.seq ?_
     refine E.reg hr (by simp [h2, hjI, hjB]; rfl) ?_
     refine E.seq ?_
     refine E.seq ?_
     refine E.reg hr (by simp [hne]; rfl) ?_
     refine E.cond (by rfl) (fun h3 => ?_) (fun h3 => ?_)
     · simp at h3
     refine E.skip ?_
     refine E.drawC mixed hr [18] [18] [6, 13, 18] (by kernel_rfl) (by simp [hjI, c0, c1, c2, e0, e1, min33, max33', hmn, hmx, build92]; rfl) ?_
     refine E.reg hr (by simp [hw]; rfl) ?_
     exact ⟨j + 1, .less rfl rfl rfl (by simp [J197]) (by simp [J197, hst]), h2, by dsimp only; omega⟩
   · simp at h2
     obtain rfl : j = W := by omega
     refine E.exit ?_
     refine E.reg hr (by simp [hws]; rfl) ?_
     exact ⟨t + 2, Leads.ren [10, 11] rfl rfl rfl ⟨rfl, rfl⟩ (by simp [S197]) (by simp [S197, mixL_all]), by omega, by dsimp only; omega⟩
end Go.Proofs.YtndlfijfjglkdaaGreatDoor

namespace Go.Ab
open Go
mutual
theorem sc_and {p q : Nat → Prop} : ∀ v, sc p v → sc q v → sc (fun k => p k ∧ q k) v
 | .bool _, _, _ | .int _ _, _, _ | .float _ _, _, _ | .complex _ _ _, _, _ | .string _, _, _ | .nilFunc, _, _ | .nilIface, _, _ | .chan _, _, _ => by simp [sc]
 | .pointer none, _, _ | .slice none _ _, _, _ | .map none, _, _ => by simp [sc]
 | .pointer (some _), h1, h2 => ⟨h1, h2⟩
 | .slice (some _) _ _, h1, h2 => ⟨h1, h2⟩
 | .map (some _), h1, h2 => ⟨h1, h2⟩
 | .func (.yield l) a b, h1, h2 => by
   simp only [sc] at h1 h2 ⊢
   exact ⟨⟨h1.1, h2.1⟩, scL_and _ h1.2.1 h2.2.1, scL_and _ h1.2.2 h2.2.2⟩
 | .func (.func f) a b, h1, h2 | .func (.method f) a b, h1, h2 | .func (.methodOf _ f) a b, h1, h2 | .func (.via _ _ f _) a b, h1, h2 => by
   simp only [sc] at h1 h2 ⊢
   exact ⟨scL_and _ h1.1 h2.1, scL_and _ h1.2 h2.2⟩
 | .iface t v, h1, h2 => by simp only [sc] at h1 h2 ⊢; exact sc_and v h1 h2
 | .agg cs, h1, h2 => by simp only [sc] at h1 h2 ⊢; exact scL_and _ h1 h2
 | .tuple cs, h1, h2 => by simp only [sc] at h1 h2 ⊢; exact scL_and _ h1 h2
theorem scL_and {p q : Nat → Prop} : ∀ vs, scL p vs → scL q vs → scL (fun k => p k ∧ q k) vs
 | [], _, _ => trivial
 | v :: vs, h1, h2 => by simp only [scL] at h1 h2 ⊢; exact ⟨sc_and v h1.1 h2.1, scL_and vs h1.2 h2.2⟩
end
def heldB (n0 : Nat) : Blk → Prop
 | .loop _ _ fr _ _ _ _ _ d => d < n0 ∧ ∀ x ∈ fr, sc (· < n0) x.2
 | _ => True
theorem heldB_cases {n0 : Nat} {b : Blk} (h : heldB n0 b) : carried b ∨ (scB (· < n0) b ∧ (∀ ρ, renB ρ b = b) ∧ ∀ (P : Program) (p : Nat → Prop) (φ ψ : Vl) (j k : Nat) (o : Option Obj), Agr p φ ψ → scB p b → BRel P φ j b o → BRel P ψ k b o) := by
 cases b with
 | loop st pe fr sz vs ps a c d =>
   refine .inr ⟨⟨h.1, fun t v hv => h.2 (t, v) (lk_mem _ _ _ hv)⟩, fun _ => rfl, fun P p φ ψ j k o ha hs hb => ?_⟩
   obtain ⟨fn, tmps, ho, hf⟩ := hb
   exact ⟨fn, tmps, by rw [(ha d hs.1).1]; exact ho, hf.congr ha hs.2⟩
 | _ => exact .inl trivial
theorem scB_and {p q : Nat → Prop} : ∀ b, scB p b → scB q b → scB (fun k => p k ∧ q k) b
 | .cells cs _, h1, h2 | .ext cs _ _, h1, h2 | .inp _ cs, h1, h2 | .row cs _, h1, h2 | .tab cs, h1, h2 => scL_and cs h1 h2
 | .map _ _, h1, h2 => fun e he => ⟨sc_and _ (h1 e he).1 (h2 e he).1, sc_and _ (h1 e he).2 (h2 e he).2⟩
 | .iter _ _, _, _ | .defd, _, _ => trivial
 | .miter _ _ _ _, h1, h2 => fun r hr => ⟨h1 r hr, h2 r hr⟩
 | .loop .., h1, h2 => ⟨⟨h1.1, h2.1⟩, fun t v hv => sc_and v (h1.2 t v hv) (h2.2 t v hv)⟩
structure Renamed2 (n0 : Nat) (ρ : Nat → Nat) (s s2 : St) : Prop where
 le : n0 ≤ s2.n
 sz : s2.sz = s.sz
 marks : s.marks = [] ∧ s2.marks = []
 low : ∀ k, k < n0 → ρ k = k
 high : ∀ k, n0 ≤ k → k < s2.n → n0 ≤ ρ k ∧ ρ k < s.n
 inj : ∀ j k, j < s2.n → k < s2.n → ρ j = ρ k → j = k
 fr : ∀ x ∈ s2.fr, lk s.fr x.1 = some (ren ρ x.2) ∧ sc (· < s2.n) x.2
 heap : ∀ x ∈ s2.H, x.1 < s2.n ∧ hget s.H (ρ x.1) = some (renB ρ x.2) ∧ scB (· < s2.n) x.2 ∧ heldB n0 x.2 ∧ (x.2.own = false → ρ x.1 = x.1 ∧ renB ρ x.2 = x.2)
theorem Renamed2.step {P : Program} {n0 : Nat} {ρ : Nat → Nat} {s s2 : St} (h : Renamed2 n0 ρ s s2) {p : Nat → Prop} {φ φ1 : Vl} {M : Mp} {w0 w : World} {a : Act} (hg : ∀ g, g < P.globals.size → p g) (hp : ∀ k, p k → k < n0)
   (hS : SRel P (Nx p n0 s.n) φ1 s a w) (hs : Step P φ n0 M w0 φ1 s.n (hget s.H) w) : ∃ φ2, SRel P (Nx p n0 s2.n) φ2 s2 a w ∧ Step P φ n0 M w0 φ2 s2.n (hget s2.H) w := by
 let φ2 : Vl := ⟨fun k => if n0 ≤ k ∧ k < s2.n then φ1.loc (ρ k) else φ.loc k, fun k => if n0 ≤ k ∧ k < s2.n then φ1.cap (ρ k) else φ.cap k⟩
 have hlow : ∀ k, k < n0 → φ2.loc k = φ.loc k ∧ φ2.cap k = φ.cap k := fun k hk => by simp only [φ2]; rw [if_neg (by omega), if_neg (by omega)]; exact ⟨rfl, rfl⟩
 have hmid : ∀ k, n0 ≤ k → k < s2.n → φ2.loc k = φ1.loc (ρ k) ∧ φ2.cap k = φ1.cap (ρ k) := fun k h1 h2 => by simp only [φ2]; rw [if_pos ⟨h1, h2⟩, if_pos ⟨h1, h2⟩]; exact ⟨rfl, rfl⟩
 have hrn : Rn (Nx p n0 s2.n) ρ φ1 φ2 := fun k hk => by
   rcases hk with hk | hk
   · have hk0 := hp k hk
     rw [(hlow k hk0).1, (hlow k hk0).2, h.low k hk0, (hs.only k (.inl hk0)).1, (hs.only k (.inl hk0)).2]
     exact ⟨rfl, rfl⟩
   · exact hmid k hk.1 hk.2
 have hnx : ∀ k, Nx p n0 s.n (ρ k) ∧ k < s2.n → Nx p n0 s2.n k := fun k hk => by
   by_cases h0 : k < n0
   · have := hk.1
     rw [h.low k h0] at this
     rcases this with h1 | h1
     · exact .inl h1
     · omega
   · exact .inr ⟨by omega, hk.2⟩
 have hscv : ∀ v, sc (Nx p n0 s.n) (ren ρ v) → sc (· < s2.n) v → sc (Nx p n0 s2.n) v := fun v h1 h2 => sc_mono hnx v (sc_ren v h1 h2)
 have hpl : ∀ k, Nx p n0 s.n k ∧ k < n0 → p k := fun k hk => by
   rcases hk.1 with h1 | h1
   · exact h1
   · omega
 have hH : ∀ k b, hget s2.H k = some b → Nx p n0 s2.n k ∧ hget s.H (ρ k) = some (renB ρ b) ∧ scB (Nx p n0 s2.n) b ∧ (BRel P φ1 (ρ k) (renB ρ b) w.heap[φ1.loc (ρ k)]? → BRel P φ2 k b w.heap[φ1.loc (ρ k)]?) ∧ (b.own = false → ρ k = k ∧ renB ρ b = b) := fun k b hk => by
   obtain ⟨h1, h2, h3, h4, h5⟩ := h.heap (k, b) (hget_mem _ _ _ hk)
   have hsm := hS.base.sm _ _ h2
   have hn := hnx k ⟨hsm.1, h1⟩
   rcases heldB_cases h4 with h4 | ⟨g1, g2, g3⟩
   · have := scB_mono hnx _ (scB_ren b h4 hsm.2 h3)
     exact ⟨hn, h2, this, BRel.ren hrn hn h4 this, h5⟩
   · have h6 := hsm.2
     simp only [g2] at h6
     have h7 : scB p b := scB_mono hpl _ (scB_and b h6 g1)
     refine ⟨hn, h2, scB_mono (fun _ h => .inl h) _ h7, fun hb => ?_, h5⟩
     rw [g2] at hb
     refine g3 P p φ1 φ2 _ k _ (fun j hj => ?_) h7 hb
     have hj0 := hp j hj
     rw [(hlow j hj0).1, (hlow j hj0).2, (hs.only j (.inl hj0)).1, (hs.only j (.inl hj0)).2]
     exact ⟨rfl, rfl⟩
 have hlt : ∀ k, Nx p n0 s2.n k → k < s2.n := fun k hk => Nx.lt hp h.le hk
 have hrel : HRel P φ2 (hget s2.H) w := by
   refine ⟨fun k b hk => ?_, fun k b k' b' h1 h2 hne ho => ?_, fun g hg' => ?_⟩
   · obtain ⟨hn, h2, h3, h4, _⟩ := hH k b hk
     rw [(hrn k hn).1]
     exact h4 (hS.base.rel.blk _ _ h2)
   · obtain ⟨n1, e1, _, _, _⟩ := hH k b h1
     obtain ⟨n2, e2, _, _, _⟩ := hH k' b' h2
     rw [(hrn k n1).1, (hrn k' n2).1]
     exact hS.base.rel.apart _ _ _ _ e1 e2 (fun e => hne (h.inj k k' (hlt k n1) (hlt k' n2) e)) (by rw [renB_own]; exact ho)
   · have := hp g (hg g hg')
     rw [(hlow g this).1, ← (hs.only g (.inl this)).1]
     exact hS.base.rel.glob g hg'
 refine ⟨φ2, ⟨⟨hrel, hlt, fun g hg' => .inl (hg g hg'), ?_, fun k b hk => ⟨(hH k b hk).1, (hH k b hk).2.2.1⟩, fun t v hv => ?_, fun t v hv => ?_⟩, ?_, ?_, ?_⟩, h.le, fun k hk => ?_, hrel, fun k b hk ho => ?_, fun k b hk ho => ?_, hs.frm⟩
 · refine Nat.le_of_not_lt fun hc => ?_
   have := hp _ (hg _ hc)
   have := h.le
   omega
 · obtain ⟨h1, h2⟩ := h.fr (t, v) (lk_mem _ _ _ hv)
   have hsf := hS.base.sf t _ h1
   rw [hS.base.ar t _ h1, den_ren hrn v (hscv v hsf h2)]
 · obtain ⟨h1, h2⟩ := h.fr (t, v) (lk_mem _ _ _ hv)
   exact hscv v (hS.base.sf t _ h1) h2
 · rw [h.sz]; exact hS.size
 · rw [h.marks.2, hS.defs, h.marks.1]; rfl
 · rw [h.marks.2]; simp
 · rcases hk with hk | hk
   · exact hlow k hk
   · simp only [φ2]; rw [if_neg (by omega), if_neg (by omega)]; exact ⟨rfl, rfl⟩
 · obtain ⟨hn, h2, _, _, _⟩ := hH k b hk
   rw [(hrn k hn).1]
   exact hs.new _ _ h2 (by rw [renB_own]; exact ho)
 · obtain ⟨hn, h2, _, _, h5⟩ := hH k b hk
   have := hs.inp _ _ h2 (by rw [renB_own]; exact ho)
   rw [(h5 ho).1, (h5 ho).2] at this
   exact this
theorem Leads.ren2 {P : Program} {n0 : Nat} {s s2 : St} (olds : List Nat) (ho : oldsOk n0 s.n olds = true) (hn : s2.n = n0 + olds.length) (hz : s2.sz = s.sz) (hm : s.marks = [] ∧ s2.marks = [])
   (hf : ∀ x ∈ s2.fr, lk s.fr x.1 = some (Ab.ren (rnm n0 olds) x.2) ∧ sc (· < s2.n) x.2)
   (hh : ∀ x ∈ s2.H, x.1 < s2.n ∧ hget s.H (rnm n0 olds x.1) = some (renB (rnm n0 olds) x.2) ∧ scB (· < s2.n) x.2 ∧ heldB n0 x.2 ∧ (x.2.own = false → rnm n0 olds x.1 = x.1 ∧ renB (rnm n0 olds) x.2 = x.2)) : Leads P n0 s s2 := by
 have hr := Leads.ren (P := P) (s := s) (s2 := { s2 with fr := [], H := [] }) olds ho hn hz hm (by simp) (by simp)
 obtain ⟨hk, hd⟩ := oldsOk_spec olds ho
 have hget : ∀ k, n0 ≤ k → k < s2.n → ∃ h : k - n0 < olds.length, rnm n0 olds k = olds[k - n0] := fun k h1 h2 => by
   refine ⟨by omega, ?_⟩
   unfold rnm
   rw [if_neg (by omega), List.getD_eq_getElem?_getD, List.getElem?_eq_getElem (by omega)]
   rfl
 have h2 : Renamed2 n0 (rnm n0 olds) s s2 := ⟨by omega, hz, hm, fun k h => by unfold rnm; rw [if_pos h], fun k h1 h2 => by
     obtain ⟨h, e⟩ := hget k h1 h2
     rw [e]; exact hk _ (List.getElem_mem h), fun j k h1 h2 he => by
   by_cases hj : j < n0
   · by_cases hk' : k < n0
     · unfold rnm at he; rw [if_pos hj, if_pos hk'] at he; exact he
     · obtain ⟨h, e⟩ := hget k (by omega) h2
       have := hk _ (List.getElem_mem h)
       rw [← e, ← he] at this
       unfold rnm at this; rw [if_pos hj] at this; omega
   · obtain ⟨h, e⟩ := hget j (by omega) h1
     by_cases hk' : k < n0
     · have := hk _ (List.getElem_mem h)
       rw [← e, he] at this
       unfold rnm at this; rw [if_pos hk'] at this; omega
     · obtain ⟨h', e'⟩ := hget k (by omega) h2
       rw [e, e'] at he
       have hne : ∀ (x y : Nat) (hx : x < olds.length) (hy : y < olds.length), x < y → olds[x] ≠ olds[y] := fun x y hx hy hlt => List.pairwise_iff_getElem.1 hd x y hx hy hlt
       rcases Nat.lt_trichotomy (j - n0) (k - n0) with hlt | heq | hlt
       · exact absurd he (hne _ _ _ _ hlt)
       · omega
       · exact absurd he.symm (hne _ _ _ _ hlt), hf, hh⟩
 exact fun p φ M w0 hg hp a w φ1 hS hs => h2.step hg hp hS hs
end Go.Ab

namespace Go.Proofs.YtndlfijfjglkdaaGreatDoor
open Go Go.Ab Go.Proofs
def g197 (args : List Value) (H : Heap) (n : Nat) : R := match args with
 | [.agg ⟨[.string _, .int .i64 v, .int .i64 _, .int .i64 _, .int .i64 _, .int .i64 lo, .int .i64 hi]⟩, .int .i64 b, .int .i64 w] => if (1 ≤ v ∧ v ≤ 64) ∧ (0 ≤ b ∧ b ≤ 4096) ∧ 0 ≤ lo ∧ hi ≤ 4 ∧ lo ≤ hi ∧ 1 ≤ w ∧ w ≤ 64 then some (.slice (some ⟨n, 0, some 0⟩) w.toNat 0, (n, .ext (pcs (prL v b lo w.toNat (hi - lo).toNat)) 92 2) :: H, n + 1) else none
 | _ => none
theorem ok197 : EntOk Tryz.prog (197, g197) := by
 intro args H n v H' n' h'
 simp only [g197] at h'
 split at h'
 · rename_i nm v0 x y dd lo hi b w
   split at h'
   · rename_i hc
     obtain ⟨hv, hb, hlo, hhi, ho, hw⟩ := hc
     obtain ⟨W, rfl⟩ := Int.eq_ofNat_of_zero_le (show 0 ≤ w by omega)
     injection h' with h'; injection h' with e1 e2; injection e2 with e2 e3; subst e1 e2 e3
     refine AC.liftF (names_sx _ _) (.inr ⟨_, _, _, rfl, afL_pcs _⟩) (Part.plain (by simp) [] (by simp [Seen]) gsz ?_)
     obtain ⟨u, H1, n1, H2, hAC, ⟨m, hu, hm, hle⟩, hh⟩ := w197 ⟨nm, v0, x, y, dd, lo, hi⟩ b W hv hb hlo hhi ho ⟨by omega, by omega⟩
     subst hu
     have := hh (by simp)
     subst this
     rw [prL_length] at hAC
     exact ⟨m, _, _, hle, hm, hAC⟩
   · cases h'
 · cases h'
end Go.Proofs.YtndlfijfjglkdaaGreatDoor

namespace Go.Proofs.YtndlfijfjglkdaaGreatDoor
open Go Go.Ab Go.Proofs
def mnF (P : Nat → Int) : Nat → Int
 | 0 => P 0
 | t + 1 => min (mnF P t) (P (t + 1))
def mxF (P : Nat → Int) : Nat → Int
 | 0 => P 0
 | t + 1 => max (mxF P t) (P (t + 1))
theorem mnF_bd {P : Nat → Int} {a b : Int} (h : ∀ t, a ≤ P t ∧ P t ≤ b) : ∀ n, a ≤ mnF P n ∧ mnF P n ≤ b
 | 0 => h 0
 | n + 1 => by
   have h1 := mnF_bd h n
   have h2 := h (n + 1)
   rw [mnF]
   omega
theorem mxF_bd {P : Nat → Int} {a b : Int} (h : ∀ t, a ≤ P t ∧ P t ≤ b) : ∀ n, a ≤ mxF P n ∧ mxF P n ≤ b
 | 0 => h 0
 | n + 1 => by
   have h1 := mxF_bd h n
   have h2 := h (n + 1)
   rw [mxF]
   omega
theorem mnF_congr {P Q : Nat → Int} : ∀ n, (∀ t, t ≤ n → P t = Q t) → mnF P n = mnF Q n
 | 0, h => h 0 (Nat.le_refl _)
 | n + 1, h => by rw [mnF, mnF, mnF_congr n fun t ht => h t (by omega), h (n + 1) (Nat.le_refl _)]
theorem mxF_congr {P Q : Nat → Int} : ∀ n, (∀ t, t ≤ n → P t = Q t) → mxF P n = mxF Q n
 | 0, h => h 0 (Nat.le_refl _)
 | n + 1, h => by rw [mxF, mxF, mxF_congr n fun t ht => h t (by omega), h (n + 1) (Nat.le_refl _)]
def gP (g : Gun) (at' : Int) (t : Nat) : Int := pulseV g.v (g.lo + t) at'
def gK (g : Gun) : Nat := (g.hi - g.lo).toNat
def gMn (g : Gun) (at' : Int) : Int := mnF (gP g at') (gK g)
def gMx (g : Gun) (at' : Int) : Int := mxF (gP g at') (gK g)
theorem gP_bd {g : Gun} (hv : 1 ≤ g.v ∧ g.v ≤ 64) (at' : Int) (t : Nat) : -256 ≤ gP g at' t ∧ gP g at' t ≤ 256 := pulse256 hv
theorem gMn_bd {g : Gun} (hv : 1 ≤ g.v ∧ g.v ≤ 64) (at' : Int) : -256 ≤ gMn g at' ∧ gMn g at' ≤ 256 := mnF_bd (gP_bd hv at') _
theorem gMx_bd {g : Gun} (hv : 1 ≤ g.v ∧ g.v ≤ 64) (at' : Int) : -256 ≤ gMx g at' ∧ gMx g at' ≤ 256 := mxF_bd (gP_bd hv at') _
theorem pP_gP {g : Gun} {b : Int} {W j t : Nat} (hv : 1 ≤ g.v ∧ g.v ≤ 64) (hb : 0 ≤ b ∧ b ≤ 4096) (hlo : 0 ≤ g.lo) (ht : g.lo + t ≤ 4) (hj : j < W) : pP g.v b g.lo W t j = gP g (j - b) t := by
 have h0 : (zeros W)[j]? = some 0 := by simp [zeros, hj]
 have := addAll_get (l := zeros W) (b := b) (v := g.v) (s := g.lo + t) hv (by omega) hb (j := j) (by simpa using hj) h0 (by omega)
 unfold pP bubA gP
 rw [List.getD_eq_getElem?_getD, this]
 simp
theorem mnL_F (v b lo : Int) (W j : Nat) : ∀ t, mnL v b lo W j t = mnF (fun t => pP v b lo W t j) t
 | 0 => rfl
 | t + 1 => by rw [mnL, mnF, mnL_F v b lo W j t]
theorem mxL_F (v b lo : Int) (W j : Nat) : ∀ t, mxL v b lo W j t = mxF (fun t => pP v b lo W t j) t
 | 0 => rfl
 | t + 1 => by rw [mxL, mxF, mxL_F v b lo W j t]
theorem prL_gM {g : Gun} {b : Int} {W : Nat} (hv : 1 ≤ g.v ∧ g.v ≤ 64) (hb : 0 ≤ b ∧ b ≤ 4096) (hlo : 0 ≤ g.lo) (hhi : g.hi ≤ 4) (ho : g.lo ≤ g.hi) : prL g.v b g.lo W (g.hi - g.lo).toNat = rl (fun j => (gMn g (j - b), gMx g (j - b))) W := by
 refine rl_congr fun j hj => ?_
 have hk : ∀ t, t ≤ (g.hi - g.lo).toNat → pP g.v b g.lo W t j = gP g (j - b) t := fun t ht => pP_gP hv hb hlo (by omega) hj
 rw [mnL_F, mxL_F, mnF_congr _ hk, mxF_congr _ hk]
 rfl
section
variable (l : List Gun) (d : ByteArray)
def gAt (k : Nat) : Gun := (l[k]?).getD ⟨⟨#[]⟩, 0, 0, 0, 0, 0, 0⟩
theorem gAt_at {k : Nat} (h : k < l.length) : gAt l k = l[k] := by unfold gAt; rw [List.getElem?_eq_getElem h]; rfl
def encS (i : Int) : Nat → Int × Int
 | 0 => (0, 0)
 | k + 1 => ((encS i k).1 + gMn (gAt l k) (i - (arrL d l).getD k 0), (encS i k).2 + gMx (gAt l k) (i - (arrL d l).getD k 0))
def encT (i : Int) : Nat → Int × Int
 | 0 => (0, 0)
 | r + 1 => (gMn (gAt l (l.length - (r + 1))) (i - (arrL d l).getD (l.length - (r + 1)) 0) + (encT i r).1, gMx (gAt l (l.length - (r + 1))) (i - (arrL d l).getD (l.length - (r + 1)) 0) + (encT i r).2)
theorem encT_S (i : Int) : ∀ r, r ≤ l.length → (encS l d i (l.length - r)).1 + (encT l d i r).1 = (encS l d i l.length).1 ∧ (encS l d i (l.length - r)).2 + (encT l d i r).2 = (encS l d i l.length).2
 | 0, _ => by simp [encT]
 | r + 1, h => by
   obtain ⟨h1, h2⟩ := encT_S i r (by omega)
   have e : l.length - r = (l.length - (r + 1)) + 1 := by omega
   rw [e, encS] at h1 h2
   rw [encT]
   simp only at h1 h2 ⊢
   omega
theorem encT_all (i : Int) : encT l d i l.length = encS l d i l.length := by
 obtain ⟨h1, h2⟩ := encT_S l d i l.length (Nat.le_refl _)
 rw [Nat.sub_self, encS] at h1 h2
 simp only [Int.zero_add] at h1 h2
 exact Prod.ext h1 h2
variable {l}
theorem encS_bd (hst : strE l = 0) (i : Int) : ∀ k, k ≤ l.length → (-(256 * (k : Int)) ≤ (encS l d i k).1 ∧ (encS l d i k).1 ≤ 256 * (k : Int)) ∧ -(256 * (k : Int)) ≤ (encS l d i k).2 ∧ (encS l d i k).2 ≤ 256 * (k : Int)
 | 0, _ => by simp [encS]
 | k + 1, h => by
   obtain ⟨h1, h2⟩ := encS_bd hst i k (by omega)
   obtain ⟨hv, _⟩ := gun_nums hst l[k] (List.getElem_mem (by omega))
   have h3 := gMn_bd hv (i - (arrL d l).getD k 0)
   have h4 := gMx_bd hv (i - (arrL d l).getD k 0)
   rw [encS, gAt_at l (by omega)]
   simp only
   omega
theorem encT_bd (hst : strE l = 0) (i : Int) : ∀ r, r ≤ l.length → (-(256 * (r : Int)) ≤ (encT l d i r).1 ∧ (encT l d i r).1 ≤ 256 * (r : Int)) ∧ -(256 * (r : Int)) ≤ (encT l d i r).2 ∧ (encT l d i r).2 ≤ 256 * (r : Int)
 | 0, _ => by simp [encT]
 | r + 1, h => by
   obtain ⟨h1, h2⟩ := encT_bd hst i r (by omega)
   obtain ⟨hv, _⟩ := gun_nums hst l[l.length - (r + 1)] (List.getElem_mem (by omega))
   have h3 := gMn_bd hv (i - (arrL d l).getD (l.length - (r + 1)) 0)
   have h4 := gMx_bd hv (i - (arrL d l).getD (l.length - (r + 1)) 0)
   rw [encT, gAt_at l (by omega)]
   simp only
   omega
end
def encL (l : List Gun) (d : ByteArray) (W : Nat) : List (Int × Int) := rl (fun i : Nat => encS l d i l.length) W
@[simp] theorem encL_length (l : List Gun) (d : ByteArray) (W : Nat) : (encL l d W).length = W := by simp [encL]
end Go.Proofs.YtndlfijfjglkdaaGreatDoor

namespace Go.Proofs.YtndlfijfjglkdaaGreatDoor
open Go Go.Ab Go.Proofs
abbrev encF (l : List Gun) (d : ByteArray) (i : Nat) : Int × Int := encS l d i l.length
abbrev vs46 : List Nat := [1, 2, 3, 7, 8, 9, 10, 11, 12, 13, 14, 15]
abbrev F46 (d : ByteArray) (W : Nat) (out : Value) (i : Int) : Fr := [(1, sv d), (2, iv W), (3, .pointer (some ⟨11, 0, none⟩)), (7, out), (8, iv i)]
abbrev H46 (l : List Gun) (o c : Nat) : Heap := [(11, .cells [.slice (some ⟨10, o, none⟩) l.length c] 24), (10, .inp o (gcs l))]
def S46 (l : List Gun) (d : ByteArray) (o c W : Nat) : Nat → St
 | 0 => { fr := F46 d W (.slice none 0 0) 0, sz := 89, H := H46 l o c, n := 12, marks := [], vs := vs46 }
 | i + 1 => { fr := F46 d W (.slice (some ⟨12, 0, some 0⟩) (i + 1) 0) (i + 1), sz := 89, H := (12, .ext (pcs (rl (encF l d) (i + 1))) 92 2) :: H46 l o c, n := 13, marks := [], vs := vs46 }
def I46 (fr : Fr) (X : Heap) (xb n : Nat) (s : Int × Int) (k : Nat) : St := { fr := fr ++ [(9, .pointer (some ⟨xb, 0, none⟩)), (10, iv k)], sz := 89, H := (xb, .cells [iv s.1, iv s.2] 92) :: X, n := n, marks := [], vs := vs46 }
def J46 (fr : Fr) (X : Heap) (xb gb n : Nat) (s : Int × Int) (k : Nat) (g : Gun) (at' : Int) (t : Nat) : St := { fr := fr ++ [(9, .pointer (some ⟨xb, 0, none⟩)), (10, iv k), (11, .pointer (some ⟨gb, 0, none⟩)), (12, iv at'), (13, iv (mnF (gP g at') (t - 1))), (14, iv (mxF (gP g at') (t - 1))), (15, iv (g.lo + t))], sz := 89, H := (gb, .cells g.cells 94) :: (xb, .cells [iv s.1, iv s.2] 92) :: X, n := n, marks := [], vs := vs46 }
theorem mnF_step (P : Nat → Int) (t : Nat) : min (mnF P (t - 1)) (P t) = mnF P t := by
 cases t with
 | zero => simp [mnF]
 | succ t => rfl
theorem mxF_step (P : Nat → Int) (t : Nat) : max (mxF P (t - 1)) (P t) = mxF P t := by
 cases t with
 | zero => simp [mxF]
 | succ t => rfl
set_option maxRecDepth 100000 in
theorem w46 (l : List Gun) (d : ByteArray) (o c W : Nat) (hst : strE l = 0) (hd : hasW d dirs = true) (hW : 1 ≤ W ∧ W ≤ 64) : ∃ u H1 n1 H2, AC Tryz.prog 46 [strV o l.length c, sv d, iv W] [(10, .inp o (gcs l))] 11 u H1 n1 ∧ pairQ 11 (encL l d W) u H2 ∧ (af u = false → H1 = H2) := by
 have hr := recT_ok (P := Tryz.prog) (l := [(30, g30), (130, g3 pulseV)]) (by simp only [List.forall_mem_cons]; exact ⟨ok30, ok130, by simp⟩)
 obtain ⟨h1, h8⟩ := strE_len hst
 have hsat : ∀ G : Heap, hget G 10 = some (.inp o (gcs l)) → strAt G (strV o l.length c) = some l := fun G hG => by
   unfold strAt gunsAt
   simp [hG, List.take_of_length_le, gunsOf_gcs, show l.length < 9223372036854775808 by omega]
 refine AC.out Tryz.func46 rfl (by kernel_rfl) rfl vs46 ?_
 refine E.seq ?_
 refine E.reg hr (by simp; rfl) ?_
 refine E.seq ?_
 refine E.reg hr (by simp; rfl) ?_
 refine E.seq ?_
 refine E.seq ?_
 refine E.reg hr (by simp; rfl) ?_
 refine E.block ?_
 refine E.loop ?_
 refine EL.ind (S46 l d o c W) (fun i => W - i) (fun i => i ≤ W) 0 (.less rfl rfl rfl (by simp [S46]) (by simp [S46])) (Nat.zero_le _) (fun i => by cases i <;> rfl) ?_
 intro i hi
 rcases i with _ | i
 · have hw : IntKind.i64.wrap 1 = 1 := W_in (by omega) (by omega)
   by_cases hiW : 0 < W
   rotate_left
   · omega
   have hts : pcs (rl (encF l d) 1) = [iv (encS l d 0 l.length).1, iv (encS l d 0 l.length).2] := by rw [rl_succ, rl_zero, List.nil_append]; rfl
   refine E.seq ?_
   refine E.seq ?_
   refine E.reg hr (by simp [S46]; rfl) ?_
   refine E.cond (by rfl) (fun h => ?_) (fun h => ?_)
   rotate_left
   · simp at h
     omega
   clear h
   refine E.skip ?_
   refine E.seq ?_
   refine E.block ?_
   refine E.seq ?_
   refine E.reg hr (by simp; rfl) ?_
   refine E.seq ?_
   refine E.seq ?_
   refine E.reg hr (by simp; rfl) ?_
   refine E.block ?_
   refine E.loop ?_
   refine EL.ind (fun k => I46 (F46 d W (.slice none 0 0) 0) (H46 l o c) 12 13 (encS l d 0 k) k) (fun k => l.length - k) (fun k => k ≤ l.length) 0 (.less rfl rfl rfl (by simp [I46]) (by simp [I46, encS])) (Nat.zero_le _) (fun _ => rfl) ?_
   intro k hk
   refine E.seq ?_
   refine E.seq ?_
   refine E.reg hr (by simp [I46]; rfl) ?_
   refine E.cond (by rfl) (fun h2 => ?_) (fun h2 => ?_)
   · simp at h2
     have hwk : IntKind.i64.wrap ((k : Int) + 1) = (k : Int) + 1 := W_in (by omega) (by omega)
     have hkI : (k : Int) < l.length := by omega
     have c7 : k * 7 + 7 ≤ l.length * 7 := by omega
     have htk := gcs_take h2
     have o1 : o + k * 7 - o = k * 7 := by omega
     have hka : k < (arrL d l).length := by rw [arrL_length]; omega
     have hav : arrV d l k = (arrL d l).getD k 0 := (arr_same hst hd h2).symm
     have hab := arrL_bounds hst d _ (List.getElem_mem hka)
     rw [← getD_at hka] at hab
     obtain ⟨g, hg⟩ : ∃ g, g = l[k] := ⟨_, rfl⟩
     rw [← hg] at htk
     have hgA : gAt l k = g := by rw [gAt_at l h2, hg]
     have hgm : g ∈ l := hg ▸ List.getElem_mem h2
     obtain ⟨hvb, _, _, _, hlo, hhi⟩ := gun_nums hst g hgm
     have hor := gun_order hst g hgm
     obtain ⟨at', hat⟩ : ∃ at' : Int, at' = 0 - (arrL d l).getD k 0 := ⟨_, rfl⟩
     have q1 : IntKind.i64.wrap (-arrV d l k) = at' := by rw [hav, hat, W_in (by omega) (by omega)]; omega
     have hs := encS_bd d hst 0 k (by omega)
     obtain ⟨s, hse⟩ : ∃ s, s = encS l d 0 k := ⟨_, rfl⟩
     rw [← hse] at hs
     have hmn := gMn_bd hvb at'
     have hmx := gMx_bd hvb at'
     have hsu : encS l d 0 (k + 1) = (s.1 + gMn g at', s.2 + gMx g at') := by rw [encS, hgA, hat, hse]
     have q3 : IntKind.i64.wrap (s.1 + gMn g at') = s.1 + gMn g at' := W_in (by omega) (by omega)
     have q4 : IntKind.i64.wrap (s.2 + gMx g at') = s.2 + gMx g at' := W_in (by omega) (by omega)
     have hp0 : pulseV g.v g.lo at' = gP g at' 0 := by unfold gP; rw [show g.lo + ((0 : Nat) : Int) = g.lo by omega]
     rw [← hse]
     refine E.skip ?_
     refine E.seq ?_
     refine E.block ?_
     refine E.seq ?_
     refine E.reg hr (by simp [h2, hkI, c7, htk, o1]; rfl) ?_
     refine E.seq ?_
     refine E.reg hr (by simp [g30, hsat, hst, hd, hkI, q1]; rfl) ?_
     refine E.seq ?_
     refine E.drawC mixed hr [13] [6, 13] [1, 4, 6, 13] (by kernel_rfl) (by simp [g3, hp0]; rfl) ?_
     refine E.seq ?_
     refine E.seq ?_
     refine E.reg hr (by simp; rfl) ?_
     refine E.block ?_
     refine E.loop ?_
     refine EL.ind (fun t => J46 (F46 d W (.slice none 0 0) 0) (H46 l o c) 12 13 14 s k g at' t) (fun t => gK g + 1 - t) (fun t => t ≤ gK g + 1) 0 (.less rfl rfl rfl (by simp [J46, mnF, mxF]) (by simp [J46])) (Nat.zero_le _) (fun _ => rfl) ?_
     intro t ht
     by_cases htK : t ≤ gK g
     · have hle : g.lo + (t : Int) ≤ g.hi := by unfold gK at htK; omega
       have hwt : IntKind.i64.wrap (g.lo + (t : Int) + 1) = g.lo + ((t : Int) + 1) := by rw [W_in (by omega) (by omega)]; omega
       have hpt : pulseV g.v (g.lo + (t : Int)) at' = gP g at' t := rfl
       have s1 := mnF_step (gP g at') t
       have s2 := mxF_step (gP g at') t
       refine E.seq ?_
       refine E.seq ?_
       refine E.reg hr (by simp [J46, hle]; rfl) ?_
       refine E.cond (by rfl) (fun h3 => ?_) (fun h3 => ?_)
       rotate_left
       · simp at h3
       refine E.skip ?_
       refine E.seq ?_
       refine E.block ?_
       refine E.seq ?_
       refine E.reg hr (by simp [g3, hpt]; rfl) ?_
       refine E.reg hr (by simp [min33, max33', s1, s2]; rfl) ?_
       refine E.reg hr (by simp [hwt]; rfl) ?_
       exact ⟨t + 1, .less rfl rfl rfl (by simp [J46]) (by simp [J46]), by dsimp only; omega, by dsimp only; omega⟩
     · obtain rfl : t = gK g + 1 := by omega
       have hgt : ¬ g.lo + ((gK g : Int) + 1) ≤ g.hi := by unfold gK; omega
       have e1 : mnF (gP g at') (gK g) = gMn g at' := rfl
       have e2 : mxF (gP g at') (gK g) = gMx g at' := rfl
       refine E.seq ?_
       refine E.seq ?_
       refine E.reg hr (by simp [J46, hgt, e1, e2]; rfl) ?_
       refine E.cond (by rfl) (fun h3 => ?_) (fun h3 => ?_)
       · simp at h3
       refine E.exit ?_
       refine E.reg hr (by simp [q3, q4, build92]; rfl) ?_
       refine E.reg hr (by simp [hwk]; rfl) ?_
       exact ⟨k + 1, Leads.ren [11, 12] rfl rfl rfl ⟨rfl, rfl⟩ (by simp [I46]) (by simp [I46, hsu]), by dsimp only; omega, by dsimp only; omega⟩
   · simp at h2
     obtain rfl : k = l.length := by omega
     refine E.exit ?_
     refine E.reg hr (by simp; rfl) ?_
     refine E.reg hr (by simp [hw]; rfl) ?_
     exact ⟨1, Leads.ren [11, 14] rfl rfl rfl ⟨rfl, rfl⟩ (by simp [S46]) (by simp [S46, hts]), by dsimp only; omega, by dsimp only; omega⟩
 · have hw : IntKind.i64.wrap ((i : Int) + 1 + 1) = (i : Int) + 1 + 1 := W_in (by omega) (by omega)
   by_cases hiW : i + 1 < W
   rotate_left
   · obtain rfl : W = i + 1 := by omega
     refine E.seq ?_
     refine E.seq ?_
     refine E.reg hr (by simp [S46]; rfl) ?_
     refine E.cond (by rfl) (fun h => ?_) (fun h => ?_)
     · simp at h
     refine E.exit ?_
     refine E.seq ?_
     refine E.reg hr (by simp; rfl) ?_
     refine E.ret ?_
     refine outK.ret rfl rfl ?_
     exact ⟨12, by simp, by simp [encL], by omega⟩
   have hpl : (pcs (rl (encF l d) (i + 1))).length = (i + 1) * 2 := by simp
   have ht : List.take ((i + 1) * 2) (pcs (rl (encF l d) (i + 1))) = pcs (rl (encF l d) (i + 1)) := List.take_of_length_le (by omega)
   have hno : ¬ (i + 1 + 1) * 2 ≤ (i + 1) * 2 := by omega
   have hsm : (i + 1 + 1) * 16 ≤ 1099511627776 ∧ (i + 1 + 1) * 2 ≤ 1099511627776 ∧ i + 1 + 1 ≤ 1099511627776 := by omega
   have hts : pcs (rl (encF l d) (i + 1 + 1)) = pcs (rl (encF l d) (i + 1)) ++ [iv (encS l d ((i : Int) + 1) l.length).1, iv (encS l d ((i : Int) + 1) l.length).2] := by rw [rl_succ, pcs_append]; rfl
   refine E.seq ?_
   refine E.seq ?_
   refine E.reg hr (by simp [S46]; rfl) ?_
   refine E.cond (by rfl) (fun h => ?_) (fun h => ?_)
   rotate_left
   · simp at h
     omega
   clear h
   refine E.skip ?_
   refine E.seq ?_
   refine E.block ?_
   refine E.seq ?_
   refine E.reg hr (by simp; rfl) ?_
   refine E.seq ?_
   refine E.seq ?_
   refine E.reg hr (by simp; rfl) ?_
   refine E.block ?_
   refine E.loop ?_
   refine EL.ind (fun k => I46 (F46 d W (.slice (some ⟨12, 0, some 0⟩) (i + 1) 0) ((i : Int) + 1)) ((12, .ext (pcs (rl (encF l d) (i + 1))) 92 2) :: H46 l o c) 13 14 (encS l d ((i : Int) + 1) k) k) (fun k => l.length - k) (fun k => k ≤ l.length) 0 (.less rfl rfl rfl (by simp [I46]) (by simp [I46, encS])) (Nat.zero_le _) (fun _ => rfl) ?_
   intro k hk
   refine E.seq ?_
   refine E.seq ?_
   refine E.reg hr (by simp [I46]; rfl) ?_
   refine E.cond (by rfl) (fun h2 => ?_) (fun h2 => ?_)
   · simp at h2
     have hwk : IntKind.i64.wrap ((k : Int) + 1) = (k : Int) + 1 := W_in (by omega) (by omega)
     have hkI : (k : Int) < l.length := by omega
     have c7 : k * 7 + 7 ≤ l.length * 7 := by omega
     have htk := gcs_take h2
     have o1 : o + k * 7 - o = k * 7 := by omega
     have hka : k < (arrL d l).length := by rw [arrL_length]; omega
     have hav : arrV d l k = (arrL d l).getD k 0 := (arr_same hst hd h2).symm
     have hab := arrL_bounds hst d _ (List.getElem_mem hka)
     rw [← getD_at hka] at hab
     obtain ⟨g, hg⟩ : ∃ g, g = l[k] := ⟨_, rfl⟩
     rw [← hg] at htk
     have hgA : gAt l k = g := by rw [gAt_at l h2, hg]
     have hgm : g ∈ l := hg ▸ List.getElem_mem h2
     obtain ⟨hvb, _, _, _, hlo, hhi⟩ := gun_nums hst g hgm
     have hor := gun_order hst g hgm
     obtain ⟨at', hat⟩ : ∃ at' : Int, at' = ((i : Int) + 1) - (arrL d l).getD k 0 := ⟨_, rfl⟩
     have q1 : IntKind.i64.wrap ((i : Int) + 1 - arrV d l k) = at' := by rw [hav, hat, W_in (by omega) (by omega)]
     have hs := encS_bd d hst ((i : Int) + 1) k (by omega)
     obtain ⟨s, hse⟩ : ∃ s, s = encS l d ((i : Int) + 1) k := ⟨_, rfl⟩
     rw [← hse] at hs
     have hmn := gMn_bd hvb at'
     have hmx := gMx_bd hvb at'
     have hsu : encS l d ((i : Int) + 1) (k + 1) = (s.1 + gMn g at', s.2 + gMx g at') := by rw [encS, hgA, hat, hse]
     have q3 : IntKind.i64.wrap (s.1 + gMn g at') = s.1 + gMn g at' := W_in (by omega) (by omega)
     have q4 : IntKind.i64.wrap (s.2 + gMx g at') = s.2 + gMx g at' := W_in (by omega) (by omega)
     have hp0 : pulseV g.v g.lo at' = gP g at' 0 := by unfold gP; rw [show g.lo + ((0 : Nat) : Int) = g.lo by omega]
     rw [← hse]
     refine E.skip ?_
     refine E.seq ?_
     refine E.block ?_
     refine E.seq ?_
     refine E.reg hr (by simp [h2, hkI, c7, htk, o1]; rfl) ?_
     refine E.seq ?_
     refine E.reg hr (by simp [g30, hsat, hst, hd, hkI, q1]; rfl) ?_
     refine E.seq ?_
     refine E.drawC mixed hr [13] [6, 13] [1, 4, 6, 13] (by kernel_rfl) (by simp [g3, hp0]; rfl) ?_
     refine E.seq ?_
     refine E.seq ?_
     refine E.reg hr (by simp; rfl) ?_
     refine E.block ?_
     refine E.loop ?_
     refine EL.ind (fun t => J46 (F46 d W (.slice (some ⟨12, 0, some 0⟩) (i + 1) 0) ((i : Int) + 1)) ((12, .ext (pcs (rl (encF l d) (i + 1))) 92 2) :: H46 l o c) 13 14 15 s k g at' t) (fun t => gK g + 1 - t) (fun t => t ≤ gK g + 1) 0 (.less rfl rfl rfl (by simp [J46, mnF, mxF]) (by simp [J46])) (Nat.zero_le _) (fun _ => rfl) ?_
     intro t ht
     by_cases htK : t ≤ gK g
     · have hle : g.lo + (t : Int) ≤ g.hi := by unfold gK at htK; omega
       have hwt : IntKind.i64.wrap (g.lo + (t : Int) + 1) = g.lo + ((t : Int) + 1) := by rw [W_in (by omega) (by omega)]; omega
       have hpt : pulseV g.v (g.lo + (t : Int)) at' = gP g at' t := rfl
       have s1 := mnF_step (gP g at') t
       have s2 := mxF_step (gP g at') t
       refine E.seq ?_
       refine E.seq ?_
       refine E.reg hr (by simp [J46, hle]; rfl) ?_
       refine E.cond (by rfl) (fun h3 => ?_) (fun h3 => ?_)
       rotate_left
       · simp at h3
       refine E.skip ?_
       refine E.seq ?_
       refine E.block ?_
       refine E.seq ?_
       refine E.reg hr (by simp [g3, hpt]; rfl) ?_
       refine E.reg hr (by simp [min33, max33', s1, s2]; rfl) ?_
       refine E.reg hr (by simp [hwt]; rfl) ?_
       exact ⟨t + 1, .less rfl rfl rfl (by simp [J46]) (by simp [J46]), by dsimp only; omega, by dsimp only; omega⟩
     · obtain rfl : t = gK g + 1 := by omega
       have hgt : ¬ g.lo + ((gK g : Int) + 1) ≤ g.hi := by unfold gK; omega
       have e1 : mnF (gP g at') (gK g) = gMn g at' := rfl
       have e2 : mxF (gP g at') (gK g) = gMx g at' := rfl
       refine E.seq ?_
       refine E.seq ?_
       refine E.reg hr (by simp [J46, hgt, e1, e2]; rfl) ?_
       refine E.cond (by rfl) (fun h3 => ?_) (fun h3 => ?_)
       · simp at h3
       refine E.exit ?_
       refine E.reg hr (by simp [q3, q4, build92]; rfl) ?_
       refine E.reg hr (by simp [hwk]; rfl) ?_
       exact ⟨k + 1, Leads.ren [11, 12, 13] rfl rfl rfl ⟨rfl, rfl⟩ (by simp [I46]) (by simp [I46, hsu]), by dsimp only; omega, by dsimp only; omega⟩
   · simp at h2
     obtain rfl : k = l.length := by omega
     refine E.exit ?_
     refine E.reg hr (by simp [ht, hpl, hno, hsm]; rfl) ?_
     refine E.reg hr (by simp [hw]; rfl) ?_
     exact ⟨i + 2, Leads.ren [11, 15] rfl rfl rfl ⟨rfl, rfl⟩ (by simp [S46]) (by simp [S46, hts]), by dsimp only; omega, by dsimp only; omega⟩
def g46 (args : List Value) (H : Heap) (n : Nat) : R := match args with
 | [v, .string d, .int .i64 w] => match strAt H v with
   | some l => if strE l = 0 ∧ hasW d dirs = true ∧ 1 ≤ w ∧ w ≤ 64 then some (.slice (some ⟨n, 0, some 0⟩) (encL l d w.toNat).length 0, (n, .ext (pcs (encL l d w.toNat)) 92 2) :: H, n + 1) else none
   | none => none
 | _ => none
theorem ok46 : EntOk Tryz.prog (46, g46) := by
 intro args H n v H' n' h'
 simp only [g46] at h'
 split at h'
 · rename_i v0 d w
   split at h'
   · rename_i l hg
     split at h'
     · rename_i hc
       obtain ⟨hst, hd, hw1, hw2⟩ := hc
       obtain ⟨W, rfl⟩ := Int.eq_ofNat_of_zero_le (show 0 ≤ w by omega)
       injection h' with h'; injection h' with e1 e2; injection e2 with e2 e3; subst e1 e2 e3
       have h1 := (strE_len hst).1
       unfold strAt at hg
       split at hg
       · injection hg with hg; subst hg; simp at h1
       · obtain ⟨hf, hc, hlen, _⟩ := gunsAt_ok hg
         subst hlen
         refine AC.liftF (names_sx _ _) (.inr ⟨_, _, _, rfl, afL_pcs _⟩) (Part.one (fun x => [.agg ⟨[x]⟩, sv d, iv W]) (by intro φ φ0 s s0 h; simp [denL, den, h]) (by intro p s h; exact ⟨⟨h, trivial⟩, trivial, trivial, trivial⟩) hf hc (afL_gcs l) [] (by simp [Seen]) gsz fun c => ?_)
         obtain ⟨u, H1, n1, H2, hAC, ⟨m, hu, hm, hle⟩, hh⟩ := w46 l d _ c W hst hd ⟨by omega, by omega⟩
         subst hu
         have := hh (by simp)
         subst this
         exact ⟨m, _, _, hle, hm, hAC⟩
       · cases hg
     · cases h'
   · cases h'
 · cases h'
end Go.Proofs.YtndlfijfjglkdaaGreatDoor

namespace Go.Ab
open Go
def footT' (P : Program) (ops : Array Oper) (o : Oper) (st : St) (sn : List Nat) : List Nat := match footA P (trim (lookTmps ops o) st.fr) o.op with
 | some f => f.see ++ sn
 | none => sn
def handW (P : Program) (r : Rec) (mk : List Nat) (w : Nat) (o : Oper) (see put : List Nat) (fr : Fr) (st : St) : Option St :=
 match runOp P r o { st with fr := fr, H := handA see put st.H } with
 | some (v, H, k) => match Nat.ble st.n k && namesOk k (takeNew st.n H) && (Nat.beq k st.n || memN mk w) with
   | true => some { st with fr := putA st.fr o.dst v, H := takeNew st.n H ++ backA put H st.H, n := k }
   | false => none
 | none => none
def writeT (P : Program) (r : Rec) (ops : Array Oper) (al mk late : List Nat) (n0 w : Nat) (o : Oper) (sn : List Nat) (st : St) : Option St :=
 match dstOk st.sz o.dst with
 | false => none
 | true => match wantedA ops (trim (lookTmps ops o) st.fr) o with
   | some true => match isPure o.op || isRead o.op || memN al w with
     | true => none
     | false => match footA P (trim (lookTmps ops o) st.fr) o.op with
       | some f => match visT late n0 w st.n f.see && f.put.all (memN f.see) && disj f.put sn with
         | true => handW P r mk w o f.see f.put (trim (lookTmps ops o) st.fr) st
         | false => none
       | none => none
   | _ => none
def opsW (P : Program) (r : Rec) (ops : Array Oper) (al mk late q : List Nat) (w n0 : Nat) : List Oper → Nat → List Nat → St → Option St
 | [], _, _, st => some st
 | o :: os, i, sn, st => match Nat.beq i w with
   | true => match writeT P r ops al mk late n0 i o sn st with
     | some st' => opsW P r ops al mk late q w n0 os (i + 1) sn st'
     | none => none
   | false => match oneT P r ops al mk late n0 i o st with
     | some st' => match memN q i with
       | true => opsW P r ops al mk late q w n0 os (i + 1) (footT' P ops o st sn) st'
       | false => opsW P r ops al mk late q w n0 os (i + 1) sn st'
     | none => none
def runW (P : Program) (r : Rec) (ops : Array Oper) (al mk late q : List Nat) (w : Nat) (st : St) : Option St :=
 match namesOk st.n st.H with
 | true => opsW P r ops al mk late q w st.n ops.toList 0 [] st
 | false => none
def wOk (bef : Array Nat) (q : List Nat) (w : Nat) : List Oper → Nat → Bool
 | [], _ => true
 | o :: os, i => (if i < w then ahead bef i w || (memN q i && (isPure o.op || isRead o.op)) else Nat.beq i w || isPure o.op || ahead bef w i) && wOk bef q w os (i + 1)
structure InvW (mk : List Nat) (n0 i : Nat) (ds : List Done) (st : St) : Prop where
 lt : ∀ d ∈ ds, d.i < i
 cov : ∀ k, n0 ≤ k → k < st.n → ∃ d ∈ ds, d.lo ≤ k ∧ k < d.hi ∧ memN mk d.i = true ∧ d.i < i
 nam : ∀ x ∈ st.H, x.1 < st.n
theorem InvW.same {mk : List Nat} {n0 i : Nat} {ds : List Done} {st : St} (hI : InvW mk n0 i ds st) {fr : Fr} : InvW mk n0 (i + 1) ds { st with fr := fr } :=
 ⟨fun d hd => Nat.lt_succ_of_lt (hI.lt d hd), fun k h1 h2 => by obtain ⟨d, a, b, c, e, f⟩ := hI.cov k h1 h2; exact ⟨d, a, b, c, e, by omega⟩, hI.nam⟩
theorem InvW.next {mk : List Nat} {n0 i : Nat} {ds : List Done} {st : St} (hI : InvW mk n0 i ds st) {fr : Fr} {see put : List Nat} {H : Heap} {k : Nat} (hn : ∀ x ∈ H, x.1 < k) (hm : (Nat.beq k st.n || memN mk i) = true) : InvW mk n0 (i + 1) (⟨i, see, put, st.n, k⟩ :: ds) { st with fr := fr, H := H, n := k } := by
 refine ⟨fun d hd => ?_, fun j h1 h2 => ?_, hn⟩
 · rcases List.mem_cons.1 hd with rfl | hd
   · exact Nat.lt_succ_self _
   · exact Nat.lt_succ_of_lt (hI.lt d hd)
 · rcases Nat.lt_or_ge j st.n with h | h
   · obtain ⟨d, a, b, c, e, f⟩ := hI.cov j h1 h
     exact ⟨d, List.mem_cons_of_mem _ a, b, c, e, by omega⟩
   · rw [Bool.or_eq_true] at hm
     have h2 : j < k := h2
     rcases hm with hm | hm
     · have := Nat.eq_of_beq_eq_true hm
       omega
     · exact ⟨_, List.mem_cons_self .., h, h2, hm, Nat.lt_succ_self _⟩
theorem lateOk_visW {bef : Array Nat} {mk late : List Nat} (hl : lateOk bef mk late = true) {n0 i : Nat} (hi : memN late i = true) {ds : List Done} {st : St} (hI : InvW mk n0 i ds st) {k : Nat} (hk : k < st.n) : visA bef n0 i ds k = true := by
 unfold visA
 rw [Bool.or_eq_true]
 rcases Nat.lt_or_ge k n0 with h | h
 · exact .inl ((blt_iff _ _).2 h)
 · obtain ⟨d, hd, h1, h2, h3, h4⟩ := hI.cov k h hk
   refine .inr (List.any_eq_true.2 ⟨d, hd, ?_⟩)
   have := List.all_eq_true.1 (List.all_eq_true.1 hl i ((memN_iff _ _).1 hi)) d.i ((memN_iff _ _).1 h3)
   rw [Bool.or_eq_true] at this
   rcases this with h | h
   · have := Nat.le_of_ble_eq_true h
     omega
   · simp only [Bool.and_eq_true]
     exact ⟨⟨Nat.ble_eq_true_of_le h1, (blt_iff _ _).2 h2⟩, h⟩
theorem visW {bef : Array Nat} {mk late : List Nat} (hl : lateOk bef mk late = true) {n0 i : Nat} {ds : List Done} {st : St} (hI : InvW mk n0 i ds st) {see : List Nat} (h : visT late n0 i st.n see = true) : see.all (visA bef n0 i ds) = true := by
 refine List.all_eq_true.2 fun k hk => ?_
 unfold visT at h
 rw [Bool.or_eq_true] at h
 rcases h with h | h
 · rw [Bool.and_eq_true] at h
   exact lateOk_visW hl h.1 hI ((blt_iff _ _).1 (List.all_eq_true.1 h.2 k hk))
 · have := List.all_eq_true.1 h k hk
   unfold visA
   rw [this, Bool.true_or]
abbrev Calm (bef : Array Nat) (i : Nat) (ds : List Done) : Prop := ∀ d ∈ ds, d.put = [] ∨ ahead bef d.i i = true
theorem footW {bef : Array Nat} {mk late : List Nat} (hl : lateOk bef mk late = true) {n0 i : Nat} {ds : List Done} {st : St} (hI : InvW mk n0 i ds st) (hp : Calm bef i ds) {see : List Nat} (h : visT late n0 i st.n see = true) : footOk bef n0 i ds see [] = true := by
 unfold footOk
 simp only [Bool.and_eq_true]
 refine ⟨⟨List.all_eq_true.2 fun d hd => ?_, visW hl hI h⟩, rfl⟩
 rcases hp d hd with h | h <;> simp [disj, h]
theorem seeCall_calm {bef : Array Nat} {n0 i : Nat} {ds : List Done} (hp : Calm bef i ds) : ∀ H : Heap, (∀ x ∈ H, visA bef n0 i ds x.1 = true) → seeCall bef n0 i ds H = dnames H
 | [], _ => rfl
 | (k, b) :: H, hv => by
   have ih := seeCall_calm hp H fun x hx => hv x (List.mem_cons_of_mem _ hx)
   have h1 := hv _ (List.mem_cons_self ..)
   have h2 : (ds.all fun d => ahead bef d.i i || !memN d.put k) = true := List.all_eq_true.2 fun d hd => by rcases hp d hd with h | h <;> simp [h, memN]
   cases b <;> simp only [seeCall, dnames, h1, h2, ih, Bool.and_self, if_true]
theorem backA_mem (put : List Nat) (H' : Heap) : ∀ (H : Heap) (x : Nat × Blk), x ∈ backA put H' H → ∃ b, (x.1, b) ∈ H
 | [], _, h => by cases h
 | (k, b) :: H, x, h => by
   simp only [backA] at h
   split at h
   · rcases List.mem_cons.1 h with rfl | h
     · exact ⟨b, List.mem_cons_self ..⟩
     · obtain ⟨c, hc⟩ := backA_mem put H' H x h
       exact ⟨c, List.mem_cons_of_mem _ hc⟩
   · split at h
     · rcases List.mem_cons.1 h with rfl | h
       · exact ⟨b, List.mem_cons_self ..⟩
       · obtain ⟨c, hc⟩ := backA_mem put H' H x h
         exact ⟨c, List.mem_cons_of_mem _ hc⟩
     · obtain ⟨c, hc⟩ := backA_mem put H' H x h
       exact ⟨c, List.mem_cons_of_mem _ hc⟩
theorem handW_ok {P : Program} {r : Rec} {bef : Array Nat} {mk : List Nat} {n0 i : Nat} {ds : List Done} {o : Oper} {fr : Fr} {st st' : St} (hI : InvW mk n0 i ds st) {see put : List Nat} (hf : footOk bef n0 i ds see put = true) (h : handW P r mk i o see put fr st = some st') :
   ∃ lo hi, handOp P r bef n0 i ds o see put fr st = some (st', ⟨i, see, put, lo, hi⟩ :: ds) ∧ InvW mk n0 (i + 1) (⟨i, see, put, lo, hi⟩ :: ds) st' := by
 unfold handW at h
 unfold handOp
 rw [hf]
 simp only
 split at h
 · rename_i v H k hv
   rw [hv]
   simp only
   split at h
   · rename_i hc
     simp only [Bool.and_eq_true] at hc
     injection h with h; subst h
     rw [hc.1.1, hc.1.2]
     simp only [Bool.and_self]
     have hle := Nat.le_of_ble_eq_true hc.1.1
     refine ⟨_, _, rfl, hI.next (fun x hx => ?_) hc.2⟩
     rcases List.mem_append.1 hx with hx | hx
     · exact namesOk_mem _ _ hc.1.2 x hx
     · obtain ⟨b, hb⟩ := backA_mem _ _ _ _ hx
       exact Nat.lt_of_lt_of_le (hI.nam (x.1, b) hb) hle
   · cases h
 · cases h
theorem handT_W {P : Program} {r : Rec} {mk : List Nat} {i : Nat} {o : Oper} {see : List Nat} {fr : Fr} {st : St} : handT P r mk i o see fr st = handW P r mk i o see [] fr st := by
 have hb : ∀ (H' H : Heap), backA [] H' H = H := fun H' H => by
   induction H with
   | nil => rfl
   | cons x H ih => obtain ⟨k, b⟩ := x; simp only [backA, memN, ih]
 unfold handT handW
 simp only [hb]
 generalize runOp P r o { st with fr := fr, H := handA see [] st.H } = z
 cases z with
 | none => rfl
 | some y =>
   obtain ⟨v, H, k⟩ := y
   simp only
   cases (Nat.ble st.n k && namesOk k (takeNew st.n H) && (Nat.beq k st.n || memN mk i)) <;> rfl
theorem oneT_ok {P : Program} {r : Rec} {ops : Array Oper} {bef : Array Nat} {al mk late : List Nat} (hl : lateOk bef mk late = true) {n0 i : Nat} {o : Oper} {st st1 : St} {ds : List Done} (hal : (isPure o.op || isRead o.op || memN al i == aloneA bef i ops.toList 0) = true)
   (hI : InvW mk n0 i ds st) (hp : Calm bef i ds) (h1 : oneT P r ops al mk late n0 i o st = some st1) :
   ∃ ds', oneD P r ops bef n0 i ds o st = some (st1, ds') ∧ InvW mk n0 (i + 1) ds' st1 ∧ (ds' = ds ∨ isPure o.op = false ∧ ∃ see lo hi, ds' = ⟨i, see, [], lo, hi⟩ :: ds ∧ (isRead o.op = true → ∃ f, footA P (trim (lookTmps ops o) st.fr) o.op = some f ∧ see = f.see)) := by
 simp only [Bool.or_eq_true, beq_iff_eq] at hal
 have halo : isPure o.op = false → isRead o.op = false → memN al i = aloneA bef i ops.toList 0 := fun h1 h2 => by
   rcases hal with (h | h) | h
   · rw [h1] at h; cases h
   · rw [h2] at h; cases h
   · exact h
 unfold oneT at h1
 unfold oneD
 split at h1
 · cases h1
 · rename_i hd
   rw [hd]
   simp only
   split at h1
   · cases h1
   · rename_i hw
     rw [hw]
     injection h1 with h1; subst h1
     exact ⟨ds, rfl, hI.same, .inl rfl⟩
   · rename_i hw
     rw [hw]
     simp only
     unfold doneT at h1
     unfold doneD
     split at h1
     · rename_i hp
       rw [hp]
       simp only
       unfold pureS at h1
       unfold pureOp
       split at h1
       · rename_i v a k hv
         rw [hv]
         simp only
         split at h1
         · rename_i hk
           rw [hk]
           injection h1 with h1; subst h1
           exact ⟨ds, rfl, hI.same, .inl rfl⟩
         · cases h1
       · cases h1
     · rename_i hpu
       rw [hpu]
       simp only
       split at h1
       · rename_i hrd
         rw [hrd]
         simp only
         split at h1
         · rename_i f hf
           rw [hf]
           simp only
           unfold readT at h1
           split at h1
           · rename_i hv
             unfold readOp
             rw [footW hl hI hp hv]
             simp only
             split at h1
             · rename_i v a b hv
               rw [hv]
               injection h1 with h1; subst h1
               exact ⟨_, rfl, hI.next hI.nam (by simp), .inr ⟨trivial, _, _, _, rfl, fun _ => ⟨f, rfl, rfl⟩⟩⟩
             · cases h1
           · cases h1
         · cases h1
       · rename_i hrd
         rw [hrd]
         simp only
         split at h1
         · rename_i hm
           have ha : aloneA bef i ops.toList 0 = true := by rw [← halo hpu hrd, hm]
           rw [ha]
           simp only
           unfold aloneT at h1
           unfold aloneOp
           split at h1
           · rename_i v H k hv
             rw [hv]
             simp only
             split at h1
             · rename_i hk
               simp only [Bool.and_eq_true] at hk
               rw [hk.1.1, hk.1.2]
               injection h1 with h1; subst h1
               exact ⟨_, rfl, hI.next (namesOk_mem _ _ hk.1.2) hk.2, .inr ⟨trivial, _, _, _, rfl, fun h => by cases h⟩⟩
             · cases h1
           · cases h1
         · rename_i hm
           have ha : aloneA bef i ops.toList 0 = false := by rw [← halo hpu hrd, hm]
           rw [ha]
           simp only
           split at h1
           · rename_i f hf
             rw [hf]
             simp only
             split at h1
             · rename_i hv
               rw [Bool.and_eq_true] at hv
               rw [List.isEmpty_iff.1 hv.1]
               rw [handT_W] at h1
               obtain ⟨lo, hi, e1, e2⟩ := handW_ok hI (footW hl hI hp hv.2) h1
               exact ⟨_, e1, e2, .inr ⟨trivial, _, _, _, rfl, fun h => by cases h⟩⟩
             · cases h1
           · rename_i hf
             rw [hf]
             simp only
             split at h1
             · rename_i hv
               have hvis : ∀ k, k < st.n → visA bef n0 i ds k = true := fun k hk => lateOk_visW hl hv hI hk
               rw [seeCall_calm hp st.H fun x hx => hvis _ (hI.nam x hx)]
               rw [handT_W] at h1
               obtain ⟨lo, hi, e1, e2⟩ := handW_ok hI (footW hl hI hp (by
                 unfold visT
                 rw [hv]
                 simp only [Bool.true_and, Bool.or_eq_true]
                 refine .inl (List.all_eq_true.2 fun k hk => ?_)
                 obtain ⟨b, hb⟩ := dnames_mem _ _ hk
                 exact (blt_iff _ _).2 (hI.nam _ hb))) h1
               exact ⟨_, e1, e2, .inr ⟨trivial, _, _, _, rfl, fun h => by cases h⟩⟩
             · cases h1
theorem opsW_ok {P : Program} {r : Rec} {ops : Array Oper} {bef : Array Nat} {al mk late q : List Nat} {w : Nat} (hl : lateOk bef mk late = true) {n0 : Nat} : ∀ (os : List Oper) (i : Nat) (sn : List Nat) (st st' : St) (ds : List Done), alEq ops bef al os i = true → wOk bef q w os i = true → InvW mk n0 i ds st →
   (i ≤ w → ∀ d ∈ ds, d.put = [] ∧ (ahead bef d.i w = true ∨ ∀ k ∈ d.see, k ∈ sn)) → (w < i → ∀ d ∈ ds, d.put = [] ∨ d.i = w) → opsW P r ops al mk late q w n0 os i sn st = some st' → opsD P r ops bef n0 os i ds st = some st'
 | [], _, _, st, st', ds, _, _, _, _, _, h => h
 | o :: os, i, sn, st, st', ds, hal, hw, hI, hc1, hc2, h => by
   simp only [alEq, Bool.and_eq_true] at hal
   simp only [wOk, Bool.and_eq_true] at hw
   simp only [opsW] at h
   split at h
   · rename_i hiw
     have hiw := Nat.eq_of_beq_eq_true hiw
     subst hiw
     split at h
     · rename_i st1 h1
       have key : ∃ ds', oneD P r ops bef n0 i ds o st = some (st1, ds') ∧ InvW mk n0 (i + 1) ds' st1 ∧ ∃ see put lo hi, ds' = ⟨i, see, put, lo, hi⟩ :: ds := by
         unfold writeT at h1
         unfold oneD
         split at h1
         · cases h1
         · rename_i hd
           rw [hd]
           simp only
           split at h1
           · rename_i hwa
             rw [hwa]
             simp only
             split at h1
             · cases h1
             · rename_i hk
               simp only [Bool.or_eq_false_iff] at hk
               unfold doneD
               rw [hk.1.1, hk.1.2]
               simp only
               have ha : aloneA bef i ops.toList 0 = false := by
                 have := hal.1
                 rw [hk.1.1, hk.1.2, hk.2] at this
                 simpa using this
               rw [ha]
               simp only
               split at h1
               · rename_i f hf
                 rw [hf]
                 simp only
                 split at h1
                 · rename_i hv
                   simp only [Bool.and_eq_true] at hv
                   obtain ⟨⟨hv1, hv2⟩, hv3⟩ := hv
                   have hfo : footOk bef n0 i ds f.see f.put = true := by
                     unfold footOk
                     simp only [Bool.and_eq_true]
                     refine ⟨⟨List.all_eq_true.2 fun d hd => ?_, visW hl hI hv1⟩, hv2⟩
                     obtain ⟨e1, e2⟩ := hc1 (Nat.le_refl _) d hd
                     rw [Bool.or_eq_true]
                     rcases e2 with e2 | e2
                     · exact .inl e2
                     · refine .inr ?_
                       rw [e1, Bool.and_eq_true]
                       refine ⟨List.all_eq_true.2 fun k hk => ?_, rfl⟩
                       have := List.all_eq_true.1 hv3 k hk
                       cases hm : memN d.see k with
                       | false => rfl
                       | true =>
                         have h3 := (memN_iff _ _).2 (e2 k ((memN_iff _ _).1 hm))
                         rw [h3] at this
                         cases this
                   obtain ⟨lo, hi, g1, g2⟩ := handW_ok hI hfo h1
                   exact ⟨_, g1, g2, _, _, _, _, rfl⟩
                 · cases h1
               · cases h1
           · cases h1
       obtain ⟨ds', h2, hI', see, put, lo, hi, rfl⟩ := key
       simp only [opsD, h2]
       refine opsW_ok hl os (i + 1) sn st1 st' _ hal.2 hw.2 hI' (fun hle => by omega) (fun _ d hd => ?_) h
       rcases List.mem_cons.1 hd with rfl | hd
       · exact .inr rfl
       · exact .inl (hc1 (Nat.le_refl _) d hd).1
     · cases h
   · rename_i hiw
     have hne : i ≠ w := fun e => by rw [e, Nat.beq_refl] at hiw; cases hiw
     split at h
     · rename_i st1 h1
       by_cases hpu : isPure o.op = true
       · have hone : ∃ ds', oneD P r ops bef n0 i ds o st = some (st1, ds') ∧ InvW mk n0 (i + 1) ds' st1 ∧ ds' = ds := by
           unfold oneT at h1
           unfold oneD
           split at h1
           · cases h1
           · rename_i hd
             rw [hd]
             simp only
             split at h1
             · cases h1
             · rename_i hw
               rw [hw]
               injection h1 with h1; subst h1
               exact ⟨ds, rfl, hI.same, rfl⟩
             · rename_i hw
               rw [hw]
               simp only
               unfold doneT at h1
               unfold doneD
               rw [hpu] at h1 ⊢
               simp only at h1 ⊢
               unfold pureS at h1
               unfold pureOp
               split at h1
               · rename_i v a k hv
                 rw [hv]
                 simp only
                 split at h1
                 · rename_i hk
                   rw [hk]
                   injection h1 with h1; subst h1
                   exact ⟨ds, rfl, hI.same, rfl⟩
                 · cases h1
               · cases h1
         obtain ⟨ds', h2, hI', rfl⟩ := hone
         simp only [opsD, h2]
         split at h
         · refine opsW_ok hl os (i + 1) _ st1 st' _ hal.2 hw.2 hI' (fun hle d hd => ?_) (fun hlt d hd => hc2 (by omega) d hd) h
           obtain ⟨e1, e2⟩ := hc1 (by omega) d hd
           refine ⟨e1, e2.imp_right fun e2 k hk => ?_⟩
           unfold footT'
           split
           · exact List.mem_append_right _ (e2 k hk)
           · exact e2 k hk
         · exact opsW_ok hl os (i + 1) sn st1 st' _ hal.2 hw.2 hI' (fun hle d hd => hc1 (by omega) d hd) (fun hlt d hd => hc2 (by omega) d hd) h
       · have hpu : isPure o.op = false := by simpa using hpu
         have hcalm : Calm bef i ds := fun d hd => by
           rcases Nat.lt_or_ge w i with hlt | hle
           · rcases hc2 hlt d hd with e | e
             · exact .inl e
             · refine .inr ?_
               have := hw.1
               rw [if_neg (by omega), hpu, hiw] at this
               rw [e]
               simpa using this
           · exact .inl (hc1 hle d hd).1
         obtain ⟨ds', h2, hI', hds⟩ := oneT_ok hl hal.1 hI hcalm h1
         simp only [opsD, h2]
         have hsub : ∀ (sn' : List Nat), (∀ k ∈ sn, k ∈ sn') → (i < w → ahead bef i w = true ∨ (isRead o.op = true ∧ ∀ f, footA P (trim (lookTmps ops o) st.fr) o.op = some f → ∀ k ∈ f.see, k ∈ sn')) → i + 1 ≤ w → ∀ d ∈ ds', d.put = [] ∧ (ahead bef d.i w = true ∨ ∀ k ∈ d.see, k ∈ sn') := fun sn' hs ho hle d hd => by
           have old : ∀ d ∈ ds, d.put = [] ∧ (ahead bef d.i w = true ∨ ∀ k ∈ d.see, k ∈ sn') := fun d hd => by
             obtain ⟨e1, e2⟩ := hc1 (by omega) d hd
             exact ⟨e1, e2.imp_right fun e2 k hk => hs k (e2 k hk)⟩
           rcases hds with rfl | ⟨_, see, lo, hi, rfl, hf⟩
           · exact old d hd
           · rcases List.mem_cons.1 hd with rfl | hd
             · refine ⟨rfl, (ho (by omega)).imp_right fun h => ?_⟩
               obtain ⟨f, e1, e2⟩ := hf h.1
               intro k hk
               exact h.2 f e1 k (e2 ▸ hk)
             · exact old d hd
         have hput : w < i + 1 → ∀ d ∈ ds', d.put = [] ∨ d.i = w := fun hlt d hd => by
           rcases hds with rfl | ⟨_, see, lo, hi, rfl, _⟩
           · exact hc2 (by omega) d hd
           · rcases List.mem_cons.1 hd with rfl | hd
             · exact .inl rfl
             · exact hc2 (by omega) d hd
         have hst : i < w → ahead bef i w = true ∨ (memN q i = true ∧ isRead o.op = true) := fun hlt => by
           have := hw.1
           rw [if_pos hlt, hpu] at this
           simpa using this
         split at h
         · rename_i hq
           refine opsW_ok hl os (i + 1) _ st1 st' _ hal.2 hw.2 hI' (hsub _ (fun k hk => ?_) fun hlt => ?_) hput h
           · unfold footT'
             split
             · exact List.mem_append_right _ hk
             · exact hk
           · refine (hst hlt).imp_right fun e => ⟨e.2, fun f hf k hk => ?_⟩
             unfold footT'
             rw [hf]
             exact List.mem_append_left _ hk
         · rename_i hq
           refine opsW_ok hl os (i + 1) sn st1 st' _ hal.2 hw.2 hI' (hsub sn (fun k hk => hk) fun hlt => ?_) hput h
           refine (hst hlt).imp_right fun e => ?_
           rw [e.1] at hq
           cases hq
     · cases h
def drawTW (ops : Array Oper) (bef : Array Nat) (al mk late q : List Nat) (w : Nat) : Bool := drawT ops bef al mk late && wOk bef q w ops.toList 0
section
variable {P : Program} {n0 : Nat} {ro : Option Nat} {st st' : St} {K : Ex → St → Prop} {r : Rec} {m : Nat}
theorem E.drawW (hm : P.follows .mixedOrders = true) (hr : RecOk P r m) (al mk late q : List Nat) (w : Nat) {id : Nat} {ops : Array Oper} (hd : drawTW ops (Region.before ops) al mk late q w = true) (h : runW P r ops al mk late q w st = some st') (k : K .normal st') : E P n0 ro (.region id ops true) st K := by
 unfold drawTW drawT at hd
 simp only [Bool.and_eq_true] at hd
 obtain ⟨⟨⟨h1, h2⟩, h3⟩, h4⟩ := hd
 unfold runW at h
 split at h
 · rename_i hn
   exact E.draw hm hr h1 (opsW_ok h3 _ 0 [] st st' [] h2 h4 ⟨fun d hd => (by simp at hd), fun k h1 h2 => (by omega), namesOk_mem _ _ hn⟩ (fun _ d hd => (by simp at hd)) (fun _ d hd => (by simp at hd)) h) k
 · cases h
end
attribute [simp] runW opsW writeT handW footT' disj backA
end Go.Ab

namespace Go.Proofs.YtndlfijfjglkdaaGreatDoor
open Go Go.Ab Go.Proofs
abbrev nilS : Value := .slice none 0 0
def nils (n : Nat) : List Value := List.replicate n nilS
@[simp] theorem nils_length (n : Nat) : (nils n).length = n := by simp [nils]
@[simp] theorem afL_nils (n : Nat) : afL (nils n) = true := by
 induction n with
 | zero => rfl
 | succ n ih => unfold nils at ih ⊢; rw [List.replicate_succ]; simp [ih]
@[simp] theorem renL_nils (ρ : Nat → Nat) (n : Nat) : renL ρ (nils n) = nils n := by
 rw [renL_eq]
 simp [nils, nilS, ren]
@[simp] theorem scL_nils (p : Nat → Prop) (n : Nat) : scL p (nils n) := scL_af p _ (afL_nils n)
theorem nils_succ (n : Nat) : nils (n + 1) = nils n ++ [nilS] := by simp [nils, List.replicate_succ']
theorem nils_drop (n : Nat) (x : Value) : List.drop (n + 1) (nils n ++ [x]) = [] := List.drop_of_length_le (by simp)
theorem E.toATc {P : Program} {ro : Option Nat} {c : Code} {s s' : St} {e : Ex} (h : E P s.n ro c s fun e2 s2 => e2 = e ∧ s2.n = s'.n ∧ s2.sz = s'.sz ∧ s2.marks = s'.marks ∧ (∀ x ∈ s'.fr, lk s2.fr x.1 = some x.2) ∧ ∀ x ∈ s'.H, hget s2.H x.1 = some x.2) : AT P ro c s e s' := by
 obtain ⟨e2, s2, hx, rfl, h1, h2, h3, h4, h5⟩ := h
 exact (ATX.at hx).cut h1 h2 h3 (fun t v hv => h4 (t, v) (lk_mem _ _ _ hv)) (fun k b hk => h5 (k, b) (hget_mem _ _ _ hk))
noncomputable def asg135 : Code := match rfOf (bodyOf' Tryz.f135) with
 | some x => x.1
 | none => .skip
noncomputable def bdy135 : Code := match rfOf (bodyOf' Tryz.f135) with
 | some x => x.2
 | none => .skip
abbrev encR (l : List Gun) (d : ByteArray) (r i : Nat) : Int × Int := encT l d i r
abbrev fn237 : Value := .func (.func 237) #[] #[.pointer (some ⟨19, 0, none⟩)]
abbrev fr135 : Fr := [(31, fn237), (5, .pointer (some ⟨13, 0, none⟩)), (7, .pointer (some ⟨15, 0, none⟩)), (8, .pointer (some ⟨17, 0, none⟩))]
abbrev vs135 : List Nat := [5, 7, 8, 9, 11, 45, 46, 47]
noncomputable def r135 (s1 s2 : St) : Rec := recV Tryz.prog (fun _ c _ => match c with
 | .seq _ _ => some (.normal, s1)
 | .block _ _ => some (.normal, s2)
 | _ => none) (fun _ _ _ _ => none)
theorem fr135_sc {m : Nat} (h : 20 ≤ m) : ∀ x ∈ fr135, sc (· < m) x.2 := by
 intro x hx
 simp only [fr135, List.mem_cons, List.not_mem_nil, or_false] at hx
 rcases hx with rfl | rfl | rfl | rfl <;> simp [sc, scL] <;> omega
@[simp high] theorem held135 {m : Nat} {ls : LoopState} {a b : Code} (h : 20 < m) : heldB m (.loop ls none fr135 80 vs135 #[32, 33] a b 20) = True := eq_true ⟨h, fr135_sc (by omega)⟩
@[simp] theorem scB_cells (p : Nat → Prop) (cs : List Value) (t : TypeId) : scB p (.cells cs t) = scL p cs := rfl
@[simp] theorem scB_ext (p : Nat → Prop) (cs : List Value) (t : TypeId) (sz : Nat) : scB p (.ext cs t sz) = scL p cs := rfl
@[simp] theorem scB_inp (p : Nat → Prop) (o : Nat) (cs : List Value) : scB p (.inp o cs) = scL p cs := rfl
@[simp] theorem scB_row (p : Nat → Prop) (cs : List Value) (sz : Nat) : scB p (.row cs sz) = scL p cs := rfl
@[simp] theorem scB_defd (p : Nat → Prop) : scB p .defd = True := rfl
@[simp] theorem scB_loop {p : Nat → Prop} {ls : LoopState} {pe : Option Code} {fr : Fr} {sz d : Nat} {vs : List Nat} {ps : Array Tmp} {a b : Code} (h1 : p d) (h2 : ∀ x ∈ fr, sc p x.2) : scB p (.loop ls pe fr sz vs ps a b d) = True := eq_true ⟨h1, fun t v hv => h2 (t, v) (lk_mem _ _ _ hv)⟩
@[simp] theorem heldB_cells (m : Nat) (cs : List Value) (t : TypeId) : heldB m (.cells cs t) = True := rfl
@[simp] theorem heldB_ext (m : Nat) (cs : List Value) (t : TypeId) (sz : Nat) : heldB m (.ext cs t sz) = True := rfl
@[simp] theorem heldB_inp (m o : Nat) (cs : List Value) : heldB m (.inp o cs) = True := rfl
@[simp] theorem heldB_row (m : Nat) (cs : List Value) (sz : Nat) : heldB m (.row cs sz) = True := rfl
@[simp] theorem heldB_defd (m : Nat) : heldB m .defd = True := rfl
abbrev slA (W : Nat) : Value := .slice (some ⟨18, 0, none⟩) W W
end Go.Proofs.YtndlfijfjglkdaaGreatDoor

namespace Go.Proofs.YtndlfijfjglkdaaGreatDoor
open Go Go.Ab Go.Proofs
abbrev slB (W : Nat) : Value := .slice (some ⟨22, 0, some 0⟩) W 0
end Go.Proofs.YtndlfijfjglkdaaGreatDoor

namespace Go.Proofs.YtndlfijfjglkdaaGreatDoor
open Go Go.Ab Go.Proofs
def i3 (L r : Nat) : Int := (L : Int) - r - 1
end Go.Proofs.YtndlfijfjglkdaaGreatDoor

namespace Go.Proofs.YtndlfijfjglkdaaGreatDoor
open Go Go.Ab Go.Proofs
theorem rep_nil (w : Nat) : ((Array.range (w * 1)).map ((if w * 1 = 0 then #[] else #[nilS])[· % (if w * 1 = 0 then #[] else #[nilS]).size]!)).toList = nils w := by
 refine List.eq_replicate_iff.2 ⟨by simp, fun x hx => ?_⟩
 simp only [Array.toList_map, List.mem_map, Array.toList_range, List.mem_range] at hx
 obtain ⟨i, hi, rfl⟩ := hx
 rw [if_neg (by omega)]
 simp [Nat.mod_one]
theorem rep_iv2 (w : Nat) : ((Array.range (w * 2)).map ((if w * 2 = 0 then #[] else #[iv 0, iv 0])[· % (if w * 2 = 0 then #[] else #[iv 0, iv 0]).size]!)).toList = List.replicate (w * 2) (iv 0) := by
 refine List.eq_replicate_iff.2 ⟨by simp, fun x hx => ?_⟩
 simp only [Array.toList_map, List.mem_map, Array.toList_range, List.mem_range] at hx
 obtain ⟨i, hi, rfl⟩ := hx
 rw [if_neg (by omega)]
 have h2 : i % 2 = 0 ∨ i % 2 = 1 := by omega
 rcases h2 with h2 | h2 <;> simp [h2]
theorem pcs_zero (l : List Gun) (d : ByteArray) (W : Nat) : List.replicate (W * 2) (iv 0) = pcs (rl (encR l d 0) W) := by
 induction W with
 | zero => rfl
 | succ W ih =>
   rw [rl_succ, pcs_append, ← ih, show (W + 1) * 2 = W * 2 + 1 + 1 by omega, List.replicate_succ', List.replicate_succ', List.append_assoc]
   rfl
theorem mk201 {fr : Fr} {H : Heap} {n : Nat} {x y : Operand} {w : Int} (h0 : 0 ≤ w) (h1 : w ≤ 4096) (hx : evO Tryz.prog fr x = some (iv w)) (hy : evO Tryz.prog fr y = some (iv w)) : opMakeslice Tryz.prog 201 x y fr H n = some (.slice (some ⟨n, 0, none⟩) w.toNat w.toNat, (n, .cells (nils w.toNat) 64) :: H, n + 1) := by
 unfold opMakeslice
 rw [hx, hy, Tryz.underlying201]
 have hz : Tryz.t64.zero = some nilS := by kernel_rfl
 have hb : Tryz.t64.bytes = 24 := by kernel_rfl
 have hs : Tryz.t64.size = 1 := by kernel_rfl
 simp only [inf64, hz, hb, hs]
 have hc : (0 ≤ w ∧ w ≤ w ∧ (smallA 24 w.toNat && afL nilS.cells.toList) = true) := ⟨h0, Int.le_refl _, by simp [smallA]; omega⟩
 rw [if_pos hc]
 unfold newA
 rw [show nilS.cells = #[nilS] from rfl, rep_nil]
theorem mk64 {fr : Fr} {H : Heap} {n : Nat} {x y : Operand} {w : Int} (h0 : 0 ≤ w) (h1 : w ≤ 4096) (hx : evO Tryz.prog fr x = some (iv w)) (hy : evO Tryz.prog fr y = some (iv w)) : opMakeslice Tryz.prog 64 x y fr H n = some (.slice (some ⟨n, 0, none⟩) w.toNat w.toNat, (n, .cells (List.replicate (w.toNat * 2) (iv 0)) 92) :: H, n + 1) := by
 unfold opMakeslice
 rw [hx, hy, Tryz.underlying64]
 have hz : Tryz.t92.zero = some (.agg #[iv 0, iv 0]) := by kernel_rfl
 have hb : Tryz.t92.bytes = 16 := by kernel_rfl
 have hs : Tryz.t92.size = 2 := by kernel_rfl
 simp only [inf92, hz, hb, hs]
 have hc : (0 ≤ w ∧ w ≤ w ∧ (smallA 16 w.toNat && afL (Value.agg #[iv 0, iv 0]).cells.toList) = true) := ⟨h0, Int.le_refl _, by simp [smallA]; omega⟩
 rw [if_pos hc]
 unfold newA
 rw [show (Value.agg #[iv 0, iv 0]).cells = #[iv 0, iv 0] from rfl, rep_iv2]
@[simp] theorem ent196 : enterable Tryz.prog 196 = true := by kernel_rfl
theorem ent237 : enterable Tryz.prog 237 = true := by kernel_rfl
end Go.Proofs.YtndlfijfjglkdaaGreatDoor

namespace Go.Ab
open Go
theorem AC.given {P : Program} {f : FuncId} {args : List Value} {H : Heap} {n : Nat} {v : Value} {H' : Heap} {n' : Nat} (h : (∀ k b, hget H k = some b → k < n ∧ scB (· < n) b) → scL (· < n) args → P.globals.size ≤ n → AC P f args H n v H' n') : AC P f args H n v H' n' :=
 fun p φ w hB hsc => h (fun k b hk => ⟨hB.lt k (hB.sm k b hk).1, scB_mono hB.lt _ (hB.sm k b hk).2⟩) (scL_mono hB.lt _ hsc) hB.gn p φ w hB hsc
theorem AC.frame {P : Program} {f : FuncId} {args : List Value} {H H0 H1 H2 : Heap} {n n' : Nat} {v : Value} (h : AC P f args H0 n v H1 n') (hsub : ∀ k b, hget H0 k = some b → hget H k = some b)
   (h2 : ∀ k b, hget H2 k = some b → hget H1 k = some b ∨ (hget H k = some b ∧ hget H0 k = none)) : AC P f args H n v H2 n' := by
 intro p φ w hB hsc
 have hB0 : Base P p φ n (hget H0) w [] act0 := ⟨hB.rel.sub hsub, hB.lt, hB.gl, hB.gn, fun k b hk => hB.sm k b (hsub k b hk), fun t v hv => by simp [lk] at hv, fun t v hv => by simp [lk] at hv⟩
 have key : ∀ φ' w', Dn P p φ n (hget H0) w v n' (hget H1) φ' w' → Dn P p φ n (hget H) w v n' (hget H2) φ' w' := by
   intro φ' w' hd
   obtain ⟨hsm, hscv, hst⟩ := hd
   have hagr : Agr p φ φ' := fun k hk => hst.only k (.inl (hB.lt k hk))
   have hloc : ∀ k b, hget H k = some b → φ'.loc k = φ.loc k := fun k b hk => (hagr k (hB.sm k b hk).1).1
   have hkeep : ∀ k b, hget H k = some b → hget H0 k = none → w'.heap[φ.loc k]? = w.heap[φ.loc k]? := fun k b hk hn => hst.frm.keep _ (hB.rel.lt hk) fun j x hj ho => hB.rel.apart j x k b (hsub j x hj) hk (fun e => by subst e; rw [hn] at hj; cases hj) ho
   refine ⟨fun k b hk => ?_, hscv, hst.le, hst.only, ⟨fun k b hk => ?_, fun k b k' b' g1 g2 hne ho => ?_, hst.rel.glob⟩, fun k b hk ho => ?_, fun k b hk ho => ?_, ⟨hst.frm.os, hst.frm.tape, hst.frm.output, hst.frm.size, fun b hb hx => hst.frm.keep b hb fun k x hk ho => hx k x (hsub k x hk) ho⟩⟩
   · rcases h2 k b hk with h | ⟨h, _⟩
     · exact hsm k b h
     · exact ⟨.inl (hB.sm k b h).1, scB_mono (fun _ h => .inl h) _ (hB.sm k b h).2⟩
   · rcases h2 k b hk with h | ⟨h, hn⟩
     · exact hst.rel.blk k b h
     · rw [hloc k b h, hkeep k b h hn]
       exact (hB.rel.blk k b h).congr hagr (hB.sm k b h).1 (hB.sm k b h).2
   · rcases h2 k b g1 with h | ⟨h, hn⟩ <;> rcases h2 k' b' g2 with h' | ⟨h', hn'⟩
     · exact hst.rel.apart k b k' b' h h' hne ho
     · rw [hloc k' b' h']
       rcases hst.new k b h ho with g | ⟨k0, b0, e1, e2, e3⟩
       · have := hB.rel.lt h'
         omega
       · rw [← e3]
         exact hB.rel.apart k0 b0 k' b' (hsub _ _ e1) h' (fun e => by subst e; rw [hn'] at e1; cases e1) e2
     · rw [hloc k b h]
       cases hb : b'.own with
       | true =>
         rcases hst.new k' b' h' hb with g | ⟨k0, b0, e1, e2, e3⟩
         · have := hB.rel.lt h
           omega
         · rw [← e3]
           exact hB.rel.apart k b k0 b0 h (hsub _ _ e1) (fun e => by subst e; rw [hn] at e1; cases e1) ho
       | false =>
         have e1 := hst.inp k' b' h' hb
         rw [hloc k' b' (hsub _ _ e1)]
         exact hB.rel.apart k b k' b' h (hsub _ _ e1) hne ho
     · rw [hloc k b h, hloc k' b' h']
       exact hB.rel.apart k b k' b' h h' hne ho
   · rcases h2 k b hk with h | ⟨h, _⟩
     · rcases hst.new k b h ho with g | ⟨k0, b0, e1, e2, e3⟩
       · exact .inl g
       · exact .inr ⟨k0, b0, hsub _ _ e1, e2, e3⟩
     · exact .inr ⟨k, b, h, ho, (hloc k b h).symm⟩
   · rcases h2 k b hk with h | ⟨h, _⟩
     · exact hsub _ _ (hst.inp k b h ho)
     · exact h
 rcases h p φ w hB0 hsc with ⟨h1, h3⟩ | ⟨φ', w', h1, h3⟩
 · refine .inl ⟨h1, CallsIn.mono h3 fun e w' hh => ?_⟩
   obtain ⟨φ', he, hd⟩ := hh
   exact ⟨φ', he, key φ' w' hd⟩
 · exact .inr ⟨φ', w', h1, key φ' w' h3⟩
theorem AC.ren {P : Program} {f : FuncId} {args : List Value} {H H1 H2 : Heap} {n n1 n2 : Nat} {u v : Value} (ρ : Nat → Nat) (h : AC P f args H n u H1 n1) (hlow : ∀ k, k < n → ρ k = k) (hle : n ≤ n2) (hv : u = Ab.ren ρ v) (hsv : sc (· < n2) v)
   (hH : ∀ k b, hget H2 k = some b → (hget H k = some b ∧ hget H1 k = some b) ∨ (n ≤ k ∧ k < n2 ∧ n ≤ ρ k ∧ hget H1 (ρ k) = some (renB ρ b) ∧ scB (· < n2) b ∧ carried b ∧ b.own = true))
   (hinj : ∀ j b k c, n ≤ j → n ≤ k → hget H2 j = some b → hget H2 k = some c → ρ j = ρ k → j = k) : AC P f args H n v H2 n2 := by
 intro p φ w hB hsc
 have key : ∀ φ' w', Dn P p φ n (hget H) w u n1 (hget H1) φ' w' → ∃ φ2, den φ' u = den φ2 v ∧ Dn P p φ n (hget H) w v n2 (hget H2) φ2 w' := by
   intro φ' w' hd
   obtain ⟨hsm, hscu, hst⟩ := hd
   let φ2 : Vl := ⟨fun k => if n ≤ k ∧ k < n2 then φ'.loc (ρ k) else φ.loc k, fun k => if n ≤ k ∧ k < n2 then φ'.cap (ρ k) else φ.cap k⟩
   have hoth : ∀ k, ¬ (n ≤ k ∧ k < n2) → φ2.loc k = φ.loc k ∧ φ2.cap k = φ.cap k := fun k hk => by simp only [φ2]; rw [if_neg hk, if_neg hk]; exact ⟨rfl, rfl⟩
   have hmid : ∀ k, n ≤ k ∧ k < n2 → φ2.loc k = φ'.loc (ρ k) ∧ φ2.cap k = φ'.cap (ρ k) := fun k hk => by simp only [φ2]; rw [if_pos hk, if_pos hk]; exact ⟨rfl, rfl⟩
   have hrn : Rn (Nx p n n2) ρ φ' φ2 := fun k hk => by
     rcases hk with hk | hk
     · have hk0 := hB.lt k hk
       rw [(hoth k (by omega)).1, (hoth k (by omega)).2, hlow k hk0, (hst.only k (.inl hk0)).1, (hst.only k (.inl hk0)).2]
       exact ⟨rfl, rfl⟩
     · exact hmid k hk
   have hnx : ∀ k, Nx p n n1 (ρ k) ∧ k < n2 → Nx p n n2 k := fun k hk => by
     by_cases h0 : k < n
     · have := hk.1
       rw [hlow k h0] at this
       rcases this with h1 | h1
       · exact .inl h1
       · omega
     · exact .inr ⟨by omega, hk.2⟩
   have hscv : sc (Nx p n n2) v := sc_mono hnx v (sc_ren v (hv ▸ hscu) hsv)
   have hagr : Agr p φ φ2 := fun k hk => hoth k (by have := hB.lt k hk; omega)
   have hagr' : Agr p φ' φ2 := fun k hk => by
     have h1 := hagr k hk
     have h2 := hst.only k (.inl (hB.lt k hk))
     exact ⟨h1.1.trans h2.1.symm, h1.2.trans h2.2.symm⟩
   have hone : ∀ k b, hget H2 k = some b → (∃ b', hget H1 (ρ k) = some b' ∧ b'.own = b.own) ∧ φ2.loc k = φ'.loc (ρ k) := fun k b hk => by
     rcases hH k b hk with ⟨h1, h2⟩ | ⟨h1, h2, h3, h4, h5, h6, h7⟩
     · have hp := (hB.sm k b h1).1
       have hk0 := hB.lt k hp
       rw [hlow k hk0]
       exact ⟨⟨b, h2, rfl⟩, (hagr' k hp).1⟩
     · exact ⟨⟨_, h4, renB_own _ _⟩, (hmid k ⟨h1, h2⟩).1⟩
   refine ⟨φ2, by rw [hv]; exact den_ren hrn v hscv, fun k b hk => ?_, hscv, hle, fun k hk => hoth k (by omega), ⟨fun k b hk => ?_, fun k b k' b' g1 g2 hne ho => ?_, fun g hg => ?_⟩, fun k b hk ho => ?_, fun k b hk ho => ?_, hst.frm⟩
   · rcases hH k b hk with ⟨h1, h2⟩ | ⟨h1, h2, h3, h4, h5, h6, h7⟩
     · exact ⟨.inl (hB.sm k b h1).1, scB_mono (fun _ h => .inl h) _ (hB.sm k b h1).2⟩
     · exact ⟨.inr ⟨h1, h2⟩, scB_mono hnx _ (scB_ren b h6 (hsm _ _ h4).2 h5)⟩
   · rw [(hone k b hk).2]
     rcases hH k b hk with ⟨h1, h2⟩ | ⟨h1, h2, h3, h4, h5, h6, h7⟩
     · have hp := hB.sm k b h1
       rw [hlow k (hB.lt k hp.1)]
       exact (hst.rel.blk k b h2).congr hagr' hp.1 hp.2
     · exact BRel.ren hrn (.inr ⟨h1, h2⟩) h6 (scB_mono hnx _ (scB_ren b h6 (hsm _ _ h4).2 h5)) (hst.rel.blk _ _ h4)
   · obtain ⟨⟨c, c1, c2⟩, c3⟩ := hone k b g1
     obtain ⟨⟨d, d1, d2⟩, d3⟩ := hone k' b' g2
     rw [c3, d3]
     refine hst.rel.apart _ _ _ _ c1 d1 (fun e => hne ?_) (c2.trans ho)
     rcases hH k b g1 with ⟨h1, _⟩ | ⟨h1, _, h3, _⟩ <;> rcases hH k' b' g2 with ⟨h1', _⟩ | ⟨h1', _, h3', _⟩
     · have hk0 := hB.lt k (hB.sm k b h1).1
       have hk1 := hB.lt k' (hB.sm k' b' h1').1
       rwa [hlow k hk0, hlow k' hk1] at e
     · have hk0 := hB.lt k (hB.sm k b h1).1
       rw [hlow k hk0] at e
       omega
     · have hk1 := hB.lt k' (hB.sm k' b' h1').1
       rw [hlow k' hk1] at e
       omega
     · exact hinj k b k' b' h1 h1' g1 g2 e
   · rw [(hoth g (by have := hB.gn; omega)).1]; exact hB.rel.glob g hg
   · obtain ⟨⟨c, c1, c2⟩, c3⟩ := hone k b hk
     rw [c3]
     exact hst.new _ _ c1 (c2.trans ho)
   · rcases hH k b hk with ⟨h1, _⟩ | ⟨_, _, _, _, _, _, h7⟩
     · exact h1
     · rw [h7] at ho; cases ho
 rcases h p φ w hB hsc with ⟨h1, h3⟩ | ⟨φ', w', h1, h3⟩
 · refine .inl ⟨h1, CallsIn.mono h3 fun e w' hh => ?_⟩
   obtain ⟨φ', he, hd⟩ := hh
   obtain ⟨φ2, e2, hd2⟩ := key φ' w' hd
   exact ⟨φ2, by rw [he, e2], hd2⟩
 · obtain ⟨φ2, e2, hd2⟩ := key φ' w' h3
   exact .inr ⟨φ2, w', by rw [h1, e2], hd2⟩
def Fresh (n n2 : Nat) (H : Heap) (v : Value) (B : Heap) (u : Value) (H1 : Heap) : Prop :=
 ∃ ρ : Nat → Nat, (∀ k, k < n → ρ k = k) ∧ u = ren ρ v ∧ (∀ k b, hget B k = some b → n ≤ k ∧ k < n2 ∧ n ≤ ρ k ∧ hget H1 (ρ k) = some (renB ρ b) ∧ scB (· < n2) b ∧ carried b ∧ b.own = true) ∧
   (∀ j b k c, hget B j = some b → hget B k = some c → ρ j = ρ k → j = k) ∧ ∀ k b, hget H k = some b → hget H1 k = some b
theorem AC.fresh {P : Program} {f : FuncId} {fn : Func} {c : Code} {args : List Value} {H B : Heap} {n n2 : Nat} {v : Value} (hf : P.funcs[f]? = some fn) (hb : fn.body = some c) (he : enterable P f = true) (hlen : Nat.ble args.length fn.ntmps = true) (vs : List Nat) (hle : n ≤ n2) (hsv : sc (· < n2) v) (hnf : ∀ ρ, af (Ab.ren ρ v) = false)
   (h : E P n none c { fr := argsFr args 0, sz := fn.ntmps, H, n, marks := [], vs } (outK P fn (Fresh n n2 H v B))) : AC P f args H n v (B ++ H) n2 := by
 refine AC.given fun hlt _ _ => ?_
 obtain ⟨u, H1, n1, H3, hAC, ⟨ρ, h1, h2, h3, h4, h5⟩, hh⟩ := AC.out hf hb he hlen vs h
 obtain rfl := hh (by rw [h2]; exact hnf ρ)
 have happ : ∀ k b, hget (B ++ H) k = some b → hget B k = some b ∨ (hget B k = none ∧ hget H k = some b) := by
   clear h3 h4 h
   induction B with
   | nil => intro k b hk; exact .inr ⟨rfl, hk⟩
   | cons x B ih =>
     intro k b hk
     obtain ⟨j, y⟩ := x
     rw [List.cons_append, hget_cons] at hk
     rw [hget_cons]
     by_cases e : j = k
     · rw [if_pos e] at hk ⊢; exact .inl hk
     · rw [if_neg e] at hk ⊢; exact ih k b hk
 refine hAC.ren ρ h1 hle h2 hsv (fun k b hk => ?_) fun j b k c hj hk hb hc e => ?_
 · rcases happ k b hk with h | ⟨_, h⟩
   · exact .inr (h3 k b h)
   · exact .inl ⟨h, h5 k b h⟩
 · rcases happ j b hb with g | ⟨_, g⟩
   · rcases happ k c hc with g' | ⟨_, g'⟩
     · exact h4 j b k c g g' e
     · have := (hlt k c g').1
       omega
   · have := (hlt j b g).1
     omega
end Go.Ab

namespace Go.Ab
open Go
theorem Step.framed {P : Program} {p : Nat → Prop} {φ φ' : Vl} {n n' : Nat} {w w' : World} {H H0 H1 H2 : Heap} {fr : Fr} {a : Act} (hB : Base P p φ n (hget H) w fr a) (hsub : ∀ k b, hget H0 k = some b → hget H k = some b)
   (h2 : ∀ k b, hget H2 k = some b → hget H1 k = some b ∨ (hget H k = some b ∧ hget H0 k = none)) (hd : SM (Nx p n n') (hget H1) ∧ Step P φ n (hget H0) w φ' n' (hget H1) w') : SM (Nx p n n') (hget H2) ∧ Step P φ n (hget H) w φ' n' (hget H2) w' := by
 obtain ⟨hsm, hst⟩ := hd
 have hagr : Agr p φ φ' := fun k hk => hst.only k (.inl (hB.lt k hk))
 have hloc : ∀ k b, hget H k = some b → φ'.loc k = φ.loc k := fun k b hk => (hagr k (hB.sm k b hk).1).1
 have hkeep : ∀ k b, hget H k = some b → hget H0 k = none → w'.heap[φ.loc k]? = w.heap[φ.loc k]? := fun k b hk hn => hst.frm.keep _ (hB.rel.lt hk) fun j x hj ho => hB.rel.apart j x k b (hsub j x hj) hk (fun e => by subst e; rw [hn] at hj; cases hj) ho
 refine ⟨fun k b hk => ?_, hst.le, hst.only, ⟨fun k b hk => ?_, fun k b k' b' g1 g2 hne ho => ?_, hst.rel.glob⟩, fun k b hk ho => ?_, fun k b hk ho => ?_, ⟨hst.frm.os, hst.frm.tape, hst.frm.output, hst.frm.size, fun b hb hx => hst.frm.keep b hb fun k x hk ho => hx k x (hsub k x hk) ho⟩⟩
 · rcases h2 k b hk with h | ⟨h, _⟩
   · exact hsm k b h
   · exact ⟨.inl (hB.sm k b h).1, scB_mono (fun _ h => .inl h) _ (hB.sm k b h).2⟩
 · rcases h2 k b hk with h | ⟨h, hn⟩
   · exact hst.rel.blk k b h
   · rw [hloc k b h, hkeep k b h hn]
     exact (hB.rel.blk k b h).congr hagr (hB.sm k b h).1 (hB.sm k b h).2
 · rcases h2 k b g1 with h | ⟨h, hn⟩ <;> rcases h2 k' b' g2 with h' | ⟨h', hn'⟩
   · exact hst.rel.apart k b k' b' h h' hne ho
   · rw [hloc k' b' h']
     rcases hst.new k b h ho with g | ⟨k0, b0, e1, e2, e3⟩
     · have := hB.rel.lt h'
       omega
     · rw [← e3]
       exact hB.rel.apart k0 b0 k' b' (hsub _ _ e1) h' (fun e => by subst e; rw [hn'] at e1; cases e1) e2
   · rw [hloc k b h]
     cases hb : b'.own with
     | true =>
       rcases hst.new k' b' h' hb with g | ⟨k0, b0, e1, e2, e3⟩
       · have := hB.rel.lt h
         omega
       · rw [← e3]
         exact hB.rel.apart k b k0 b0 h (hsub _ _ e1) (fun e => by subst e; rw [hn] at e1; cases e1) ho
     | false =>
       have e1 := hst.inp k' b' h' hb
       rw [hloc k' b' (hsub _ _ e1)]
       exact hB.rel.apart k b k' b' h (hsub _ _ e1) hne ho
   · rw [hloc k b h, hloc k' b' h']
     exact hB.rel.apart k b k' b' h h' hne ho
 · rcases h2 k b hk with h | ⟨h, _⟩
   · rcases hst.new k b h ho with g | ⟨k0, b0, e1, e2, e3⟩
     · exact .inl g
     · exact .inr ⟨k0, b0, hsub _ _ e1, e2, e3⟩
   · exact .inr ⟨k, b, h, ho, (hloc k b h).symm⟩
 · rcases h2 k b hk with h | ⟨h, _⟩
   · exact hsub _ _ (hst.inp k b h ho)
   · exact h
theorem AT.frame {P : Program} {ro : Option Nat} {c : Code} {st st' : St} {e : Ex} {H H2 : Heap} (h : AT P ro c st e st') (hsub : ∀ k b, hget st.H k = some b → hget H k = some b)
   (h2 : ∀ k b, hget H2 k = some b → hget st'.H k = some b ∨ (hget H k = some b ∧ hget st.H k = none)) : AT P ro c { st with H := H } e { st' with H := H2 } := by
 intro p φ a w hS hl
 have hS0 : SRel P p φ st a w := ⟨⟨hS.base.rel.sub hsub, hS.base.lt, hS.base.gl, hS.base.gn, fun k b hk => hS.base.sm k b (hsub k b hk), hS.base.ar, hS.base.sf⟩, hS.size, hS.defs, hS.marks⟩
 refine wpIn_mono (h p φ a w hS0 hl) fun e2 a' w' hh => ?_
 obtain ⟨he, φ', hS', hs'⟩ := hh
 obtain ⟨hsm, hst⟩ := Step.framed hS.base hsub h2 ⟨hS'.base.sm, hs'⟩
 exact ⟨he, φ', ⟨⟨hst.rel, hS'.base.lt, hS'.base.gl, hS'.base.gn, hsm, hS'.base.ar, hS'.base.sf⟩, hS'.size, hS'.defs, hS'.marks⟩, hst⟩
theorem AT.frameR {P : Program} {ro : Option Nat} {c : Code} {st st' : St} {e : Ex} {Z : Heap} (h : AT P ro c st e st') (hz : ∀ k b, hget Z k = some b → hget st.H k = none ∨ ∃ b', hget st'.H k = some b') : AT P ro c { st with H := st.H ++ Z } e { st' with H := st'.H ++ Z } := by
 have happ : ∀ (A : Heap) k, hget (A ++ Z) k = match hget A k with
   | some b => some b
   | none => hget Z k := fun A k => by
   induction A with
   | nil => rfl
   | cons x A ih =>
     obtain ⟨j, y⟩ := x
     rw [List.cons_append, hget_cons, hget_cons]
     split
     · rfl
     · exact ih
 refine h.frame (fun k b hk => by rw [happ, hk]) fun k b hk => ?_
 rw [happ] at hk
 split at hk
 · rename_i b' hb; injection hk with hk; subst hk; exact .inl hb
 · rename_i hn
   rcases hz k b hk with h1 | ⟨b', h1⟩
   · exact .inr ⟨by rw [happ, h1]; exact hk, h1⟩
   · rw [hn] at h1; cases h1
theorem E.scope {P : Program} {n0 : Nat} {st : St} {K : Ex → St → Prop} {b : Code} (h : E P n0 none b st (scopeK K)) : E P n0 none (.scope b) st K := by
 obtain ⟨e, st', hx, k⟩ := h
 have he : ∀ l, e ≠ .goto l := fun l e1 => by subst e1; exact k
 refine ⟨e, st', fun p φ M w0 hg hp hl a w φ1 hS hs => wpIn_wide.2 (wp_scope_straight (wpIn_wide.1 (wpIn_mono (hx p φ M w0 hg hp hl a w φ1 hS hs) fun e2 a1 w1 hh => by
   have he' := hh.1
   subst he'
   cases e with
   | goto l => exact absurd rfl (he l)
   | _ => exact hh))), ?_⟩
 cases e with
 | goto l => exact absurd rfl (he l)
 | _ => exact k
theorem Leads.renM {P : Program} {n0 : Nat} {s s2 : St} (ρ : Nat → Nat) (hlow : ∀ k, k < n0 → ρ k = k) (hle : n0 ≤ s2.n) (hz : s2.sz = s.sz) (hm : s.marks = [] ∧ s2.marks = [])
   (hf : ∀ t v, lk s2.fr t = some v → (lk s.fr t = some v ∧ sc (· < n0) v) ∨ (lk s.fr t = some (Ab.ren ρ v) ∧ sc (· < s2.n) v))
   (hH : ∀ k b, hget s2.H k = some b → (k < n0 ∧ scB (· < n0) b ∧ hget s.H k = some b) ∨ (k < s2.n ∧ (n0 ≤ k → n0 ≤ ρ k) ∧ hget s.H (ρ k) = some (renB ρ b) ∧ scB (· < s2.n) b ∧ carried b ∧ (b.own = false → ρ k = k ∧ renB ρ b = b)))
   (hinj : ∀ j b k c, hget s2.H j = some b → hget s2.H k = some c → ρ j = ρ k → j = k) : Leads P n0 s s2 := by
 intro p φ M w0 hg hp a w φ1 hS hs
 let φ2 : Vl := ⟨fun k => if n0 ≤ k ∧ k < s2.n then φ1.loc (ρ k) else φ.loc k, fun k => if n0 ≤ k ∧ k < s2.n then φ1.cap (ρ k) else φ.cap k⟩
 have hl2 : ∀ k, k < n0 → φ2.loc k = φ.loc k ∧ φ2.cap k = φ.cap k := fun k hk => by simp only [φ2]; rw [if_neg (by omega), if_neg (by omega)]; exact ⟨rfl, rfl⟩
 have hmid : ∀ k, n0 ≤ k → k < s2.n → φ2.loc k = φ1.loc (ρ k) ∧ φ2.cap k = φ1.cap (ρ k) := fun k h1 h2 => by simp only [φ2]; rw [if_pos ⟨h1, h2⟩, if_pos ⟨h1, h2⟩]; exact ⟨rfl, rfl⟩
 have hrn : Rn (Nx p n0 s2.n) ρ φ1 φ2 := fun k hk => by
   rcases hk with hk | hk
   · have hk0 := hp k hk
     rw [(hl2 k hk0).1, (hl2 k hk0).2, hlow k hk0, (hs.only k (.inl hk0)).1, (hs.only k (.inl hk0)).2]
     exact ⟨rfl, rfl⟩
   · exact hmid k hk.1 hk.2
 have hnx : ∀ k, Nx p n0 s.n (ρ k) ∧ k < s2.n → Nx p n0 s2.n k := fun k hk => by
   by_cases h0 : k < n0
   · have := hk.1
     rw [hlow k h0] at this
     rcases this with h1 | h1
     · exact .inl h1
     · omega
   · exact .inr ⟨by omega, hk.2⟩
 have hpl : ∀ k, Nx p n0 s.n k ∧ k < n0 → p k := fun k hk => by
   rcases hk.1 with h1 | h1
   · exact h1
   · omega
 have hagr : Agr p φ1 φ2 := fun k hk => by
   have hk0 := hp k hk
   rw [(hl2 k hk0).1, (hl2 k hk0).2, (hs.only k (.inl hk0)).1, (hs.only k (.inl hk0)).2]
   exact ⟨rfl, rfl⟩
 have hone : ∀ k b, hget s2.H k = some b → Nx p n0 s2.n k ∧ scB (Nx p n0 s2.n) b ∧ (∃ b', hget s.H (ρ k) = some b' ∧ b'.own = b.own) ∧ φ2.loc k = φ1.loc (ρ k) ∧ BRel P φ2 k b w.heap[φ1.loc (ρ k)]? := fun k b hk => by
   rcases hH k b hk with ⟨h1, h2, h3⟩ | ⟨h1, h2, h3, h4, h5, h6⟩
   · have h4 := hS.base.sm k b h3
     have hpk := hpl k ⟨h4.1, h1⟩
     have hsb := scB_mono hpl _ (scB_and b h4.2 h2)
     have e : ρ k = k := hlow k h1
     rw [e]
     exact ⟨.inl hpk, scB_mono (fun _ h => .inl h) _ hsb, ⟨b, h3, rfl⟩, (hagr k hpk).1, (hS.base.rel.blk k b h3).congr hagr hpk hsb⟩
   · have hn' : Nx p n0 s2.n k := hnx k ⟨(hS.base.sm _ _ h3).1, h1⟩
     have hsc := scB_mono hnx _ (scB_ren b h5 (hS.base.sm _ _ h3).2 h4)
     exact ⟨hn', hsc, ⟨_, h3, renB_own _ _⟩, (hrn k hn').1, BRel.ren hrn hn' h5 hsc (hS.base.rel.blk _ _ h3)⟩
 have hlt : ∀ k, Nx p n0 s2.n k → k < s2.n := fun k hk => Nx.lt hp hle hk
 have hrinj := hinj
 have hrel : HRel P φ2 (hget s2.H) w := by
   refine ⟨fun k b hk => ?_, fun k b k' b' h1 h2 hne ho => ?_, fun g hg' => ?_⟩
   · obtain ⟨_, _, _, h4, h5⟩ := hone k b hk
     rw [h4]; exact h5
   · obtain ⟨_, _, ⟨c, c1, c2⟩, c3, _⟩ := hone k b h1
     obtain ⟨_, _, ⟨d, d1, _⟩, d3, _⟩ := hone k' b' h2
     rw [c3, d3]
     exact hS.base.rel.apart _ _ _ _ c1 d1 (fun e => hne (hrinj k b k' b' h1 h2 e)) (c2.trans ho)
   · have := hp g (hg g hg')
     rw [(hl2 g this).1, ← (hs.only g (.inl this)).1]
     exact hS.base.rel.glob g hg'
 have hfr : ∀ t v, lk s2.fr t = some v → ∃ u, lk s.fr t = some u ∧ den φ1 u = den φ2 v ∧ sc (Nx p n0 s2.n) v := fun t v hv => by
   rcases hf t v hv with ⟨h1, h2⟩ | ⟨h1, h2⟩
   · have hsf := hS.base.sf t _ h1
     have hsp : sc p v := sc_mono hpl v (sc_and v hsf h2)
     exact ⟨v, h1, (den_congr hagr v hsp).symm, sc_mono (fun _ h => .inl h) v hsp⟩
   · have hsf := hS.base.sf t _ h1
     have hsv : sc (Nx p n0 s2.n) v := sc_mono hnx v (sc_ren v hsf h2)
     exact ⟨_, h1, den_ren hrn v hsv, hsv⟩
 refine ⟨φ2, ⟨⟨hrel, hlt, fun g hg' => .inl (hg g hg'), ?_, fun k b hk => ⟨(hone k b hk).1, (hone k b hk).2.1⟩, fun t v hv => ?_, fun t v hv => ?_⟩, ?_, ?_, ?_⟩, hle, fun k hk => ?_, hrel, fun k b hk ho => ?_, fun k b hk ho => ?_, hs.frm⟩
 · refine Nat.le_of_not_lt fun hc => ?_
   have := hp _ (hg _ hc)
   omega
 · obtain ⟨u, h1, h2, _⟩ := hfr t v hv
   rw [hS.base.ar t _ h1, h2]
 · exact (hfr t v hv).choose_spec.2.2
 · rw [hz]; exact hS.size
 · rw [hm.2, hS.defs, hm.1]; rfl
 · rw [hm.2]; simp
 · rcases hk with hk | hk
   · exact hl2 k hk
   · simp only [φ2]; rw [if_neg (by omega), if_neg (by omega)]; exact ⟨rfl, rfl⟩
 · obtain ⟨_, _, ⟨c, c1, c2⟩, c3, _⟩ := hone k b hk
   rw [c3]
   exact hs.new _ _ c1 (c2.trans ho)
 · rcases hH k b hk with ⟨_, _, h3⟩ | ⟨_, _, h3, _, _, h6⟩
   · exact hs.inp k b h3 ho
   · obtain ⟨e1, e2⟩ := h6 ho
     rw [e1, e2] at h3
     exact hs.inp k b h3 ho
end Go.Ab

namespace Go.Ab
open Go
end Go.Ab
