/-
Contracts and plain reckonings behind the law VelocityGathers, part 7 of 8 (each under the conditions in its statement).
-/
import Derived.Deep.Slices
import Derived.Test.YtkongcnmkiihjaaGreatDoorAf
import Derived.Test.YtkongcnmkiihjaaGreatDoorRf
import Derived.Test.YtkongcnmkiihjaaGreatDoorRc
import Derived.Test.YtkongcnmkiihjaaGreatDoorRe
import Derived.Test.YtkongcnmkiihjaaGreatDoorRa
import Derived.Test.YtkongcnmkiihjaaGreatDoorRd
namespace Go.Ab
open Go
section
variable {P : Program}
theorem runS_bind {α β : Type} (a : Sem α) (g : α → Sem β) : runP P (a >>= g) = (runP P a).bind fun x => runP P (g x) := by
 show runP P (Sem.bind a g) = _
 induction a with
 | program k ih => exact ih P
 | mark m k ih => exact ih
 | _ => rfl
theorem runS_pure {α : Type} (a : α) : runP P (pure a : Sem α) = some a := rfl
theorem runS_program : runP P program = some P := rfl
theorem runS_und {t : TypeId} {d : TypeDesc} (h : P.underlying t = some d) : runP P (underlying t) = some d := by
 show runP P (match P.underlying t with | some d => _ | none => _) = _
 rw [h]
 rfl
theorem runS_ite {α : Type} {c : Prop} [Decidable c] (a b : Sem α) : runP P (if c then a else b) = if c then runP P a else runP P b := by
 split <;> rfl
theorem runS_eq (d : Nat) {t : TypeId} {fs : Array Field} (xs ys : Array Value) (e : Field → Bool) (ht : P.underlying t = some (.struct fs)) (hp : P.stoodInHeld t = false)
   (h : ∀ f ∈ fs.toList, f.name ≠ "_" ∧ ∃ a b, runP P (part f.type xs f.offset) = some a ∧ runP P (part f.type ys f.offset) = some b ∧ runP P (Op.equalIn d f.type a b) = some (e f)) : runP P (Op.equalIn (d + 1) t (.agg xs) (.agg ys)) = some (fs.toList.all e) := by
 simp only [Op.equalIn, runS_bind, runS_und ht, Option.bind_some, runS_program, hp, Bool.false_eq_true, if_false]
 rw [← Array.forIn_toList]
 generalize fs.toList = fl at h
 induction fl with
 | nil => rfl
 | cons f fl ih =>
   obtain ⟨hn, a, b, h1, h2, h3⟩ := h f (List.mem_cons_self ..)
   have ih := ih fun f hf => h f (List.mem_cons_of_mem _ hf)
   simp only [List.forIn_cons, runS_bind, runS_ite]
   rw [if_pos hn]
   cases he : e f with
   | true =>
     simp only [h1, h2, h3, he, Option.bind_some, Bool.not_true, Bool.false_eq_true, if_false, runS_pure, List.all_cons, Bool.true_and]
     exact ih
   | false =>
     simp only [h1, h2, h3, he, Option.bind_some, Bool.not_false, if_true, runS_pure, List.all_cons, Bool.false_and]
theorem runS_int (d : Nat) {t : TypeId} {k k' : IntKind} (n m : Int) (h : P.underlying t = some (.int k')) : runP P (Op.equalIn (d + 1) t (.int k n) (.int k m)) = some (n == m) := by
 simp only [Op.equalIn, runS_bind, runS_und h, Option.bind_some, if_true, runS_pure]
end
end Go.Ab

namespace Go.Ab
open Go
section
variable {P : Program}
theorem runA_eq (d : Nat) {t e : TypeId} {N n : Nat} (xs ys : Array Value) (q : Nat → Bool) (ht : P.underlying t = some (.array N e)) (hn : runP P (sizeOf e) = some n)
   (h : ∀ i, i < N → ∃ a b, runP P (part e xs (i * n)) = some a ∧ runP P (part e ys (i * n)) = some b ∧ runP P (Op.equalIn d e a b) = some (q i)) : runP P (Op.equalIn (d + 1) t (.agg xs) (.agg ys)) = some ((List.range' 0 N 1).all q) := by
 simp only [Op.equalIn, runS_bind, runS_und ht, Option.bind_some, hn]
 simp only [Std.Legacy.Range.forIn_eq_forIn_range', Std.Legacy.Range.size, Nat.sub_zero, Nat.add_one_sub_one, Nat.div_one]
 have hm : ∀ i ∈ List.range' 0 N 1, i < N := fun i hi => by
   rw [List.mem_range'_1] at hi
   omega
 generalize List.range' 0 N 1 = fl at hm
 induction fl with
 | nil => rfl
 | cons i fl ih =>
   obtain ⟨a, b, h1, h2, h3⟩ := h i (hm i (List.mem_cons_self ..))
   have ih := ih fun j hj => hm j (List.mem_cons_of_mem _ hj)
   simp only [List.forIn_cons, runS_bind]
   cases he : q i with
   | true =>
     simp only [h1, h2, h3, he, Option.bind_some, Bool.not_true, Bool.false_eq_true, if_false, runS_pure, List.all_cons, Bool.true_and]
     exact ih
   | false =>
     simp only [h1, h2, h3, he, Option.bind_some, Bool.not_false, if_true, runS_pure, List.all_cons, Bool.false_and]
end
end Go.Ab

namespace Go.Proofs.YtkongcnmkiihjaaGreatDoor
open Go Go.Ab Go.Proofs
theorem eq142v (a b c d e f g h : Int) : runP Tryz.prog (Op.equalIn 10000 142 (.agg ⟨[iv a, iv b, iv c, iv d, iv e, iv f, iv g, iv h]⟩) (.agg ⟨[iv a, iv b, iv c, iv d, iv e, iv f, iv g, iv h]⟩)) = some true := by
 have := runA_eq (P := Tryz.prog) 9999 (t := 142) (e := 3) (N := 8) (n := 1) ⟨[iv a, iv b, iv c, iv d, iv e, iv f, iv g, iv h]⟩ ⟨[iv a, iv b, iv c, iv d, iv e, iv f, iv g, iv h]⟩ (fun _ => true) Tryz.underlying142 (by kernel_rfl) fun i hi => ?_
 · exact this
 · have hs : ∀ x : Int, runP Tryz.prog (Op.equalIn 9999 3 (iv x) (iv x)) = some true := fun x => by
     rw [runS_int _ _ _ Tryz.underlying3]
     simp
   rcases (show i = 0 ∨ i = 1 ∨ i = 2 ∨ i = 3 ∨ i = 4 ∨ i = 5 ∨ i = 6 ∨ i = 7 by omega) with rfl | rfl | rfl | rfl | rfl | rfl | rfl | rfl
   · exact ⟨iv a, iv a, by kernel_rfl, by kernel_rfl, hs _⟩
   · exact ⟨iv b, iv b, by kernel_rfl, by kernel_rfl, hs _⟩
   · exact ⟨iv c, iv c, by kernel_rfl, by kernel_rfl, hs _⟩
   · exact ⟨iv d, iv d, by kernel_rfl, by kernel_rfl, hs _⟩
   · exact ⟨iv e, iv e, by kernel_rfl, by kernel_rfl, hs _⟩
   · exact ⟨iv f, iv f, by kernel_rfl, by kernel_rfl, hs _⟩
   · exact ⟨iv g, iv g, by kernel_rfl, by kernel_rfl, hs _⟩
   · exact ⟨iv h, iv h, by kernel_rfl, by kernel_rfl, hs _⟩
theorem eq142 {x y : Operand} {H : Heap} {n : Nat} (a b c d e f g p : Int) : binV Tryz.prog .eql 142 x y (.agg ⟨[iv a, iv b, iv c, iv d, iv e, iv f, iv g, iv p]⟩) (.agg ⟨[iv a, iv b, iv c, iv d, iv e, iv f, iv g, iv p]⟩) H n = some (.bool true, H, n) := by
 have h : runP Tryz.prog (do eqGuard .eql 142 x y (.agg ⟨[iv a, iv b, iv c, iv d, iv e, iv f, iv g, iv p]⟩) (.agg ⟨[iv a, iv b, iv c, iv d, iv e, iv f, iv g, iv p]⟩); binOp .eql 142 (.agg ⟨[iv a, iv b, iv c, iv d, iv e, iv f, iv g, iv p]⟩) (.agg ⟨[iv a, iv b, iv c, iv d, iv e, iv f, iv g, iv p]⟩)) = some (.bool true) := by
   rw [runS_bind]
   have h1 : runP Tryz.prog (eqGuard .eql 142 x y (.agg ⟨[iv a, iv b, iv c, iv d, iv e, iv f, iv g, iv p]⟩) (.agg ⟨[iv a, iv b, iv c, iv d, iv e, iv f, iv g, iv p]⟩)) = some () := by kernel_rfl
   rw [h1, Option.bind_some]
   show runP Tryz.prog (Op.equalIn 10000 142 (.agg ⟨[iv a, iv b, iv c, iv d, iv e, iv f, iv g, iv p]⟩) (.agg ⟨[iv a, iv b, iv c, iv d, iv e, iv f, iv g, iv p]⟩) >>= fun b => pure (Value.bool b)) = _
   rw [runS_bind, eq142v]
   rfl
 have ha : afq (.agg ⟨[iv a, iv b, iv c, iv d, iv e, iv f, iv g, iv p]⟩) = true := rfl
 unfold binV
 rw [ha]
 simp only [Bool.and_self, if_true]
 rw [h]
 rfl
theorem eqBb {x y : Operand} {H : Heap} {n : Nat} (b : Bool) : binV Tryz.prog .eql 4 x y (.bool b) (.bool b) H n = some (.bool true, H, n) := by
 cases b <;> kernel_rfl
def sameT (x y : Trc) : Prop := x.hd = y.hd ∧ x.hole = y.hole ∧ Gn.sameF x.smp y.smp = true
instance (x y : Trc) : Decidable (sameT x y) := by unfold sameT; infer_instance
set_option maxHeartbeats 1600000 in
set_option maxRecDepth 50000 in
theorem w142 {H : Heap} {n : Nat} {cs ds : List Value} {x y : Trc} (hx : decT H cs = some x) (hy : decT H ds = some y) (hs : sameT x y) : AC Tryz.prog 142 [.agg ⟨cs⟩, .agg ⟨ds⟩] H n (.bool true) H n := by
 refine AC.given fun hold hsc hgn => AC.tidied (B := []) (by simp) ?_
 replace hx := decT_tidy _ _ _ _ (fun k b h => (hold k b h).1) hx
 replace hy := decT_tidy _ _ _ _ (fun k b h => (hold k b h).1) hy
 have hr := recT_ok (P := Tryz.prog) (l := [(78, Gn.g78F)]) (by simp only [List.forall_mem_cons]; exact ⟨Gn.ok78F, by simp⟩)
 obtain ⟨q, rfl, h8, hq⟩ := decT_form hx
 obtain ⟨r, rfl, h8y, hr2⟩ := decT_form hy
 obtain ⟨s1, s2, s3⟩ := hs
 rw [← s1, ← s2]
 obtain ⟨a0, a1, a2, a3, a4, a5, a6, a7, hhd⟩ := len8 h8
 obtain ⟨X, hX⟩ : ∃ X, (n + 1, Blk.cells (x.hd.map iv ++ [.bool x.hole, r]) 144) :: (n, Blk.cells (x.hd.map iv ++ [.bool x.hole, q]) 144) :: tidy n H = X := ⟨_, rfl⟩
 have hS : Sub (tidy n H) X := by rw [← hX]; exact (Sub.cons (by simp) (Sub.refl _)).trans (Sub.cons (by rw [hget_cons, if_neg (by omega)]; simp) (Sub.refl _))
 rw [hhd] at hX ⊢
 obtain ⟨ho, hho⟩ : ∃ ho, x.hole = ho := ⟨_, rfl⟩
 rw [hho] at hX ⊢
 simp only [List.map_cons, List.map_nil, List.cons_append, List.nil_append] at hX ⊢
 have hb0 : hget X n = some (.cells [iv a0, iv a1, iv a2, iv a3, iv a4, iv a5, iv a6, iv a7, .bool ho, q] 144) := by rw [← hX, hget_cons, if_neg (by omega), hget_cons, if_pos rfl]
 have hb1 : hget X (n + 1) = some (.cells [iv a0, iv a1, iv a2, iv a3, iv a4, iv a5, iv a6, iv a7, .bool ho, r] 144) := by rw [← hX, hget_cons, if_pos rfl]
 have l0 : loadA Tryz.prog 142 X (.pointer (some ⟨n, 0, none⟩)) = some (.agg ⟨[iv a0, iv a1, iv a2, iv a3, iv a4, iv a5, iv a6, iv a7]⟩) := load142 (by rw [cellsA_eq, hb0]; rfl)
 have l1 : loadA Tryz.prog 142 X (.pointer (some ⟨n + 1, 0, none⟩)) = some (.agg ⟨[iv a0, iv a1, iv a2, iv a3, iv a4, iv a5, iv a6, iv a7]⟩) := load142 (by rw [cellsA_eq, hb1]; rfl)
 have c0 : cellA X n 8 = some (.bool ho) := by rw [cellA_eq, hb0]; rfl
 have c1 : cellA X (n + 1) 8 = some (.bool ho) := by rw [cellA_eq, hb1]; rfl
 have d0 : cellA X n 9 = some q := by rw [cellA_eq, hb0]; rfl
 have d1 : cellA X (n + 1) 9 = some r := by rw [cellA_eq, hb1]; rfl
 have m0 : loadA Tryz.prog 4 X (.pointer (some ⟨n, 8, none⟩)) = some (.bool ho) := by simp [-cellA, c0]
 have m1 : loadA Tryz.prog 4 X (.pointer (some ⟨n + 1, 8, none⟩)) = some (.bool ho) := by simp [-cellA, c1]
 have k0 : loadA Tryz.prog 126 X (.pointer (some ⟨n, 9, none⟩)) = some q := by simp [-cellA, d0]
 have k1 : loadA Tryz.prog 126 X (.pointer (some ⟨n + 1, 9, none⟩)) = some r := by simp [-cellA, d1]
 have hg : ∀ m, Gn.g78F [q, r] X m = some (.bool true, X, m) := fun m => by
   have e1 := listV_mono decR_mono hS hq
   have e2 := listV_mono decR_mono hS hr2
   simp only [Gn.g78F, flt_same, show reaV X q = some x.smp from e1, show reaV X r = some y.smp from e2, s3]
 refine AC.pure Tryz.func142 rfl (by kernel_rfl) rfl [2, 3, 4] rfl ?_
 refine E.seq ?_
 refine E.reg hr (by simp; rfl) ?_
 rw [hX]
 refine E.seq ?_
 refine E.reg hr (by simp [-loadA, l0, l1, m0, m1, k0, k1, eq142, eqBb, hg]; rfl) ?_
 refine E.ret ?_
 exact pureK.ret rfl rfl (by simp) hS
def g142 (args : List Value) (H : Heap) (n : Nat) : R := match args with
 | [.agg a, .agg b] => match decT H a.toList, decT H b.toList with
   | some x, some y => if sameT x y then some (.bool true, H, n) else none
   | _, _ => none
 | _ => none
theorem ok142 : EntOk Tryz.prog (142, g142) := by
 intro args H n v H' n' h
 simp only [g142] at h
 split at h
 · rename_i a b
   split at h
   · rename_i x y hx hy
     split at h
     · rename_i hs
       injection h with h; injection h with e1 e2; injection e2 with e2 e3; subst e1 e2 e3
       exact w142 (cs := a.toList) (ds := b.toList) hx hy hs
     · cases h
   · cases h
 · cases h
def sameG (ts us : List Trc) : Prop := ts.length = us.length ∧ ∀ (i : Nat) x y, ts[i]? = some x → us[i]? = some y → sameT x y
set_option maxHeartbeats 3200000 in
set_option maxRecDepth 50000 in
theorem w70 {H : Heap} {n : Nat} {v v2 : Value} {s : ByteArray} {ts us : List Trc} (hv : shtV H v = some (s, ts)) (hv2 : shtV H v2 = some (s, us)) (hs : sameG ts us) : AC Tryz.prog 70 [v, v2] H n (.bool true) H n := by
 refine AC.given fun hold hsc hgn => AC.tidied (B := []) (by simp) ?_
 replace hv := shtV_tidy (n := n) (fun k b h => (hold k b h).1) hv
 replace hv2 := shtV_tidy (n := n) (fun k b h => (hold k b h).1) hv2
 have hr := recT_ok (P := Tryz.prog) (l := [(142, g142)]) (by simp only [List.forall_mem_cons]; exact ⟨ok142, by simp⟩)
 have hr0 := recT_ok (P := Tryz.prog) (l := []) (by simp)
 obtain ⟨u, rfl, ht⟩ := shtV_form hv
 obtain ⟨oa, c, rfl, hlt, _, hrow⟩ := trcV_form ht
 obtain ⟨u2, rfl, ht2⟩ := shtV_form hv2
 obtain ⟨oa2, c2, rfl, _, _, hrow2⟩ := trcV_form ht2
 obtain ⟨hsl, hsx⟩ := hs
 rw [← hsl]
 obtain ⟨X, hX⟩ : ∃ X, (n + 1, Blk.cells [.string s, .slice oa2 ts.length c2] 103) :: (n, Blk.cells [.string s, .slice oa ts.length c] 103) :: tidy n H = X := ⟨_, rfl⟩
 have hS : Sub (tidy n H) X := by rw [← hX]; exact (Sub.cons (by simp) (Sub.refl _)).trans (Sub.cons (by rw [hget_cons, if_neg (by omega)]; simp) (Sub.refl _))
 have hnm : namesOk (n + 2) X = true := by rw [← hX]; exact namesOk_put (by omega) (namesOk_put (by omega) (by simp))
 have hnm' : namesOk (n + 1 + 1) X = true := hnm
 have hb0 : hget X n = some (.cells [.string s, .slice oa ts.length c] 103) := by rw [← hX, hget_cons, if_neg (by omega), hget_cons, if_pos rfl]
 have hb1 : hget X (n + 1) = some (.cells [.string s, .slice oa2 ts.length c2] 103) := by rw [← hX, hget_cons, if_pos rfl]
 have c00 : cellA X n 0 = some (.string s) := by rw [cellA_eq, hb0]; rfl
 have c10 : cellA X (n + 1) 0 = some (.string s) := by rw [cellA_eq, hb1]; rfl
 have c01 : cellA X n 1 = some (.slice oa ts.length c) := by rw [cellA_eq, hb0]; rfl
 have c11 : cellA X (n + 1) 1 = some (.slice oa2 ts.length c2) := by rw [cellA_eq, hb1]; rfl
 refine AC.pure Tryz.func70 rfl (by kernel_rfl) rfl [2, 3, 4, 5] rfl ?_
 refine E.seq ?_
 refine E.reg hr0 (by simp; rfl) ?_
 rw [hX]
 refine E.seq ?_
 refine E.seq ?_
 refine E.reg hr0 (by simp [-cellA, c00, c01, c10, c11]; rfl) ?_
 refine E.cond (t := false) (by simp) (fun h => by cases h) (fun _ => ?_)
 refine E.skip ?_
 refine E.seq ?_
 refine E.seq ?_
 refine E.reg hr0 (by simp; rfl) ?_
 refine E.block ?_
 refine E.loop ?_
 refine EL.ind (fun i : Nat => { fr := [(2, ptA n), (3, ptA (n + 1)), (5, iv i)], sz := 39, H := X, n := n + 2, marks := [], vs := [2, 3, 4, 5] }) (fun i => ts.length - i) (fun i => i ≤ ts.length) 0 (.keep rfl rfl rfl (by simp) (Sub.refl _)) (Nat.zero_le _) (fun _ => rfl) ?_
 intro i hi
 have hw : IntKind.i64.wrap ((i : Int) + 1) = (i : Int) + 1 := W_in (by omega) (by omega)
 refine E.seq ?_
 refine E.seq ?_
 refine E.reg hr0 (by simp [-cellA, c01]; rfl) ?_
 by_cases hil : i < ts.length
 · refine E.cond (t := true) (by simp [hil]) (fun _ => ?_) (fun h => by cases h)
   obtain ⟨a, q, rfl, hf, hcs, h8, hq⟩ := hrow i hil
   obtain ⟨b, r, rfl, hf2, hcs2, h82, hq2⟩ := hrow2 i (by omega)
   have hst := hsx i _ _ (List.getElem?_eq_getElem hil) (List.getElem?_eq_getElem (by omega))
   have e1 := decT_mk h8 (listV_mono decR_mono hS hq)
   have e2 := decT_mk h82 (listV_mono decR_mono hS hq2)
   replace hcs := hS.cells hcs
   replace hcs2 := hS.cells hcs2
   have la := lt_cells hnm hcs
   have lb := lt_cells hnm hcs2
   have hg : ∀ m, g142 [.agg ⟨ts[i].hd.map iv ++ [.bool ts[i].hole, q]⟩, .agg ⟨us[i].hd.map iv ++ [.bool us[i].hole, r]⟩] X m = some (.bool true, X, m) := fun m => by
     simp only [g142, e1, e2, hst, if_true]
   refine E.skip ?_
   refine E.seq ?_
   refine E.block ?_
   refine E.seq ?_
   refine E.drawU mixed hr [10] [10] [1, 4, 6, 9, 10] (by kernel_rfl) (by simp [-cellA, -cellsA, -flat, -readA, cellA_read, cellsA_read, hnm, c01, c11, hil, hf, hf2, la, lb, hcs, hcs2, hg]; rfl) ?_
   refine E.cond (t := false) (by simp) (fun h => by cases h) (fun _ => ?_)
   refine E.skip ?_
   refine E.reg hr0 (by simp [hw]; rfl) ?_
   exact ⟨i + 1, .keep rfl rfl rfl (by simp) (Sub.refl _), hil, by dsimp only; omega⟩
 · refine E.cond (t := false) (by simp [hil]) (fun h => by cases h) (fun _ => ?_)
   refine E.exit ?_
   refine E.seq ?_
   refine E.reg hr0 (by simp; rfl) ?_
   refine E.ret ?_
   exact pureK.ret rfl rfl (by simp) hS
end Go.Proofs.YtkongcnmkiihjaaGreatDoor

namespace Go.Proofs.YtkongcnmkiihjaaGreatDoor
open Go Go.Ab Go.Proofs
theorem made_back {P : Program} {f : FuncId} {fn : Func} {c : Code} {args : List Value} {H : Heap} {n t : Nat} {s : ByteArray} {ts : List Trc} {qs : List Value} (hf : P.funcs[f]? = some fn) (hb : fn.body = some c) (he : enterable P f = true) (hlen : Nat.ble args.length fn.ntmps = true) (vs : List Nat) (hlt : ∀ k b, hget H k = some b → k < n) (hl : ts.length < 2147483648) (hql : ts.length = qs.length) (h8 : ∀ x ∈ ts, x.hd.length = 8) (hq : ∀ (i : Nat) r x, qs[i]? = some r → ts[i]? = some x → reaV (tidy n H) r = some x.smp)
   (h : E P n none c { fr := argsFr args 0, sz := fn.ntmps, H := tidy n H, n, marks := [], vs } (Ab.outM P fn fun v Z N => ∃ o, v = .agg ⟨[.string s, outS o ts.length]⟩ ∧ Ab.Sub (tidy n H) Z ∧ namesOk N Z = true ∧ n ≤ N ∧ (ts ≠ [] → hget Z o = some (.ext (tcs ts qs) t 10) ∧ n ≤ o))) : ∃ u H' n', AC P f args H n u H' n' ∧ MadeS H n H' n' u (s, ts) := by
 obtain ⟨v, H1, n1, Z, hAC, ⟨o, rfl, hs, hnm, hN, ho⟩, h1, h2⟩ := AC.outM hf hb he hlen vs h
 have hTlt : ∀ k b, hget (tidy n H) k = some b → k < n := fun k b hk => tidy_lt _ _ hk
 by_cases h0 : ts = []
 · subst h0
   have ha : af (.agg ⟨[.string s, outS o 0]⟩) = true := rfl
   have h3 : AC P f args (tidy n H) n (.agg ⟨[.string s, outS o 0]⟩) (tidy n H) n := hAC.tidy ha fun k b hk => h2 k b hTlt hk (hs k b hk)
   exact ⟨_, H, n, AC.tidied (B := []) (by simp) h3, ⟨[], rfl, by simp, rfl⟩, Nat.le_refl _, rfl⟩
 · have hn0 : ts.length ≠ 0 := fun e => h0 (List.length_eq_zero_iff.1 e)
   have ha : af (.agg ⟨[.string s, outS o ts.length]⟩) = false := by
     show af (.agg ⟨[.string s, outS o ts.length]⟩) = false
     rw [outS_ne hn0]
     rfl
   obtain rfl := h1 ha
   have h3 := AC.canon hlt hAC hs
   obtain ⟨ho1, ho2⟩ := ho h0
   have hS : Sub (tidy n H) (news n H1 ++ H) := fun k b hk => by
     rw [hget_app]
     cases hc : hget (news n H1) k with
     | none => exact (hget_tidy.1 hk).1
     | some c =>
       have := (news_mem (hget_mem _ _ _ hc)).1
       have := (hget_tidy.1 hk).2.1
       dsimp only at *
       omega
   refine ⟨_, _, _, h3, ⟨news n H1, rfl, fun b hb => ?_, plainH_mem fun x hx => (news_mem hx).2.1⟩, hN, shtV_mk ?_⟩
   · obtain ⟨g1, _, g3⟩ := news_mem hb
     exact ⟨g1, namesOk_iff.1 hnm _ (hget_mem _ _ _ g3)⟩
   · have hg : hget (news n H1 ++ H) o = some (.ext (tcs ts qs) t 10) := by rw [hget_app, news_get ho1 ho2 rfl]
     have hlen := tcs_len hql h8
     rw [outS_ne hn0]
     refine listV_mkN rfl (cs := tcs ts qs) ?_ (fun i hi => ?_) hl
     · rw [cellsA_eq, hg]
       simp only [Option.bind_some, cellsB]
       rw [if_pos (by omega), List.drop_zero, List.take_of_length_le (by omega)]
     · have hir : i < qs.length := by omega
       rw [tcs_at i (List.getElem?_eq_getElem hi) (List.getElem?_eq_getElem hir) h8]
       exact decT_mk (h8 _ (List.getElem_mem hi)) (listV_mono decR_mono hS (hq i _ _ (List.getElem?_eq_getElem hir) (List.getElem?_eq_getElem hi)))
theorem build144 {fr : Fr} {H : Heap} {n : Nat} {x y z : Operand} {a0 a1 a2 a3 a4 a5 a6 a7 : Int} {b : Bool} {o : Option Addr} {l c : Nat} (hx : evO Tryz.prog fr x = some (.agg ⟨[iv a0, iv a1, iv a2, iv a3, iv a4, iv a5, iv a6, iv a7]⟩)) (hy : evO Tryz.prog fr y = some (.bool b)) (hz : evO Tryz.prog fr z = some (.slice o l c)) : opBuild Tryz.prog 144 #[(0, x), (1, y), (2, z)] fr H n = some (.agg ⟨[iv a0, iv a1, iv a2, iv a3, iv a4, iv a5, iv a6, iv a7, .bool b, .slice o l c]⟩, H, n) := by
 unfold opBuild
 simp only [evPs_cons, evPs_nil, hx, hy, hz]
 kernel_rfl
abbrev fs71 (n o i : Nat) (s : ByteArray) : List (Nat × Blk) := [(n + 2, .cells [.string s, outS o i] 103)]
set_option maxHeartbeats 6400000 in
set_option maxRecDepth 100000 in
theorem w71 {H : Heap} {n : Nat} {v : Value} {s : ByteArray} {ts : List Trc} (hv : shtV H v = some (s, ts)) (hlt : ∀ k b, hget H k = some b → k < n) : ∃ u H' n', AC Tryz.prog 71 [v] H n u H' n' ∧ MadeS H n H' n' u (s, ts) := by
 replace hv := shtV_tidy (n := n) hlt hv
 have hr0 := recT_ok (P := Tryz.prog) (l := []) (by simp)
 obtain ⟨u, rfl, ht⟩ := shtV_form hv
 obtain ⟨oa, c, rfl, hl31, _, hrow⟩ := trcV_form ht
 have hT : ∀ j, n ≤ j → hget (tidy n H) j = none := fun j hj => by
   cases hc : hget (tidy n H) j with
   | none => rfl
   | some b => exact absurd (tidy_lt _ _ hc) (by omega)
 obtain ⟨qs, hql, h8, hqr, hqc⟩ : ∃ qs : List Value, ts.length = qs.length ∧ (∀ x ∈ ts, x.hd.length = 8) ∧ (∀ (i : Nat) r x, qs[i]? = some r → ts[i]? = some x → reaV (tidy n H) r = some x.smp) ∧ ∀ (i : Nat) (hi : i < ts.length), ∃ a q, oa = some a ∧ flat a = true ∧ qs[i]? = some q ∧ cellsA (tidy n H) a.block (a.off + i * 10) 10 = some (tc ts[i] q) := by
   by_cases h0 : ts = []
   · subst h0
     exact ⟨[], rfl, by simp, fun i r x h => by simp at h, fun i hi => by simp at hi⟩
   · have h64 : 0 < ts.length := by
       cases ts with
       | nil => exact absurd rfl h0
       | cons x l => simp
     obtain ⟨a, q, e, _⟩ := hrow 0 h64
     subst e
     obtain ⟨hf, rs, e1, e2, e3, e4⟩ := trc_cells_all ht h0
     refine ⟨rs, e1, e3, e4, fun i hi => ?_⟩
     have hir : i < rs.length := by omega
     refine ⟨a, _, rfl, hf, List.getElem?_eq_getElem hir, ?_⟩
     obtain ⟨a', q', e, _, hcs, h8, _⟩ := hrow i hi
     injection e with e
     subst e
     have h9 : cellA (tidy n H) a.block (a.off + (i * 10 + 9)) = some rs[i] := by
       have := (cellsA_at e2).2 (i * 10 + 9) (by omega)
       rw [this]
       have e5 := tcs_at i (List.getElem?_eq_getElem hi) (List.getElem?_eq_getElem hir) e3
       have : (tcs ts rs)[i * 10 + 9]? = (tc ts[i] rs[i])[9]? := by rw [← e5, List.getElem?_take, if_pos (by decide), List.getElem?_drop]
       rw [this, tc, List.getElem?_append_right (by rw [List.length_map]; omega), List.length_map, h8]
       rfl
     obtain ⟨_, h9', _⟩ := trc_cells hcs h8
     rw [show a.off + i * 10 + 9 = a.off + (i * 10 + 9) by omega, h9] at h9'
     injection h9' with h9'
     rw [h9']
     exact hcs
 refine made_back (t := 144) (ts := ts) (s := s) (qs := qs) Tryz.func71 rfl (by kernel_rfl) rfl [2, 3, 10, 11, 12] hlt hl31 hql h8 hqr ?_
 obtain ⟨L, hL⟩ : ∃ L, (n + 1, Blk.cells [.string ⟨#[]⟩, .slice none 0 0] 103) :: (n, Blk.cells [.string s, .slice oa ts.length c] 110) :: tidy n H = L := ⟨_, rfl⟩
 have hS : Sub (tidy n H) L := by rw [← hL]; exact (Sub.cons (hT _ (Nat.le_refl _)) (Sub.refl _)).trans (Sub.cons (by rw [hget_cons, if_neg (by omega)]; exact hT _ (by omega)) (Sub.refl _))
 have hLn : namesOk (n + 2) L = true := by rw [← hL]; exact namesOk_put (by omega) (namesOk_put (by omega) (by simp))
 have hLlt : ∀ k b, hget L k = some b → k < n + 2 := fun k b hk => namesOk_iff.1 hLn (k, b) (hget_mem _ _ _ hk)
 have hb0 : hget L n = some (.cells [.string s, .slice oa ts.length c] 110) := by rw [← hL, hget_cons, if_neg (by omega), hget_cons, if_pos rfl]
 have hb1 : hget L (n + 1) = some (.cells [.string ⟨#[]⟩, .slice none 0 0] 103) := by rw [← hL, hget_cons, if_pos rfl]
 have hL2 : hget L (n + 2) = none := by
   cases hc : hget L (n + 2) with
   | none => rfl
   | some b => have := hLlt _ _ hc; omega
 have hc0 : cellA L n 0 = some (.string s) := by rw [cellA_eq, hb0]; rfl
 refine E.seq ?_
 refine E.reg hr0 (by simp; rfl) ?_
 rw [hL]
 refine E.seq ?_
 have hbd := fun (fr : Fr) (H : Heap) (m : Nat) (h : evO Tryz.prog fr (.tmp 7) = some (.string s)) => build103a (fr := fr) (H := H) (n := m) h
 refine E.reg hr0 (by simp [-cellA, hc0, hbd]; rfl) ?_
 obtain ⟨Z, hZ⟩ : ∃ Z, (n + 2, Blk.cells [.string s, .slice none 0 0] 103) :: L = Z := ⟨_, rfl⟩
 rw [hZ]
 have hLZ : Sub L Z := by rw [← hZ]; exact Sub.cons hL2 (Sub.refl _)
 have hZn : namesOk (n + 3) Z = true := by rw [← hZ]; exact namesOk_put (by omega) (namesOk_mono (by omega) _ hLn)
 have hZ2 : hget Z (n + 2) = some (.cells [.string s, outS 0 0] 103) := by rw [← hZ, hget_cons, if_pos rfl]; rfl
 have hK0 : Kp L (n + 3) (fs71 n 0 0 s) Z (n + 3) := (Kp.start (fun k b hk => by have := hLlt _ _ hk; omega) hLZ hZn (Nat.le_refl _)).more hZ2 (by omega) hL2 (by simp)
 have hz1 : cellA Z n 1 = some (.slice oa ts.length c) := by rw [cellA_eq, hLZ _ _ hb0]; rfl
 refine E.seq ?_
 refine E.seq ?_
 refine E.reg hr0 (by simp [-cellA, hz1]; rfl) ?_
 refine E.block ?_
 refine E.loop ?_
 have hfs : ∀ o, fs71 n o 0 s = fs71 n 0 0 s := fun _ => rfl
 refine EL.ind (fun x : Nat × Heap × Nat × Nat => { fr := fr59 n x.1 oa ts.length c, sz := 30, H := x.2.1, n := x.2.2.1, marks := [], vs := [2, 3, 10, 11, 12] }) (fun x => ts.length - x.1) (fun x => x.1 ≤ ts.length ∧ Kp L (n + 3) (fs71 n x.2.2.2 x.1 s) x.2.1 x.2.2.1 ∧ n + 3 ≤ x.2.2.2 ∧ (x.1 ≠ 0 → hget x.2.1 x.2.2.2 = some (.ext (tcs (ts.take x.1) (qs.take x.1)) 144 10) ∧ x.2.2.2 < x.2.2.1)) (0, Z, n + 3, n + 3) (.keep rfl rfl rfl (by simp) (Sub.refl _)) ⟨Nat.zero_le _, hK0, Nat.le_refl _, fun h => absurd rfl h⟩ (fun _ => rfl) ?_
 rintro ⟨i, Hx, N, o⟩ ⟨hi, hK, hol, ho⟩
 dsimp only at hi hK hol ho ⊢
 have hbig := hK.big
 have hw : IntKind.i64.wrap ((i : Int) + 1) = (i : Int) + 1 := W_in (by omega) (by omega)
 refine E.seq ?_
 refine E.reg hr0 (by simp; rfl) ?_
 refine E.seq ?_
 by_cases hil : i < ts.length
 · refine E.cond (t := true) (by simp [hil]) (fun _ => ?_) (fun h => by cases h)
   obtain ⟨a, q, rfl, hf, hqi, hcs⟩ := hqc i hil
   have hqv := hqr i q _ hqi (List.getElem?_eq_getElem hil)
   obtain ⟨oq, cq, rfl, hlq, _, _⟩ := reaV_form hqv
   have h8i := h8 _ (List.getElem_mem hil)
   obtain ⟨a0, a1, a2, a3, a4, a5, a6, a7, hhd⟩ := len8 h8i
   have hld := load159 ((hS.trans hK.sub).cells hcs)
   obtain ⟨T, hTT⟩ : ∃ T, ts[i] = T := ⟨_, rfl⟩
   have htk : ts.take (i + 1) = ts.take i ++ [T] := by rw [← hTT]; exact List.take_succ_eq_append_getElem hil
   have hqk : qs.take (i + 1) = qs.take i ++ [.slice oq T.smp.length cq] := by
     rw [List.take_add_one, hqi, hTT]; rfl
   rw [hTT] at hld hhd h8i
   obtain ⟨hob, hho⟩ : ∃ ho, T.hole = ho := ⟨_, rfl⟩
   obtain ⟨q, hq⟩ : ∃ q, Value.slice oq T.smp.length cq = q := ⟨_, rfl⟩
   have htc : tc T q = [iv a0, iv a1, iv a2, iv a3, iv a4, iv a5, iv a6, iv a7, .bool hob, .slice oq T.smp.length cq] := by rw [tc, hhd, hho, ← hq]; rfl
   rw [hq] at hld hqk
   rw [htc] at hld
   refine E.skip ?_
   refine E.seq ?_
   refine E.block ?_
   refine E.seq ?_
   refine E.reg hr0 (by simp [-loadA, -flat, hil, hf, hld]; rfl) ?_
   obtain ⟨V, hV⟩ : ∃ V, (N, Blk.cells [iv a0, iv a1, iv a2, iv a3, iv a4, iv a5, iv a6, iv a7, .bool hob, .slice oq T.smp.length cq] 159) :: Hx = V := ⟨_, rfl⟩
   have hVN : hget V N = some (.cells [iv a0, iv a1, iv a2, iv a3, iv a4, iv a5, iv a6, iv a7, .bool hob, .slice oq T.smp.length cq] 159) := by rw [← hV, hget_cons, if_pos rfl]
   have hKV : Kp L (n + 3) (fs71 n o i s) V (N + 1) := by rw [← hV]; exact hK.skip _
   rw [hV]
   have d8 : loadA Tryz.prog 142 V (.pointer (some ⟨N, 0, none⟩)) = some (.agg ⟨[iv a0, iv a1, iv a2, iv a3, iv a4, iv a5, iv a6, iv a7]⟩) := load142 (by rw [cellsA_eq, hVN]; rfl)
   have e8 : cellA V N 8 = some (.bool hob) := by rw [cellA_eq, hVN]; rfl
   have e9 : cellA V N 9 = some (.slice oq T.smp.length cq) := by rw [cellA_eq, hVN]; rfl
   have eb : cellA V (n + 2) 1 = some (outS o i) := by rw [cellA_eq, hKV.at' 0 _ rfl]; rfl
   have k8 : loadA Tryz.prog 4 V (.pointer (some ⟨N, 8, none⟩)) = some (.bool hob) := by simp [-cellA, e8]
   have k9 : loadA Tryz.prog 126 V (.pointer (some ⟨N, 9, none⟩)) = some (.slice oq T.smp.length cq) := by simp [-cellA, e9]
   have kb : loadA Tryz.prog 101 V (.pointer (some ⟨n + 2, 1, none⟩)) = some (outS o i) := by simp [-cellA, eb]
   have hbt := fun (fr : Fr) (H : Heap) (m : Nat) (h1 : evO Tryz.prog fr (.tmp 19) = some (.agg ⟨[iv a0, iv a1, iv a2, iv a3, iv a4, iv a5, iv a6, iv a7]⟩)) (h2 : evO Tryz.prog fr (.tmp 21) = some (.bool hob)) (h3 : evO Tryz.prog fr (.tmp 23) = some (.slice oq T.smp.length cq)) => build144 (fr := fr) (H := H) (n := m) h1 h2 h3
   obtain ⟨X, hX⟩ : ∃ X, (N + 1, Blk.cells (tc T q) 144) :: V = X := ⟨_, rfl⟩
   have hKX : Kp L (n + 3) (fs71 n o i s) X (N + 1 + 1) := by rw [← hX]; exact hKV.skip _
   have htl : (tcs (ts.take i) (qs.take i)).length = i * 10 := by
     rw [tcs_len (by rw [List.length_take, List.length_take]; omega) fun x hx => h8 x (List.mem_of_mem_take hx), List.length_take]
     rw [Nat.min_eq_left hi]
   have hap := app_at (P := Tryz.prog) (st := 101) (t := 144) (i := Tryz.t144) (X := X) (N := N + 1) (o := o) (k := i) (sz := 10) (cs := tcs (ts.take i) (qs.take i)) (new := tc T q) Tryz.underlying101 inf144 sz144i zo144 by144 (by omega) (by rw [← hX, hget_cons, if_pos rfl]) htl (tc_len h8i) (by decide) (oneL_tc (by rw [← hq]; rfl)) (fun h0 => by
     obtain ⟨g1, g2⟩ := ho h0
     rw [← hX, hget_cons, if_neg (by omega), ← hV, hget_cons, if_neg (by omega)]
     exact g1)
   obtain ⟨Y, hY⟩ : ∃ Y, (N + 1 + 1, Blk.ext (tcs (ts.take i) (qs.take i) ++ tc T q) 144 10) :: (if i = 0 then X else hdel X o) = Y := ⟨_, rfl⟩
   have hKY : Kp L (n + 3) (fs71 n o i s) Y (N + 1 + 1 + 1) := by
     rw [← hY]
     refine Kp.skip ?_ _
     split
     · exact hKX
     · exact hKX.drop hol
   have hst := store_at (v := outS (N + 1 + 1) (i + 1)) (hKY.at' 0 _ rfl) (i := 1) (by simp)
   have hKz := hKY.put 0 rfl (.cells [.string s, outS (N + 1 + 1) (i + 1)] 103)
   have hst2 : storeA Y (n + 2) 1 [outS (N + 1 + 1) (i + 1)] = some (hset Y (n + 2) (.cells [.string s, outS (N + 1 + 1) (i + 1)] 103)) := hst
   rw [hY] at hap
   rw [← hX, htc] at hap
   rw [outS_ne (Nat.succ_ne_zero _)] at hap hst2
   refine E.reg hr0 (by simp [-loadA, -builtinA, -storeA, d8, k8, k9, kb, hbt, hap, hst2]; rfl) ?_
   refine E.reg hr0 (by simp [hw]; rfl) ?_
   refine ⟨(i + 1, _, N + 1 + 1 + 1, N + 1 + 1), .keep rfl rfl rfl (by simp) (Sub.refl _), ⟨hil, hKz, by dsimp only; omega, fun _ => ⟨?_, Nat.lt_succ_self _⟩⟩, by dsimp only; omega⟩
   dsimp only
   rw [hget_hset, if_neg (by omega), ← hY, hget_cons, if_pos rfl, htk, hqk, tcs_snoc (by rw [List.length_take, List.length_take]; omega)]
 · have hil' : i = ts.length := by omega
   subst hil'
   refine E.cond (t := false) (by simp) (fun h => by cases h) (fun _ => ?_)
   refine E.exit ?_
   have hld3 := load103 (H := Hx) (n := n + 2) (s := s) (u := outS o ts.length) (hK.at' 0 _ rfl)
   have hb1x := hK.sub _ _ hb1
   have hst3 : storeA Hx (n + 1) 0 [.string s, outS o ts.length] = some (hset Hx (n + 1) (.cells [.string s, outS o ts.length] 103)) := store_all hb1x rfl
   have hld4 := load103 (H := hset Hx (n + 1) (.cells [.string s, outS o ts.length] 103)) (n := n + 1) (s := s) (u := outS o ts.length) (by rw [hget_hset, if_pos rfl, hb1x]; rfl)
   have hone : oneL [Value.string s, outS o ts.length] = true := by
     unfold outS
     split <;> rfl
   refine E.seq ?_
   refine E.reg hr0 (by simp [-loadA, -storeA, -oneL, hld3, hst3, hone]; rfl) ?_
   refine E.ret ?_
   refine outM.ret _ rfl (vs := [.agg ⟨[.string s, outS o ts.length]⟩]) (by simp [-loadA, resultsA, resultA, Tryz.results71, hld4]) ⟨o, rfl, sub_hset (hS.trans hK.sub) (hT _ (by omega)), namesOk_hset hK.nm, by show n ≤ N; omega, fun h0 => ⟨?_, by omega⟩⟩
   have := (ho fun e => h0 (List.length_eq_zero_iff.1 e)).1
   rw [List.take_length, show qs.take ts.length = qs by rw [hql, List.take_length]] at this
   rw [hget_hset, if_neg (by omega)]
   exact this
end Go.Proofs.YtkongcnmkiihjaaGreatDoor

namespace Go.Ab
open Go
def cutG {α : Type} (P : Program) (n0 : Nat) (S : α → St) (Good : α → Prop) (K : Ex → St → Prop) : Ex → St → Prop
 | .normal, st => ∃ x, Good x ∧ Leads P n0 st (S x)
 | e, st => K e st
theorem E.cutG {α : Type} {P : Program} {n0 : Nat} {ro : Option Nat} {st : St} {K : Ex → St → Prop} {a b : Code} (S : α → St) (Good : α → Prop) (ha : E P n0 ro a st (Ab.cutG P n0 S Good K)) (hb : ∀ x, Good x → E P n0 ro b (S x) K) : E P n0 ro (.seq a b) st K :=
 E.seq (ha.mono fun e st' h => by
   cases e with
   | normal =>
     obtain ⟨x, hx, hl⟩ := h
     exact E.lead (S x) hl (hb x hx)
   | _ => exact h)
structure PM (N : Nat) (X : Heap) : Prop where
 nm : namesOk N X = true
 pl : plainH X = true
theorem frz_frz : ∀ b : Blk, frz (frz b) = frz b
 | .cells _ _ => rfl
 | .ext _ _ _ => rfl
 | .inp _ _ => rfl
 | .row _ _ => rfl
 | .tab _ => rfl
 | .map _ _ => rfl
 | .iter _ _ => rfl
 | .miter _ _ _ _ => rfl
 | .defd => rfl
 | .loop _ _ _ _ _ _ _ _ _ => rfl
theorem frzH_frzH : ∀ H : Heap, frzH (frzH H) = frzH H
 | [] => rfl
 | (k, b) :: H => by rw [frzH, frzH, frz_frz, frzH_frzH H]
theorem frzH_app : ∀ A B : Heap, frzH (A ++ B) = frzH A ++ frzH B
 | [], _ => rfl
 | (k, b) :: A, B => by rw [List.cons_append, frzH, frzH_app A B, frzH, List.cons_append]
theorem plain_hset {k : Nat} {b : Blk} (hb : plainB2 b = true) : ∀ {H : Heap}, plainH H = true → plainH (hset H k b) = true
 | [], h => h
 | (j, c) :: H, h => by
   rw [plainH, Bool.and_eq_true] at h
   rw [hset]
   split
   · rw [plainH, hb, h.2]; rfl
   · rw [plainH, h.1, plain_hset hb h.2]; rfl
section
variable {N N' : Nat} {X : Heap}
theorem PM.lt (h : PM N X) : ∀ k b, hget X k = some b → k < N := fun k b hk => namesOk_iff.1 h.nm (k, b) (hget_mem _ _ _ hk)
theorem PM.new (h : PM N X) : ∀ j, N ≤ j → hget X j = none := fun j hj => by
 cases hc : hget X j with
 | none => rfl
 | some b => have := h.lt _ _ hc; omega
theorem PM.tidy {H : Heap} : PM N (Ab.tidy N H) := ⟨by simp, by simp⟩
theorem PM.put (h : PM N X) {b : Blk} (hb : plainB2 b = true) : PM (N + 1) ((N, b) :: X) := ⟨namesOk_put (Nat.lt_succ_self _) (namesOk_mono (Nat.le_succ _) _ h.nm), by rw [plainH, hb, h.pl]; rfl⟩
theorem PM.wide (h : PM N X) (hN : N ≤ N') : PM N' X := ⟨namesOk_mono hN _ h.nm, h.pl⟩
theorem PM.sub (h : PM N X) {b : Blk} : Sub X ((N, b) :: X) := Sub.cons (h.new _ (Nat.le_refl _)) (Sub.refl _)
theorem PM.app (h : PM N X) {B : Heap} (hB : ∀ x ∈ B, N ≤ x.1 ∧ x.1 < N') (hp : plainH B = true) (hN : N ≤ N') : PM N' (B ++ X) ∧ Sub X (B ++ X) ∧ takeNew N (B ++ frzH X) = B ∧ namesOk N' B = true := by
 refine ⟨⟨namesOk_iff.2 fun x hx => ?_, plainH_app hp h.pl⟩, fun k b hk => ?_, ?_, namesOk_iff.2 fun x hx => (hB x hx).2⟩
 · rcases List.mem_append.1 hx with hx | hx
   · exact (hB x hx).2
   · have := namesOk_iff.1 h.nm x hx; omega
 · rw [hget_app]
   cases hc : hget B k with
   | none => exact hk
   | some c =>
     have := (hB _ (hget_mem _ _ _ hc)).1
     have := h.lt _ _ hk
     dsimp only at *
     omega
 · rw [takeNew_app fun x hx => (hB x hx).1, takeNew_frz h.nm, List.append_nil]
theorem PM.set (h : PM N X) {k : Nat} {b : Blk} (hb : plainB2 b = true) : PM N (hset X k b) := ⟨namesOk_hset h.nm, plain_hset hb h.pl⟩
theorem MadeS.late {H' : Heap} {u : Value} {x : ByteArray × List Trc} (hm : PM N X) (h : MadeS (frzH X) N H' N' u x) : ∃ B, H' = B ++ frzH X ∧ takeNew N (B ++ frzH X) = B ∧ namesOk N' B = true ∧ PM N' (B ++ X) ∧ Sub X (B ++ X) ∧ N ≤ N' ∧ shtV (B ++ X) u = some x := by
 obtain ⟨B, rfl, hB, hp⟩ := h.app
 obtain ⟨h1, h2, h3, h4⟩ := hm.app hB hp h.le
 refine ⟨B, rfl, h3, h4, h1, h2, h.le, ?_⟩
 have := h.view
 rw [← shtV_frz, frzH_app, frzH_frzH, ← frzH_app, shtV_frz] at this
 exact this
theorem MadeS.alone {H' : Heap} {u : Value} {x : ByteArray × List Trc} (hm : PM N X) (h : MadeS X N H' N' u x) : PM N' H' ∧ Sub X H' ∧ N ≤ N' ∧ shtV H' u = some x := by
 obtain ⟨B, rfl, hB, hp⟩ := h.app
 obtain ⟨h1, h2, _, _⟩ := hm.app hB hp h.le
 exact ⟨h1, h2, h.le, h.view⟩
end
end Go.Ab

namespace Go.Proofs.YtkongcnmkiihjaaGreatDoor
open Go Go.Ab Go.Proofs
end Go.Proofs.YtkongcnmkiihjaaGreatDoor

namespace Go.Proofs.YtkongcnmkiihjaaGreatDoor
open Go Go.Ab Go.Proofs
theorem flat_n {b o : Nat} : flat ⟨b, o, none⟩ = true := rfl
end Go.Proofs.YtkongcnmkiihjaaGreatDoor

namespace Go.Proofs.YtkongcnmkiihjaaGreatDoor
open Go Go.Ab Go.Proofs
end Go.Proofs.YtkongcnmkiihjaaGreatDoor

namespace Go.Proofs.YtkongcnmkiihjaaGreatDoor
open Go Go.Ab Go.Proofs
theorem w43b {H : Heap} {n : Nat} {v u : Value} {l : List Int} (h1 : intV H v = some l) (h2 : intV H u = some l) : AC Tryz.prog 43 [v, u] H n (.bool true) H n := by
 refine AC.given fun hold _ _ => ?_
 have hr := recT_ok (P := Tryz.prog) (l := []) (by simp)
 obtain ⟨oa, c, rfl, hlt, _, hcell⟩ := intV_form h1
 obtain ⟨ob, d, rfl, _, _, hcell2⟩ := intV_form h2
 refine AC.pure Tryz.func43 rfl (by kernel_rfl) rfl [0, 1, 5] rfl ?_
 refine E.seq ?_
 refine E.reg hr (by simp; rfl) ?_
 refine E.seq ?_
 refine E.seq ?_
 refine E.reg hr (by simp; rfl) ?_
 refine E.cond (t := false) (by simp) (fun h => by cases h) (fun _ => ?_)
 refine E.skip ?_
 refine E.seq ?_
 refine E.seq ?_
 refine E.reg hr (by simp; rfl) ?_
 refine E.block ?_
 refine E.loop ?_
 refine EL.ind (fun i : Nat => { fr := [(0, .slice oa l.length c), (1, .slice ob l.length d), (5, iv i)], sz := 26, H := H, n := n, marks := [], vs := [0, 1, 5] }) (fun i => l.length - i) (fun i => i ≤ l.length) 0 (.keep rfl rfl rfl (by simp) (Sub.refl _)) (Nat.zero_le _) (fun _ => rfl) ?_
 intro i hi
 have hw : IntKind.i64.wrap ((i : Int) + 1) = (i : Int) + 1 := W_in (by omega) (by omega)
 refine E.seq ?_
 refine E.seq ?_
 refine E.reg hr (by simp; rfl) ?_
 by_cases hlt' : i < l.length
 · obtain ⟨a, rfl, hf, hc⟩ := hcell i hlt'
   obtain ⟨b, rfl, hf2, hc2⟩ := hcell2 i hlt'
   have ha := cellA_lt (fun k x hk => (hold k x hk).1) hc
   have hb := cellA_lt (fun k x hk => (hold k x hk).1) hc2
   have hra : cellA (readA [a.block] H) a.block (a.off + i) = some (iv l[i]) := by rw [cellA_eq, hget_readA, ← hc, cellA_eq]; simp
   have hrb : cellA (readA [b.block] H) b.block (b.off + i) = some (iv l[i]) := by rw [cellA_eq, hget_readA, ← hc2, cellA_eq]; simp
   refine E.cond (t := true) (by simp [hlt']) (fun _ => ?_) (fun h => by cases h)
   refine E.skip ?_
   refine E.seq ?_
   refine E.block ?_
   refine E.seq ?_
   refine E.drawS mixed hr [] (by kernel_rfl) (by simp [-cellA, -flat, -readA, hlt', hf, hf2, hra, hrb, ha, hb]; rfl) ?_
   refine E.cond (t := false) (by simp) (fun h => by cases h) (fun _ => ?_)
   refine E.skip ?_
   refine E.reg hr (by simp [hw]; rfl) ?_
   exact ⟨i + 1, .keep rfl rfl rfl (by simp) (Sub.refl _), hlt', by dsimp only; omega⟩
 · refine E.cond (t := false) (by simp [hlt']) (fun h => by cases h) (fun _ => ?_)
   refine E.exit ?_
   refine E.seq ?_
   refine E.reg hr (by simp; rfl) ?_
   refine E.ret ?_
   exact pureK.ret rfl rfl (by simp) (Sub.refl _)
def alikeV (H : Heap) (v u : Value) : Bool := match intV H v, intV H u with
 | some x, some y => decide (x = y)
 | _, _ => false
def g43b (args : List Value) (H : Heap) (n : Nat) : R := match args with
 | [v, u] => if alikeV H v u = true then some (.bool true, H, n) else none
 | _ => none
theorem ok43b : EntOk Tryz.prog (43, g43b) := by
 intro args H n v H' n' h
 simp only [g43b] at h
 split at h
 · split at h
   · rename_i hc
     injection h with h; injection h with e1 e2; injection e2 with e2 e3; subst e1 e2 e3
     unfold alikeV at hc
     split at hc
     · rename_i x y hx hy
       have := of_decide_eq_true hc
       subst this
       exact w43b hx hy
     · cases hc
   · cases h
 · cases h
end Go.Proofs.YtkongcnmkiihjaaGreatDoor

namespace Go.Proofs.YtkongcnmkiihjaaGreatDoor
open Go Go.Ab Go.Proofs
theorem eq96v (a b : Int) : runP Tryz.prog (Op.equalIn 10000 96 (.agg ⟨[iv a, iv b]⟩) (.agg ⟨[iv a, iv b]⟩)) = some true := by
 have := runS_eq (P := Tryz.prog) 9999 (t := 96) ⟨[iv a, iv b]⟩ ⟨[iv a, iv b]⟩ (fun _ => true) Tryz.underlying96 (by kernel_rfl) fun f hf => ?_
 · exact this
 · have hs : ∀ x : Int, runP Tryz.prog (Op.equalIn 9999 3 (iv x) (iv x)) = some true := fun x => by
     rw [runS_int _ _ _ Tryz.underlying3]
     simp
   simp only [List.mem_cons, List.not_mem_nil, or_false] at hf
   rcases hf with rfl | rfl
   · exact ⟨by decide, iv a, iv a, by kernel_rfl, by kernel_rfl, hs _⟩
   · exact ⟨by decide, iv b, iv b, by kernel_rfl, by kernel_rfl, hs _⟩
theorem eq96 {x y : Operand} {H : Heap} {n : Nat} (a b : Int) : binV Tryz.prog .eql 96 x y (.agg ⟨[iv a, iv b]⟩) (.agg ⟨[iv a, iv b]⟩) H n = some (.bool true, H, n) := by
 have h : runP Tryz.prog (do eqGuard .eql 96 x y (.agg ⟨[iv a, iv b]⟩) (.agg ⟨[iv a, iv b]⟩); binOp .eql 96 (.agg ⟨[iv a, iv b]⟩) (.agg ⟨[iv a, iv b]⟩)) = some (.bool true) := by
   rw [runS_bind]
   have h1 : runP Tryz.prog (eqGuard .eql 96 x y (.agg ⟨[iv a, iv b]⟩) (.agg ⟨[iv a, iv b]⟩)) = some () := by kernel_rfl
   rw [h1, Option.bind_some]
   show runP Tryz.prog (Op.equalIn 10000 96 (.agg ⟨[iv a, iv b]⟩) (.agg ⟨[iv a, iv b]⟩) >>= fun b => pure (Value.bool b)) = _
   rw [runS_bind, eq96v]
   rfl
 have ha : afq (.agg ⟨[iv a, iv b]⟩) = true := rfl
 unfold binV
 rw [ha]
 simp only [Bool.and_self, if_true]
 rw [h]
 rfl
theorem w42b0 {H : Heap} {n : Nat} {v u : Value} (h : alikeV H v u = true) : AC Tryz.prog 42 [v, iv 0, iv 0, u] H n (.bool true) H n := by
 refine AC.given fun hold hsc hgn => AC.tidied (B := []) (by simp) ?_
 have h' : ∃ l, intV H v = some l ∧ intV H u = some l := by
   unfold alikeV at h
   split at h
   · rename_i x y hx hy
     have := of_decide_eq_true h
     subst this
     exact ⟨x, hx, hy⟩
   · cases h
 obtain ⟨l, h1, h2⟩ := h'
 replace h1 := int_tidy hold h1
 replace h2 := int_tidy hold h2
 have ha : alikeV (tidy n H) v u = true := by unfold alikeV; rw [h1, h2]; simp
 have hr := recT_ok (P := Tryz.prog) (l := [(43, g43b)]) (by simp only [List.forall_mem_cons]; exact ⟨ok43b, by simp⟩)
 have hg : ∀ m, g43b [v, u] (tidy n H) m = some (.bool true, tidy n H, m) := fun m => if_pos ha
 refine AC.pure Tryz.func42 rfl (by kernel_rfl) rfl [0, 1, 3, 8] rfl ?_
 refine E.seq ?_
 refine E.reg hr (by simp; rfl) ?_
 refine E.seq ?_
 refine E.seq ?_
 refine E.reg hr (by simp; rfl) ?_
 refine E.cond (t := false) (by simp) (fun h => by cases h) (fun _ => ?_)
 refine E.skip ?_
 refine E.seq ?_
 refine E.reg hr (by simp [hg]; rfl) ?_
 refine E.ret ?_
 exact pureK.ret rfl rfl (by simp) (Sub.refl _)
theorem w42b1 {H : Heap} {n : Nat} {u : Value} {e : Int} (h : e ≠ 0) : AC Tryz.prog 42 [.slice none 0 0, iv e, iv e, u] H n (.bool true) H n := by
 refine AC.given fun hold hsc hgn => AC.tidied (B := []) (by simp) ?_
 have hr := recT_ok (P := Tryz.prog) (l := []) (by simp)
 refine AC.pure Tryz.func42 rfl (by kernel_rfl) rfl [0, 1, 2, 8] rfl ?_
 refine E.seq ?_
 refine E.reg hr (by simp; rfl) ?_
 refine E.seq ?_
 refine E.seq ?_
 refine E.reg hr (by simp; rfl) ?_
 refine E.cond (t := true) (by simp [h]) (fun _ => ?_) (fun h => by cases h)
 refine E.seq ?_
 refine E.reg hr (by simp; rfl) ?_
 refine E.ret ?_
 exact pureK.ret rfl rfl (by simp) (Sub.refl _)
def isNil : Value → Bool
 | .slice none 0 0 => true
 | _ => false
theorem isNil_eq {v : Value} (h : isNil v = true) : v = .slice none 0 0 := by
 unfold isNil at h
 split at h
 · rfl
 · cases h
def g42b (args : List Value) (H : Heap) (n : Nat) : R := match args with
 | [v, .int .i64 e, .int .i64 c, u] => if (e = c ∧ c = 0 ∧ alikeV H v u = true) ∨ (e = c ∧ c ≠ 0 ∧ isNil v = true) then some (.bool true, H, n) else none
 | _ => none
theorem ok42b : EntOk Tryz.prog (42, g42b) := by
 intro args H n v H' n' h
 simp only [g42b] at h
 split at h
 · split at h
   · rename_i hc
     injection h with h; injection h with e1 e2; injection e2 with e2 e3; subst e1 e2 e3
     rcases hc with ⟨rfl, rfl, ha⟩ | ⟨rfl, hc, hv⟩
     · exact w42b0 ha
     · rw [isNil_eq hv]
       exact w42b1 hc
   · cases h
 · cases h
def g63 (args : List Value) (H : Heap) (n : Nat) : R := match args with
 | [v, .int .i64 t] => match shtV H v with
   | some x => if 0 ≤ (widF x.2).1 ∧ (widF x.2).1 ≤ 4294967296 then some (iv (withinV t 0 ((widF x.2).1 - 1)), H, n) else none
   | none => none
 | _ => none
theorem ok63 : EntOk Tryz.prog (63, g63) := by
 intro args H n v H' n' h
 simp only [g63] at h
 split at h
 · split at h
   · rename_i x hx
     split at h
     · rename_i hc
       injection h with h; injection h with e1 e2; injection e2 with e2 e3; subst e1 e2 e3
       exact w63 (s := x.1) (ts := x.2) hx hc
     · cases h
   · cases h
 · cases h
def Q59 (s : ByteArray) (ts : List Trc) (_ : List Value) (H : Heap) (n : Nat) (u : Value) (H' : Heap) (n' : Nat) : Prop := MadeS H n H' n' u (s, ts)
theorem scL_mem' {p : Nat → Prop} : ∀ {vs : List Value} {i : Nat} {v : Value}, scL p vs → vs[i]? = some v → sc p v
 | [], _, _, _, h => by simp at h
 | v :: vs, 0, w, hs, h => by simp at h; subst h; exact hs.1
 | v :: vs, i + 1, w, hs, h => scL_mem' hs.2 (by simpa using h)
theorem sc_cell {p : Nat → Prop} {H : Heap} {k o : Nat} {q : Value} {b : Blk} (hb : hget H k = some b) (hs : scB p b) (h : cellA H k o = some q) : sc p q := by
 rw [cellA_eq, hb] at h
 cases b with
 | cells cs t => exact scL_mem' hs h
 | ext cs t sz => exact scL_mem' hs h
 | row cs sz => exact scL_mem' hs h
 | inp o' cs =>
   simp only [Option.bind_some, cellB] at h
   split at h
   · exact scL_mem' hs h
   · cases h
 | _ => cases h
theorem rowSc_of {T X : Heap} {n N : Nat} {s : ByteArray} {l : Value} {x : ByteArray × List Trc} (hold : ∀ k b, hget T k = some b → k < n ∧ scB (· < n) b) (hv : shtV T (.agg ⟨[.string s, l]⟩) = some x) (hX : Sub T X) (hN : n ≤ N) : rowSc (frzH X) N (.agg ⟨[.string s, l]⟩) := fun s' a k c i q e hi hq => by
 injection e with e
 have e : l = .slice (some a) k c := by
   injection e with e
   injection e with _ e
   injection e
 subst e
 obtain ⟨u, e1, ht⟩ := shtV_form (s := x.1) (ts := x.2) hv
 have e1 : u = .slice (some a) k c := by
   injection e1 with e1
   injection e1 with e1
   injection e1 with _ e1
   injection e1 with e1
   exact e1.symm
 subst e1
 obtain ⟨oa, c', e2, _, _, hrow⟩ := trcV_form ht
 injection e2 with e2 e3 e4
 subst e3
 obtain ⟨a', q', e5, _, hcs, _, _⟩ := hrow i hi
 rw [e5] at e2
 injection e2 with e2
 subst e2
 rw [cellsA_eq] at hcs
 cases hb : hget T a.block with
 | none => rw [hb] at hcs; cases hcs
 | some b =>
   rw [cellA_frz] at hq
   exact sc_mono (fun k hk => by omega) _ (sc_cell (hX _ _ hb) (hold _ _ hb).2 hq)
theorem call59 {T X : Heap} {n N : Nat} {s : ByteArray} {l : Value} {ts : List Trc} (hold : ∀ k b, hget T k = some b → k < n ∧ scB (· < n) b) (hv : shtV T (.agg ⟨[.string s, l]⟩) = some (s, ts)) (hX : Sub T X) (hm : PM N X) (hN : n ≤ N) (hsm : ∀ x ∈ ts, x.smp.length ≤ 1048576) :
   ∃ u B n', gEx Tryz.prog 59 (Q59 s ts) [.agg ⟨[.string s, l]⟩] (frzH X) N = some (u, B ++ frzH X, n') ∧ takeNew N (B ++ frzH X) = B ∧ namesOk n' B = true ∧ PM n' (B ++ X) ∧ Sub X (B ++ X) ∧ N ≤ n' ∧ shtV (B ++ X) u = some (s, ts) := by
 have hfn : ∀ k b, hget (frzH X) k = some b → k < N := fun k b hk => by
   rw [hget_frz, Option.map_eq_some_iff] at hk
   obtain ⟨b', hk, _⟩ := hk
   exact hm.lt _ _ hk
 obtain ⟨u, H', n', h1, h2⟩ := gEx_at (Q := Q59 s ts) (w59 (H := frzH X) (n := N) (by rw [shtV_frz]; exact shtV_mono hX hv) hfn hsm (rowSc_of hold hv hX hN))
 obtain ⟨B, rfl, g1, g2, g3, g4, g5, g6⟩ := MadeS.late hm h2
 exact ⟨u, B, n', h1, g1, g2, g3, g4, g5, g6⟩
end Go.Proofs.YtkongcnmkiihjaaGreatDoor

namespace Go.Ab
open Go Ieee
theorem smp_sampB {n : Int} (hn : n.natAbs < 2 ^ 24) : FloatKind.f32.format.div (FloatKind.f32.nearest n) 1098907648 = some (sampB n) ∧ smp (sampB n) n := by
 obtain ⟨r, h1, h2⟩ := smp_told hn
 have h3 : sampB n = r := by
   unfold sampB sampQ
   rw [show FloatKind.f32.format = single from rfl, h1]
   rfl
 rw [h3]
 exact ⟨h1, h2⟩
end Go.Ab

namespace Go.Proofs.YtkongcnmkiihjaaGreatDoor
open Go Go.Ab Go.Proofs
theorem sameF_of : ∀ {l k : List Nat}, l.length = k.length → (∀ (i a b : Nat), l[i]? = some a → k[i]? = some b → Gn.eqF a b = true) → Gn.sameF l k = true
 | [], [], _, _ => rfl
 | a :: l, b :: k, h, hx => by
   show (Gn.eqF a b && Gn.sameF l k) = true
   rw [hx 0 a b rfl rfl, sameF_of (by simpa using h) fun i x y h1 h2 => hx (i + 1) x y (by simpa using h1) (by simpa using h2)]
   rfl
 | [], _ :: _, h, _ => by simp at h
 | _ :: _, [], h, _ => by simp at h
theorem eqF_smp {a b : Nat} {n : Int} (ha : smp a n) (hb : smp b n) : Gn.eqF a b = true := by
 have := smp_ord ha hb
 unfold Gn.eqF
 rw [show FloatKind.f32.format.order a b = Ieee.single.order a b from rfl, this, show compare n n = .eq from by simp]
 rfl
theorem smp_six {b : Nat} (h : good32 b = true) : smp b (six32 b) := by
 refine ⟨?_, (good_six h).1⟩
 unfold good32 at h
 simp only [Bool.and_eq_true, decide_eq_true_eq] at h
 exact h.1.1
theorem cor_ref {ts : List Trc} (hok : OkS ts) (w st : Int) {t i : Nat} (hi : i < ts.length) : Gn.eqF (corB ts w st t i) (refB ts w st t i) = true := by
 unfold corB
 by_cases hb : livB ts t w st i = true
 · rw [if_pos hb]
   obtain ⟨_, b, h1, h2, h3⟩ := refB_live hok hi hb
   rw [h1, ← h3]
   have h6 := (good_six h2).2
   exact eqF_smp (smp_sampB (by omega)).2 (smp_six h2)
 · rw [if_neg hb]
   have : refB ts w st t i = 0 := by unfold refB; rw [if_neg hb]
   rw [this]
   exact eqF_smp smp_zero smp_zero
theorem cor_same {ts : List Trc} (hok : OkS ts) (w st : Int) : sameG (corG ts w st (widN ts) (dn (widN ts) 0)) (refG ts w st (dn (widN ts) 0)) := by
 refine ⟨by rw [corG_len, refG_len], fun i x y hx hy => ?_⟩
 have hi : i < ts.length := by
   have := (List.getElem?_eq_some_iff.1 hx).1
   rw [corG_len] at this
   exact this
 rw [corG_at (List.getElem?_eq_getElem hi)] at hx
 rw [refG_at (List.getElem?_eq_getElem hi)] at hy
 injection hx with hx
 injection hy with hy
 subst hx hy
 refine ⟨rfl, rfl, ?_⟩
 dsimp only
 cases hh : ts[i].hole with
 | true =>
   rw [if_pos rfl, hok.hol _ (List.getElem_mem hi) hh]
   rfl
 | false =>
   have hlen : (ts[i].smp.length : Int) = (widF ts).1 := hok.wid _ (List.getElem_mem hi) hh
   have hW : ts[i].smp.length = widN ts := by unfold widN; omega
   rw [if_neg (by simp)]
   refine sameF_of (by simp [hW]) fun t a b ha hb => ?_
   rw [List.getElem?_map] at ha
   rw [List.getElem?_mapIdx] at hb
   have ht : t < widN ts := by
     by_cases h : t < widN ts
     · exact h
     · rw [List.getElem?_eq_none (by simp; omega)] at ha
       cases ha
   rw [List.getElem?_range ht] at ha
   rw [List.getElem?_eq_getElem (by omega)] at hb
   have hd : dn (widN ts) 0 i t = true := by unfold dn; simp [ht]
   simp only [Option.map_some, hd, if_true, Option.some.injEq] at ha hb
   subst ha hb
   exact cor_ref hok w st hi
end Go.Proofs.YtkongcnmkiihjaaGreatDoor

namespace Go.Proofs.YtkongcnmkiihjaaGreatDoor
open Go Go.Ab Go.Proofs
def shortN (L : Nat) : Bool := decide (L ≤ 32) || decide (L = 1025)
theorem w167 {H : Heap} {n : Nat} {oa : Option Addr} {L c : Nat} (hL : L < 9223372036854775808) : AC Tryz.prog 167 [.slice oa L c] H n (.bool (shortN L)) H n := by
 refine AC.given fun hold hsc hgn => AC.tidied (B := []) (by simp) ?_
 have hr := recT_ok (P := Tryz.prog) (l := []) (by simp)
 refine AC.pure Tryz.func167 rfl (by kernel_rfl) rfl [0, 2] rfl ?_
 refine E.seq ?_
 refine E.reg hr (by simp; rfl) ?_
 refine E.seq ?_
 by_cases h : L ≤ 32
 case' pos =>
   have h1 : (L : Int) ≤ 32 := by omega
   refine E.reg hr (by simp [h1]; rfl) ?_
 case' neg =>
   have h1 : ¬ (L : Int) ≤ 32 := by omega
   have h2 : ((L : Int) = 1025) = (L = 1025) := by rw [eq_iff_iff]; omega
   refine E.reg hr (by simp [h1, h2]; rfl) ?_
 all_goals
   refine E.ret ?_
   exact pureK.ret rfl rfl (by simp [shortN, h]) (Sub.refl _)
def g167 (args : List Value) (H : Heap) (n : Nat) : R := match args with
 | [.slice _ L _] => if L < 9223372036854775808 then some (.bool (shortN L), H, n) else none
 | _ => none
theorem ok167 : EntOk Tryz.prog (167, g167) := by
 intro args H n v H' n' h
 simp only [g167] at h
 split at h
 · split at h
   · rename_i hL
     injection h with h; injection h with e1 e2; injection e2 with e2 e3; subst e1 e2 e3
     exact w167 hL
   · cases h
 · cases h
set_option maxRecDepth 20000 in
theorem w130 {H : Heap} {n : Nat} {cs : List Value} {oa : Option Addr} {L c : Nat} (h9 : cs[9]? = some (.slice oa L c)) (hL : L < 9223372036854775808) : AC Tryz.prog 130 [.agg ⟨cs⟩] H n (.bool (shortN L)) H n := by
 refine AC.given fun hold hsc hgn => AC.tidied (B := []) (by simp) ?_
 have hr := recT_ok (P := Tryz.prog) (l := [(167, g167)]) (by simp [ok167])
 obtain ⟨X, hX⟩ : ∃ X, (n, Blk.cells cs 144) :: tidy n H = X := ⟨_, rfl⟩
 have hS : Sub (tidy n H) X := by rw [← hX]; exact Sub.cons (by simp) (Sub.refl _)
 have hb : hget X n = some (.cells cs 144) := by rw [← hX, hget_cons, if_pos rfl]
 have hc9 : cellA X n 9 = some (.slice oa L c) := by rw [cellA_eq, hb]; exact h9
 refine AC.pure Tryz.func130 rfl (by kernel_rfl) rfl [1, 2] rfl ?_
 refine E.seq ?_
 refine E.reg hr (by simp; rfl) ?_
 rw [hX]
 refine E.seq ?_
 refine E.reg hr (by simp [-cellA, hc9, g167, hL]; rfl) ?_
 refine E.ret ?_
 exact pureK.ret rfl rfl (by simp) hS
def g130 (args : List Value) (H : Heap) (n : Nat) : R := match args with
 | [.agg a] => match a.toList[9]? with
   | some (Value.slice _ L _) => if L < 9223372036854775808 then some (.bool (shortN L), H, n) else none
   | _ => none
 | _ => none
theorem ok130 : EntOk Tryz.prog (130, g130) := by
 intro args H n v H' n' h
 simp only [g130] at h
 split at h
 · split at h
   · rename_i h9
     split at h
     · rename_i hL
       injection h with h; injection h with e1 e2; injection e2 with e2 e3; subst e1 e2 e3
       exact w130 h9 hL
     · cases h
   · cases h
 · cases h
end Go.Proofs.YtkongcnmkiihjaaGreatDoor

namespace Go.Proofs.YtkongcnmkiihjaaGreatDoor
open Go Go.Ab Go.Proofs
theorem sq_bind {α β : Type} {P : Program} (a : Sem α) (g : α → Sem β) : runP P (Sem.bind a g) = (runP P a).bind fun x => runP P (g x) := by
 induction a with
 | program k ih => exact ih P
 | mark m k ih => exact ih
 | _ => rfl
theorem sq_und {α : Type} {P : Program} {t : TypeId} {d : TypeDesc} {f : TypeDesc → Sem α} (h : P.underlying t = some d) : runP P (Sem.bind (underlying t) f) = runP P (f d) := by
 show runP P (Sem.bind (match P.underlying t with | some d => _ | none => _) f) = _
 rw [h]
 rfl
theorem len_nm {s : ByteArray} {o : Bool} : runP Tryz.prog (Go.builtin .len #[9] 3 #[o] #[.string s]) = some (.value (iv s.size)) := by
 show runP Tryz.prog (Sem.bind (Sem.bind (underlying 9) _) _) = _
 rw [sq_bind, sq_und Tryz.underlying9]
 rfl
set_option maxHeartbeats 600000 in
set_option maxRecDepth 50000 in
theorem w57big {H : Heap} {n : Nat} {s : ByteArray} {oa : Option Addr} {L c : Nat} (h : 60 < s.size ∨ 6 < L ∧ L ≠ 65) : AC Tryz.prog 57 [.agg ⟨[.string s, .slice oa L c]⟩] H n (.bool false) H n := by
 refine AC.given fun hold hsc hgn => AC.tidied (B := []) (by simp) ?_
 have hr := recT_ok (P := Tryz.prog) (l := []) (by simp)
 obtain ⟨X, hX⟩ : ∃ X, (n, Blk.cells [.string s, .slice oa L c] 103) :: tidy n H = X := ⟨_, rfl⟩
 have hS : Sub (tidy n H) X := by rw [← hX]; exact Sub.cons (by simp) (Sub.refl _)
 have hb : hget X n = some (.cells [.string s, .slice oa L c] 103) := by rw [← hX, hget_cons, if_pos rfl]
 have hc0 : cellA X n 0 = some (.string s) := by rw [cellA_eq, hb]; rfl
 have hc1 : cellA X n 1 = some (.slice oa L c) := by rw [cellA_eq, hb]; rfl
 refine AC.pure Tryz.func57 rfl (by kernel_rfl) rfl [1, 2, 3, 19, 33] rfl ?_
 refine E.seq ?_
 refine E.reg hr (by simp; rfl) ?_
 rw [hX]
 refine E.seq ?_
 refine E.seq ?_
 by_cases h1 : 60 < s.size
 case' pos =>
   have e1 : (60 : Int) < s.size := by omega
   refine E.reg hr (by simp [-cellA, hc0, isConstO, len_nm, e1]; rfl) ?_
 case' neg =>
   have e1 : ¬ (60 : Int) < s.size := by omega
   have e2 : (6 : Int) < L := by omega
   have e3 : ¬ (L : Int) = 65 := by omega
   refine E.reg hr (by simp [-cellA, hc0, isConstO, len_nm, hc1, e1, e2, e3]; rfl) ?_
 all_goals
   refine E.cond (t := true) (by simp) (fun _ => ?_) (fun h => by cases h)
   refine E.seq ?_
   refine E.reg hr (by simp; rfl) ?_
   refine E.ret ?_
   exact pureK.ret rfl rfl (by simp) hS
def decTL : Dec Nat := fun _ cs => match cs[9]? with
 | some (Value.slice _ L _) => if L < 9223372036854775808 then some L else none
 | _ => none
theorem decTL_tidy : DecTidy decTL := fun _ _ _ _ _ h => h
set_option maxHeartbeats 600000 in
set_option maxRecDepth 50000 in
theorem w57 {H : Heap} {n : Nat} {s : ByteArray} {u : Value} {Ls : List Nat} (hu : listV 10 decTL H u = some Ls) (hs : s.size ≤ 60) (hl : Ls.length ≤ 6 ∨ Ls.length = 65) : AC Tryz.prog 57 [.agg ⟨[.string s, u]⟩] H n (.bool (Ls.all shortN)) H n := by
 refine AC.given fun hold hsc hgn => AC.tidied (B := []) (by simp) ?_
 replace hu := listV_tidy decTL_tidy (fun k b h => (hold k b h).1) hu
 have hr := recT_ok (P := Tryz.prog) (l := [(130, g130)]) (by simp [ok130])
 obtain ⟨oa, c, rfl, hlt, _, hrow⟩ := listV_form hu
 obtain ⟨X, hX⟩ : ∃ X, (n, Blk.cells [.string s, .slice oa Ls.length c] 103) :: tidy n H = X := ⟨_, rfl⟩
 have hS : Sub (tidy n H) X := by rw [← hX]; exact Sub.cons (by simp) (Sub.refl _)
 have hb : hget X n = some (.cells [.string s, .slice oa Ls.length c] 103) := by rw [← hX, hget_cons, if_pos rfl]
 have hc0 : cellA X n 0 = some (.string s) := by rw [cellA_eq, hb]; rfl
 have hc1 : cellA X n 1 = some (.slice oa Ls.length c) := by rw [cellA_eq, hb]; rfl
 refine AC.pure Tryz.func57 rfl (by kernel_rfl) rfl [1, 2, 3, 19, 33] rfl ?_
 refine E.seq ?_
 refine E.reg hr (by simp; rfl) ?_
 rw [hX]
 refine E.seq ?_
 refine E.seq ?_
 have e1 : ¬ (60 : Int) < s.size := by omega
 by_cases h6 : Ls.length ≤ 6
 case' pos =>
   have e2 : ¬ (6 : Int) < Ls.length := by omega
   refine E.reg hr (by simp [-cellA, hc0, isConstO, len_nm, hc1, e1, e2]; rfl) ?_
 case' neg =>
   have e2 : (6 : Int) < Ls.length := by omega
   have e3 : (Ls.length : Int) = 65 := by omega
   refine E.reg hr (by simp [-cellA, hc0, isConstO, len_nm, hc1, e1, e3]; rfl) ?_
 all_goals
   refine E.cond (t := false) (by simp) (fun h => by cases h) (fun _ => ?_)
   refine E.skip ?_
   refine E.seq ?_
   refine E.seq ?_
   refine E.reg hr (by simp; rfl) ?_
   refine E.block ?_
   refine E.loop ?_
   refine EL.ind (fun i : Nat => { fr := [(1, .pointer (some ⟨n, 0, none⟩)), (3, iv i)], sz := 34, H := X, n := n + 1, marks := [], vs := [1, 2, 3, 19, 33] }) (fun i => Ls.length - i) (fun i => i ≤ Ls.length ∧ Ls.all shortN = (Ls.drop i).all shortN) 0 (.keep rfl rfl rfl (by simp) (Sub.refl _)) ⟨Nat.zero_le _, by rw [List.drop_zero]⟩ (fun _ => rfl) ?_
   rintro i ⟨hi, hg⟩
   have hw : IntKind.i64.wrap ((i : Int) + 1) = (i : Int) + 1 := W_in (by omega) (by omega)
   refine E.seq ?_
   refine E.seq ?_
   refine E.reg hr (by simp [-cellA, hc1]; rfl) ?_
   by_cases hil : i < Ls.length
   · refine E.cond (t := true) (by simp [hil]) (fun _ => ?_) (fun h => by cases h)
     obtain ⟨a, r, rfl, hf, hcs, hd⟩ := hrow i hil
     have hld := load144 (hS.cells hcs)
     have hl1 : loadA Tryz.prog 101 X (.pointer (some ⟨n, 1, none⟩)) = some (.slice (some a) Ls.length c) := by simp [-cellA, hc1]
     have hgt : ∀ m, g130 [.agg ⟨r⟩] X m = some (.bool (shortN Ls[i]), X, m) := fun m => by
       unfold decTL at hd
       split at hd
       · rename_i h9
         split at hd
         · rename_i hL
           injection hd with hd
           rw [← hd]
           unfold g130
           simp only [h9]
           rw [if_pos hL]
         · cases hd
       · cases hd
     rw [List.drop_eq_getElem_cons hil, List.all_cons] at hg
     refine E.skip ?_
     refine E.seq ?_
     refine E.block ?_
     refine E.seq ?_
     refine E.reg hr (by simp [-cellA, -flat, -loadA, hl1, hil, hf, hld, hgt]; rfl) ?_
     cases hb2 : shortN Ls[i] with
     | false =>
       refine E.cond (t := true) (by simp) (fun _ => ?_) (fun h => by cases h)
       refine E.seq ?_
       refine E.reg hr (by simp; rfl) ?_
       refine E.ret ?_
       exact pureK.ret rfl rfl (by rw [hg, hb2]; simp) hS
     | true =>
       refine E.cond (t := false) (by simp) (fun h => by cases h) (fun _ => ?_)
       refine E.skip ?_
       refine E.reg hr (by simp [hw]; rfl) ?_
       rw [hb2, Bool.true_and] at hg
       exact ⟨i + 1, .keep rfl rfl rfl (by simp) (Sub.refl _), ⟨by omega, hg⟩, by dsimp only; omega⟩
   · refine E.cond (t := false) (by simp [hil]) (fun h => by cases h) (fun _ => ?_)
     refine E.exit ?_
     refine E.seq ?_
     refine E.reg hr (by simp; rfl) ?_
     refine E.ret ?_
     rw [List.drop_of_length_le (by omega), List.all_nil] at hg
     exact pureK.ret rfl rfl (by rw [hg]; simp) hS
end Go.Proofs.YtkongcnmkiihjaaGreatDoor

namespace Go.Proofs.YtkongcnmkiihjaaGreatDoor
open Go Go.Ab Go.Proofs
def Q57 (_ : List Value) (H : Heap) (n : Nat) (v : Value) (H' : Heap) (n' : Nat) : Prop := v = .bool true ∧ H' = H ∧ n' = n
def Q60 (s : ByteArray) (ts : List Trc) (w st : Int) (_ : List Value) (H : Heap) (n : Nat) (v : Value) (H' : Heap) (n' : Nat) : Prop := ∃ u, v = .tuple #[u, iv (corE s ts w st)] ∧ MadeS H n H' n' u (corR s ts w st)
def Q69 (ts : List Trc) (t w win st : Int) (_ : List Value) (H : Heap) (n : Nat) (v : Value) (H' : Heap) (n' : Nat) : Prop := v = semV ts t w win st ∧ H' = H ∧ n' = n
def Q71 (s : ByteArray) (ts : List Trc) (_ : List Value) (H : Heap) (n : Nat) (u : Value) (H' : Heap) (n' : Nat) : Prop := MadeS H n H' n' u (s, ts)
theorem load105 {H : Heap} {n : Nat} {a b c d : Value} (h : hget H n = some (.cells [a, b, c, d] 105)) : cellA H n 0 = some a ∧ cellA H n 1 = some b ∧ cellA H n 2 = some c ∧ cellA H n 3 = some d := by
 refine ⟨?_, ?_, ?_, ?_⟩ <;> (rw [cellA_eq, h]; rfl)
theorem w27g (l : List Int) (o c : Nat) (hl : l.length < 2 ^ 31) : AC Tryz.prog 27 [.slice (some ⟨9, o, none⟩) l.length c] [(9, .inp o (l.map iv))] 10 (iv (firstV l)) [(9, .inp o (l.map iv))] 10 := by
 have hr := recT_ok (P := Tryz.prog) (l := [(94, g94)]) (by simp [ok94])
 have hl' : l.length < 2147483648 := by omega
 have ht : List.take l.length (l.map iv) = l.map iv := List.take_of_length_le (by simp)
 refine AC.pure Tryz.func27 rfl (by kernel_rfl) rfl [] rfl ?_
 refine E.seq ?_
 refine E.reg hr (by simp; rfl) ?_
 refine E.seq ?_
 refine E.reg hr (by simp [g94, intsAt, flat, hl', ht, intsOf_iv]; rfl) ?_
 refine E.ret ?_
 exact pureK.ret rfl rfl (by simp) (by repeat first | exact sub_refl _ | refine sub_cons rfl ?_)
theorem ok27g : EntOk Tryz.prog (27, g94) := by
 intro args H n v H' n' h
 simp only [g94] at h
 split at h
 · rename_i a len c
   rw [Option.map_eq_some_iff] at h
   obtain ⟨l, h1, h⟩ := h
   injection h with e1 e2; injection e2 with e2 e3; subst e1 e2 e3
   obtain ⟨hf, hc, hlen, hlt⟩ := intsAt_ok h1
   subst hlen
   exact AC.liftP rfl (Part.one (fun s => [s]) (by intro φ φ0 s s0 h; simp [denL, h]) (by intro p s h; exact ⟨h, trivial⟩) hf hc (afL_iv l) [] (by simp [Seen]) gsz fun c => ⟨_, _, w27g l _ c hlt⟩)
 · cases h
theorem PM.sb {N t sz k : Nat} {X : Heap} {cs : List Value} (h : PM N X) : PM (N + 1) (outSB N t sz k cs ++ X) ∧ Sub X (outSB N t sz k cs ++ X) := by
 unfold outSB
 split
 · exact ⟨h.wide (Nat.le_succ _), Sub.refl _⟩
 · exact ⟨h.put rfl, h.sub⟩
theorem store_new {H : Heap} {k : Nat} {t : TypeId} {zs cs : List Value} (hl : cs.length = zs.length) : storeA ((k, .cells zs t) :: H) k 0 cs = some ((k, .cells cs t) :: H) := by
 rw [store_all (t := t) (zs := zs) (by rw [hget_cons, if_pos rfl]) hl]
 simp
abbrev vs10 : List Nat := [2, 3, 5, 6, 7, 8, 9, 10, 11, 12, 13, 14, 15, 16, 17]
set_option maxHeartbeats 6400000 in
set_option maxRecDepth 100000 in
theorem w10a {H : Heap} {n : Nat} {s : ByteArray} {ts : List Trc} {l : Value} {tm vl wi st : Int} {Ls : List Nat} (h0 : hget H 0 = some (.inp 0 freeV)) (hR : dR H) (hv : shtV H (.agg ⟨[.string s, l]⟩) = some (s, ts)) (hu : listV 10 decTL H l = some Ls) (hss : s.size ≤ 60) (hLs : Ls.length ≤ 6 ∨ Ls.length = 65) (hsh : Ls.all shortN = true) (hsm : ∀ x ∈ ts, x.smp.length ≤ 1025) : AC Tryz.prog 10 [.agg ⟨[.string s, l]⟩, .agg ⟨[iv tm, iv vl, iv wi, iv st]⟩] H n (.bool true) H n := by
 refine AC.given fun hold hsc hgn => AC.tidied (B := []) (by simp) ?_
 have h9 : 9 ≤ n := gsz ▸ hgn
 replace hv := shtV_tidy (n := n) (fun k b h => (hold k b h).1) hv
 replace hu := listV_tidy (n := n) decTL_tidy (fun k b h => (hold k b h).1) hu
 replace h0 : hget (tidy n H) 0 = some (.inp 0 freeV) := hget_tidy.2 ⟨h0, by omega, rfl⟩
 replace hR : hget (tidy n H) 1 = some (.inp 0 rangesV) := hget_tidy.2 ⟨hR, by omega, rfl⟩
 replace hold : ∀ k b, hget (tidy n H) k = some b → k < n ∧ scB (· < n) b := fun k b h => hold k b (hget_tidy.1 h).1
 have hpm0 : PM n (tidy n H) := PM.tidy
 obtain ⟨T, hT⟩ : ∃ T, tidy n H = T := ⟨_, rfl⟩
 rw [hT] at hv hu h0 hR hold hpm0 ⊢
 have hr := recT_ok (P := Tryz.prog) (l := [(15, g15), (57, gEx Tryz.prog 57 Q57), (59, gEx Tryz.prog 59 (Q59 s ts)), (58, g58), (60, gEx Tryz.prog 60 (Q60 s ts vl st)), (61, g61), (62, g62), (63, g63), (64, g64), (65, g65), (66, g66), (27, g94), (67, g67), (68, gEx Tryz.prog 68 (Q68 s ts vl st)), (69, gEx Tryz.prog 69 (Q69 ts tm vl wi st)), (42, g42b), (71, gEx Tryz.prog 71 (Q71 (corR s ts vl st).1 (corR s ts vl st).2)), (70, gEx Tryz.prog 70 Q57)]) (by simp only [List.forall_mem_cons]; exact ⟨ok15, gEx_ok, gEx_ok, ok58, gEx_ok, ok61, ok62, ok63, ok64, ok65, ok66, ok27g, ok67, gEx_ok, gEx_ok, ok42b, gEx_ok, gEx_ok, by simp⟩)
 have hr0 := recT_ok (P := Tryz.prog) (l := []) (by simp)
 obtain ⟨u, e, ht⟩ := shtV_form hv
 obtain rfl : l = u := by
   injection e with e; injection e with e; injection e with _ e; injection e
 clear e
 obtain ⟨X, hX⟩ : ∃ X, (n + 1, Blk.cells [iv tm, iv vl, iv wi, iv st] 105) :: (n, Blk.cells [.string s, l] 103) :: T = X := ⟨_, rfl⟩
 have hp1 : PM (n + 1) ((n, Blk.cells [.string s, l] 103) :: T) := hpm0.put rfl
 have hpX : PM (n + 2) X := by rw [← hX]; exact hp1.put rfl
 have hTX : Sub T X := by rw [← hX]; exact hpm0.sub.trans hp1.sub
 have hb0 : hget X n = some (.cells [.string s, l] 103) := by rw [← hX, hget_cons, if_neg (by omega), hget_cons, if_pos rfl]
 have hb1 : hget X (n + 1) = some (.cells [iv tm, iv vl, iv wi, iv st] 105) := by rw [← hX, hget_cons, if_pos rfl]
 have hld := load103 hb0
 have h15 : ∀ m, g15 [] X m = some (.bool true, X, m) := fun m => if_pos ⟨rfl, hTX _ _ hR, hTX _ _ h0⟩
 have h57 : ∀ m, m = n + 1 + 1 → gEx Tryz.prog 57 Q57 [.agg ⟨[.string s, l]⟩] X m = some (.bool true, X, m) := fun m hm => by
   have := w57 (H := X) (n := m) (s := s) (listV_mono (dec := decTL) (fun _ _ _ _ _ h => h) hTX hu) hss hLs
   rw [hsh] at this
   obtain ⟨v, H', n', h1, rfl, rfl, rfl⟩ := gEx_at (Q := Q57) ⟨_, _, _, this, rfl, rfl, rfl⟩
   exact h1
 replace h57 := h57 _ rfl
 refine AC.pure Tryz.func10 rfl (by kernel_rfl) rfl vs10 rfl ?_
 refine E.seq ?_
 refine E.reg hr0 (by simp; rfl) ?_
 rw [hX]
 refine E.seq ?_
 refine E.seq ?_
 refine E.reg hr (by simp [-loadA, hld, h15, h57]; rfl) ?_
 refine E.cond (t := false) (by simp) (fun h => by cases h) (fun _ => ?_)
 refine E.skip ?_
 refine E.lead { fr := [(2, ptA n), (3, ptA (n + 1))], sz := 160, H := X, n := n + 2, marks := [], vs := vs10 } (.keep rfl rfl rfl (by simp) (Sub.refl _)) ?_
 have hsm2 : ∀ x ∈ ts, x.smp.length ≤ 1048576 := fun x hx => by have := hsm x hx; omega
 
 obtain ⟨u3, B3, n3, a1, a2, a3, a4, a5, a6, a7⟩ := call59 hold hv hTX hpX (by omega) hsm2
 have hd : ∀ Y, Sub X Y → dR Y := fun Y h => h _ _ (hTX _ _ hR)
 obtain ⟨LV, hLV⟩ : ∃ x, livR s ts tm vl st = x := ⟨_, rfl⟩
 have b1 : g58 [u3, iv tm, iv vl, iv st] (B3 ++ X) n3 = some (.tuple #[outS n3 LV.length, iv (livE s ts tm vl st)], outSB n3 3 1 LV.length (LV.map iv) ++ (B3 ++ X), n3 + 1) := by
   simp only [g58, a7]
   rw [if_pos (hd _ a5), hLV]
 have hcs0 : cellsA X n 0 2 = some [.string s, l] := by rw [cellsA_eq, hb0]; rfl
 obtain ⟨p3, q3⟩ := PM.sb a4 (t := 3) (sz := 1) (k := LV.length) (cs := LV.map iv)
 have hp3n := p3.nm
 have hXn := hpX.nm
 have hXp := hpX.pl
 obtain ⟨f0, f1, f2, f3⟩ := load105 (a5 _ _ hb1)
 refine E.seq ?_
 refine E.drawU mixed hr [8] [1, 8] [0, 1, 8] (by kernel_rfl) (by simp [-cellA, -cellsA, -readA, cellA_read, cellsA_read, hXn, hXp, hcs0, a1, a2, a3, f0, f1, f3, b1, hp3n, a6]; rfl) ?_
 obtain ⟨Y3, hY3⟩ : ∃ Y, outSB n3 3 1 LV.length (LV.map iv) ++ (B3 ++ X) = Y := ⟨_, rfl⟩
 rw [hY3] at p3 q3 ⊢
 have hXY3 := a5.trans q3
 have hlv3 : LV ≠ [] → hget Y3 n3 = some (.ext (LV.map iv) 3 1) := fun h => by
   rw [← hY3, outSB, if_neg fun e => h (List.length_eq_zero_iff.1 e)]
   simp
 clear a1 a2 a3 a4 a5 a7 b1 hp3n f0 f1 f2 f3
 obtain ⟨e5, he5⟩ : ∃ e, livE s ts tm vl st = e := ⟨_, rfl⟩
 rw [he5]
 refine E.lead { fr := [(2, ptA n), (3, ptA (n + 1)), (5, outS n3 LV.length), (6, iv e5)], sz := 160, H := Y3, n := n3 + 1, marks := [], vs := vs10 } (.keep rfl rfl rfl (by simp) (Sub.refl _)) ?_
 
 obtain ⟨u4, B4, n4, a1, a2, a3, a4, a5, a8, a7⟩ := call59 hold hv (hTX.trans hXY3) p3 (by omega) hsm2
 have hfd : ∀ Y, Sub X Y → dR (frzH Y) := fun Y h => by
   show hget (frzH Y) 1 = _
   rw [hget_frz, hd Y h]; rfl
 have hfl : ∀ {N : Nat} {Y : Heap}, PM N Y → ∀ k b, hget (frzH Y) k = some b → k < N := fun hm k b hk => by
   rw [hget_frz, Option.map_eq_some_iff] at hk
   obtain ⟨b', hk, _⟩ := hk
   exact hm.lt _ _ hk
 obtain ⟨v5, H5, n5, b1, u5, rfl, b2⟩ := gEx_at (Q := Q60 s ts vl st) (by
   obtain ⟨u, H', n', h1, h2⟩ := w60 (H := frzH (B4 ++ Y3)) (n := n4) (v := u4) (w := vl) (st := st) (hfd _ (hXY3.trans a5)) (by rw [shtV_frz]; exact a7) (hfl a4) (by omega)
   exact ⟨_, _, _, h1, u, rfl, h2⟩)
 obtain ⟨B5, rfl, c2, c3, c4, c5, c6, c7⟩ := MadeS.late a4 b2
 obtain ⟨e7, he7⟩ : ∃ e, corE s ts vl st = e := ⟨_, rfl⟩
 rw [he7] at b1
 obtain ⟨R, hRr⟩ : ∃ x, corR s ts vl st = x := ⟨_, rfl⟩
 rw [hRr] at c7
 obtain ⟨s5, t5⟩ := R
 obtain ⟨l5, rfl, ht5⟩ := shtV_form c7
 obtain ⟨oa5, ca5, rfl, _, _, _⟩ := trcV_form ht5
 obtain ⟨p4, q4⟩ : PM (n5 + 1) ((n5, Blk.cells [.string s5, .slice oa5 t5.length ca5] 110) :: (B5 ++ (B4 ++ Y3))) ∧ Sub (B5 ++ (B4 ++ Y3)) ((n5, Blk.cells [.string s5, .slice oa5 t5.length ca5] 110) :: (B5 ++ (B4 ++ Y3))) := ⟨c4.put rfl, c4.sub⟩
 have hst4 : storeA ((n5, .cells [.string ⟨#[]⟩, .slice none 0 0] 110) :: (B5 ++ (B4 ++ Y3))) n5 0 [.string s5, .slice oa5 t5.length ca5] = some ((n5, .cells [.string s5, .slice oa5 t5.length ca5] 110) :: (B5 ++ (B4 ++ Y3))) := store_new rfl
 have hc4n := (c4.wide (Nat.le_succ _)).nm
 have hp3n := p3.nm
 have hp3p := p3.pl
 have ha4p := a4.pl
 have hp4n := p4.nm
 have hcs3 : cellsA Y3 n 0 2 = some [.string s, l] := by rw [cellsA_eq, hXY3 _ _ hb0]; rfl
 obtain ⟨f0, f1, f2, f3⟩ := load105 (a5 _ _ (hXY3 _ _ hb1))
 obtain ⟨g0, g1, g2, g3⟩ := load105 (hXY3 _ _ hb1)
 have hl1 : n < n3 + 1 := by omega
 have hl2 : n + 1 < n3 + 1 := by omega
 refine E.seq ?_
 refine E.drawU mixed hr [11] [1, 6, 10, 11] [0, 1, 6, 11] (by kernel_rfl) (by simp [-cellA, -cellsA, -readA, -storeA, cellA_read, cellsA_read, handA_nn, hp3n, hp3p, ha4p, hcs3, a1, a2, a3, a8, f1, f3, b1, c2, c3, c6, hl1, hl2, hst4, hc4n]; rfl) ?_
 obtain ⟨Y4, hY4⟩ : ∃ Y, (n5, Blk.cells [.string s5, .slice oa5 t5.length ca5] 110) :: (B5 ++ (B4 ++ Y3)) = Y := ⟨_, rfl⟩
 have h5b : hget Y4 n5 = some (.cells [.string s5, .slice oa5 t5.length ca5] 110) := by rw [← hY4, hget_cons, if_pos rfl]
 rw [hY4] at p4 q4 ⊢
 have hY34 : Sub Y3 Y4 := a5.trans (c5.trans q4)
 have hXY4 := hXY3.trans hY34
 have hvw5 : shtV Y4 (.agg ⟨[.string s5, .slice oa5 t5.length ca5]⟩) = some (s5, t5) := shtV_mono q4 c7
 clear a1 a2 a3 a4 a5 a7 b1 b2 c2 c3 c4 c5 c7 hst4 hp3n hp3p ha4p hp4n hc4n f0 f1 f2 f3 g0 g1 g2 g3 hl1 hl2 ht5
 refine E.lead { fr := [(2, ptA n), (3, ptA (n + 1)), (5, outS n3 LV.length), (6, iv e5), (7, ptA n5), (8, iv e7)], sz := 160, H := Y4, n := n5 + 1, marks := [], vs := vs10 } (.keep rfl rfl rfl (by simp) (Sub.refl _)) ?_
 
 obtain ⟨u6, B6, n6, a1, a2, a3, a4, a5, a9, a7⟩ := call59 hold hv (hTX.trans hXY4) p4 (by omega) hsm2
 obtain ⟨e9, he9⟩ : ∃ e, semE s ts tm vl wi st = e := ⟨_, rfl⟩
 obtain ⟨sa, sb, hsem⟩ : ∃ a b, semR s ts tm vl wi st = .agg ⟨[iv a, iv b]⟩ := by
   unfold semR
   split
   · exact semV_form _ _ _ _ _
   · exact ⟨_, _, rfl⟩
 have b1 : ∀ m, g61 [u6, iv tm, iv vl, iv wi, iv st] (frzH (B6 ++ Y4)) m = some (.tuple #[.agg ⟨[iv sa, iv sb]⟩, iv e9], frzH (B6 ++ Y4), m) := fun m => by
   simp only [g61, shtV_frz, a7]
   rw [if_pos (hfd _ (hXY4.trans a5)), hsem, he9]
 obtain ⟨p5, q5⟩ : PM (n6 + 1) ((n6, Blk.cells [iv sa, iv sb] 96) :: (B6 ++ Y4)) ∧ Sub (B6 ++ Y4) ((n6, Blk.cells [iv sa, iv sb] 96) :: (B6 ++ Y4)) := ⟨a4.put rfl, a4.sub⟩
 have hst5 : storeA ((n6, .cells [iv 0, iv 0] 96) :: (B6 ++ Y4)) n6 0 [iv sa, iv sb] = some ((n6, .cells [iv sa, iv sb] 96) :: (B6 ++ Y4)) := store_new rfl
 have hc5n := (a4.wide (Nat.le_succ _)).nm
 have hp4n := p4.nm
 have hp4p := p4.pl
 have ha4p := a4.pl
 have ha4t := takeNew_frz a4.nm
 have hp5n := p5.nm
 have hcs4 : cellsA Y4 n 0 2 = some [.string s, l] := by rw [cellsA_eq, hXY4 _ _ hb0]; rfl
 obtain ⟨f0, f1, f2, f3⟩ := load105 (a5 _ _ (hXY4 _ _ hb1))
 obtain ⟨g0, g1, g2, g3⟩ := load105 (hXY4 _ _ hb1)
 have hl1 : n < n5 + 1 := by omega
 have hl2 : n + 1 < n5 + 1 := by omega
 refine E.seq ?_
 refine E.drawU mixed hr [15] [1, 10, 14, 15] [0, 1, 10, 15] (by kernel_rfl) (by simp [-cellA, -cellsA, -readA, -storeA, cellA_read, cellsA_read, handA_nn, hp4n, hp4p, ha4p, ha4t, hcs4, a1, a2, a3, a9, f0, f1, f2, f3, b1, hl1, hl2, hst5, hc5n]; rfl) ?_
 obtain ⟨Y5, hY5⟩ : ∃ Y, (n6, Blk.cells [iv sa, iv sb] 96) :: (B6 ++ Y4) = Y := ⟨_, rfl⟩
 have h6b : hget Y5 n6 = some (.cells [iv sa, iv sb] 96) := by rw [← hY5, hget_cons, if_pos rfl]
 rw [hY5] at p5 q5 ⊢
 have hY45 : Sub Y4 Y5 := a5.trans q5
 have hXY5 := hXY4.trans hY45
 have hvw6 := shtV_mono hY45 hvw5
 have h5c := hY45 _ _ h5b
 have hlv5 : LV ≠ [] → hget Y5 n3 = some (.ext (LV.map iv) 3 1) := fun h => hY45 _ _ (hY34 _ _ (hlv3 h))
 clear a1 a2 a3 a4 a5 a7 b1 hst5 hc5n hp4n hp4p ha4p ha4t hp5n f0 f1 f2 f3 g0 g1 g2 g3 hl1 hl2
 refine E.lead { fr := [(2, ptA n), (3, ptA (n + 1)), (5, outS n3 LV.length), (6, iv e5), (7, ptA n5), (8, iv e7), (9, ptA n6), (10, iv e9)], sz := 160, H := Y5, n := n6 + 1, marks := [], vs := vs10 } (.keep rfl rfl rfl (by simp) (Sub.refl _)) ?_
 
 have hv5 := shtV_mono (hTX.trans hXY5) hv
 have hld5 := load103 (hXY5 _ _ hb0)
 obtain ⟨e0, he0⟩ : ∃ e, shtE s ts = e := ⟨_, rfl⟩
 have h62 : ∀ m, g62 [.agg ⟨[.string s, l]⟩] Y5 m = some (iv e0, Y5, m) := fun m => by
   simp only [g62, hv5, he0]
 refine E.seq ?_
 refine E.reg hr (by simp [-loadA, hld5, h62]; rfl) ?_
 refine E.seq ?_
 refine E.reg hr0 (by simp; rfl) ?_
 have hz5 : e0 ≠ 0 → e5 = e0 ∧ e7 = e0 ∧ e9 = e0 := fun h => by
   rw [← he5, ← he7, ← he9]
   unfold livE corE semE
   rw [he0]
   simp [firstV, h]
 have hok : e0 = 0 → OkS ts := fun h => shtE_ok (s := s) (by rw [he0]; exact h)
 obtain ⟨wt, hwt⟩ : ∃ e, withinV tm 0 ((widF ts).1 - 1) = e := ⟨_, rfl⟩
 obtain ⟨wv, hwv⟩ : ∃ e, velV vl = e := ⟨_, rfl⟩
 obtain ⟨ws, hws⟩ : ∃ e, withinV st 0 1024 = e := ⟨_, rfl⟩
 obtain ⟨ww, hww⟩ : ∃ e, withinV wi 0 16 = e := ⟨_, rfl⟩
 have hy5 : e0 = 0 → e5 = firstV [wt, wv, ws] ∧ e7 = firstV [wv, ws] ∧ e9 = firstV [wt, wv, ww, ws] := fun h => by
   have hw : widE s ts = (widF ts).1 := by unfold widE; rw [he0, if_pos h]
   rw [← he5, ← he7, ← he9]
   unfold livE corE semE
   rw [he0, hw, hwt, hwv, hws, hww, h]
   simp [firstV]
 refine E.cutG (α := Heap × Nat) (fun x => { fr := [(2, ptA n), (3, ptA (n + 1)), (5, outS n3 LV.length), (6, iv e5), (7, ptA n5), (8, iv e7), (9, ptA n6), (10, iv e9), (11, iv e0), (12, iv e5), (13, iv e7), (14, iv e9)], sz := 160, H := x.1, n := x.2, marks := [], vs := vs10 }) (fun x => PM x.2 x.1 ∧ Sub Y5 x.1 ∧ n6 + 1 ≤ x.2) ?_ ?_
 · refine E.seq ?_
   refine E.reg hr0 (by simp; rfl) ?_
   by_cases hz : e0 = 0
   · obtain ⟨g5, g7, g9⟩ := hy5 hz
     refine E.cond (t := true) (by simp [hz]) (fun _ => ?_) (fun h => by cases h)
     have hp5n := p5.nm
     have hp5p := p5.pl
     have ht5 := takeNew_frz hp5n
     have hcs5 : cellsA Y5 n 0 2 = some [.string s, l] := by rw [cellsA_eq, hXY5 _ _ hb0]; rfl
     obtain ⟨f0, f1, f2, f3⟩ := load105 (hXY5 _ _ hb1)
     have hl1 : n < n6 + 1 := by omega
     have hl2 : n + 1 < n6 + 1 := by omega
     have hw0 := (hok hz).w0
     have h63 : ∀ m, g63 [.agg ⟨[.string s, l]⟩, iv tm] (frzH Y5) m = some (iv wt, frzH Y5, m) := fun m => by
       simp only [g63, shtV_frz, hv5]
       rw [if_pos ⟨by omega, by omega⟩, hwt]
     have h64 : ∀ Y m, g64 [iv vl] Y m = some (iv wv, Y, m) := fun _ _ => by rw [← hwv]; rfl
     have h65 : ∀ Y m, g65 [iv st] Y m = some (iv ws, Y, m) := fun _ _ => by rw [← hws]; rfl
     have h66 : ∀ Y m, g66 [iv wi] Y m = some (iv ww, Y, m) := fun _ _ => by rw [← hww]; rfl
     have i9 : ∀ (N : Nat) (Y : Heap) m, g94 [.slice (some ⟨N, 0, none⟩) 3 3] ((N, .cells [iv wt, iv wv, iv ws] 3) :: Y) m = some (iv e5, (N, .cells [iv wt, iv wv, iv ws] 3) :: Y, m) := fun N Y m => by
       simp [g94, intsAt, intsOf, g5]
     have i10 : ∀ (N : Nat) (Y : Heap) m, g94 [.slice (some ⟨N, 0, none⟩) 2 2] ((N, .cells [iv wv, iv ws] 3) :: Y) m = some (iv e7, (N, .cells [iv wv, iv ws] 3) :: Y, m) := fun N Y m => by
       simp [g94, intsAt, intsOf, g7]
     have i11 : ∀ (N : Nat) (Y : Heap) m, g94 [.slice (some ⟨N, 0, none⟩) 4 4] ((N, .cells [iv wt, iv wv, iv ww, iv ws] 3) :: Y) m = some (iv e9, (N, .cells [iv wt, iv wv, iv ww, iv ws] 3) :: Y, m) := fun N Y m => by
       simp [g94, intsAt, intsOf, g9]
     refine E.seq ?_
     have hp5n1 := (p5.wide (Nat.le_succ _)).nm
     refine E.drawU mixed hr [9, 10, 11] [3, 6, 9, 10, 11] [0, 2, 3, 6, 9, 10, 11] (by kernel_rfl) (by simp [-cellA, -cellsA, -readA, cellA_read, cellsA_read, hp5n, hp5n1, hp5p, ht5, hcs5, f0, f1, f3, hl1, hl2, h63, h64, h65, i9]; rfl) ?_
     obtain ⟨Y9, hY9⟩ : ∃ Y, (n6 + 1, Blk.cells [iv wt, iv wv, iv ws] 3) :: Y5 = Y := ⟨_, rfl⟩
     have p9 : PM (n6 + 2) Y9 := by rw [← hY9]; exact p5.put rfl
     have hY59 : Sub Y5 Y9 := by rw [← hY9]; exact p5.sub
     refine E.lead { fr := [(2, ptA n), (3, ptA (n + 1)), (5, outS n3 LV.length), (6, iv e5), (7, ptA n5), (8, iv e7), (9, ptA n6), (10, iv e9), (11, iv e0), (12, iv e5), (13, iv e0), (14, iv e0)], sz := 160, H := Y9, n := n6 + 2, marks := [], vs := vs10 } (.keep rfl rfl rfl (by simp) (by rw [← hY9]; exact Sub.refl _)) ?_
     have p9n := p9.nm
     have p9p := p9.pl
     have p9t := takeNew_frz p9n
     have p9n1 := (p9.wide (Nat.le_succ _)).nm
     obtain ⟨x0, x1, x2, x3⟩ := load105 (hY59 _ _ (hXY5 _ _ hb1))
     have hl3 : n + 1 < n6 + 2 := by omega
     refine E.seq ?_
     refine E.drawU mixed hr [5, 6, 7] [2, 5, 6, 7] [1, 2, 5, 6, 7] (by kernel_rfl) (by simp [-cellA, -cellsA, -readA, cellA_read, p9n, p9n1, p9p, p9t, x1, x3, hl3, h64, h65, i10]; rfl) ?_
     obtain ⟨Ya, hYa⟩ : ∃ Y, (n6 + 2, Blk.cells [iv wv, iv ws] 3) :: Y9 = Y := ⟨_, rfl⟩
     have pa : PM (n6 + 3) Ya := by rw [← hYa]; exact p9.put rfl
     have hY9a : Sub Y9 Ya := by rw [← hYa]; exact p9.sub
     have hY5a := hY59.trans hY9a
     refine E.lead { fr := [(2, ptA n), (3, ptA (n + 1)), (5, outS n3 LV.length), (6, iv e5), (7, ptA n5), (8, iv e7), (9, ptA n6), (10, iv e9), (11, iv e0), (12, iv e5), (13, iv e7), (14, iv e0)], sz := 160, H := Ya, n := n6 + 3, marks := [], vs := vs10 } (.keep rfl rfl rfl (by simp) (by rw [← hYa]; exact Sub.refl _)) ?_
     have pan := pa.nm
     have pap := pa.pl
     have pat := takeNew_frz pan
     have pan1 := (pa.wide (Nat.le_succ _)).nm
     obtain ⟨x0, x1, x2, x3⟩ := load105 (hY5a _ _ (hXY5 _ _ hb1))
     have hcsa : cellsA Ya n 0 2 = some [.string s, l] := by rw [cellsA_eq, hY5a _ _ (hXY5 _ _ hb0)]; rfl
     have hva := shtV_mono hY5a hv5
     have h63a : ∀ m, g63 [.agg ⟨[.string s, l]⟩, iv tm] (frzH Ya) m = some (iv wt, frzH Ya, m) := fun m => by
       simp only [g63, shtV_frz, hva]
       rw [if_pos ⟨by omega, by omega⟩, hwt]
     have hl4 : n + 1 < n6 + 3 := by omega
     have hl5 : n < n6 + 3 := by omega
     refine E.drawU mixed hr [12, 13, 14] [3, 6, 9, 12, 13, 14] [0, 2, 3, 6, 9, 12, 13, 14] (by kernel_rfl) (by simp [-cellA, -cellsA, -readA, cellA_read, cellsA_read, pan, pan1, pap, pat, hcsa, x0, x1, x2, x3, hl4, hl5, h63a, h64, h65, h66, i11]; rfl) ?_
     exact ⟨(_, n6 + 4), ⟨pa.put (b := .cells [iv wt, iv wv, iv ww, iv ws] 3) rfl, hY5a.trans pa.sub, by dsimp only; omega⟩, .keep rfl rfl rfl (by simp) (Sub.refl _)⟩
   · obtain ⟨g5, g7, g9⟩ := hz5 hz
     refine E.cond (t := false) (by simp [hz]) (fun h => by cases h) (fun _ => ?_)
     refine E.skip ?_
     exact ⟨(Y5, n6 + 1), ⟨p5, Sub.refl _, Nat.le_refl _⟩, .keep rfl rfl rfl (by simp [g5, g7, g9]) (Sub.refl _)⟩
 rintro ⟨Y8, n8⟩ ⟨p8, hY58, hn8⟩
 dsimp only at p8 hY58 hn8 ⊢
 have hXY8 := hXY5.trans hY58
 refine E.seq ?_
 refine E.reg hr0 (by simp; rfl) ?_
 refine E.seq ?_
 refine E.reg hr0 (by simp; rfl) ?_
 refine E.seq ?_
 refine E.reg hr0 (by simp; rfl) ?_
 obtain ⟨Yb, hYb⟩ : ∃ Y, (n8 + 1, Blk.cells [iv 0, iv 0] 96) :: (n8, .cells [.string ⟨#[]⟩, .slice none 0 0] 103) :: Y8 = Y := ⟨_, rfl⟩
 have p8' : PM (n8 + 1) ((n8, Blk.cells [.string ⟨#[]⟩, .slice none 0 0] 103) :: Y8) := p8.put rfl
 have pb : PM (n8 + 2) Yb := by rw [← hYb]; exact p8'.put rfl
 have hY8b : Sub Y8 Yb := by rw [← hYb]; exact p8.sub.trans p8'.sub
 have kb0 : hget Yb n8 = some (.cells [.string ⟨#[]⟩, .slice none 0 0] 103) := by rw [← hYb, hget_cons, if_neg (by omega), hget_cons, if_pos rfl]
 have kb1 : hget Yb (n8 + 1) = some (.cells [iv 0, iv 0] 96) := by rw [← hYb, hget_cons, if_pos rfl]
 have hXYb := hXY8.trans hY8b
 rw [hYb]
 have hldb := load103 (hXYb _ _ hb0)
 have hvb := shtV_mono (hTX.trans hXYb) hv
 obtain ⟨x0, x1, x2, x3⟩ := load105 (hXYb _ _ hb1)
 have hLVlen : LV.length ≤ ts.length := by
   rw [← hLV]
   unfold livR
   split
   · exact livL_len _ _ _ _ _
   · exact Nat.zero_le _
 have hLs31 : ts.length < 2147483648 := by
   obtain ⟨_, _, _, h, _⟩ := trcV_form ht
   exact h
 have hLV5 : e5 = 0 → LV = livL ts tm vl st ts.length := fun h => by
   rw [← hLV]; unfold livR; rw [he5, if_pos h]
 have hLVn : e5 ≠ 0 → LV = [] := fun h => by
   rw [← hLV]; unfold livR; rw [he5, if_neg h]
 have hz0 : e5 = 0 → e0 = 0 := fun h => (first4 (he5.trans h)).1 ▸ he0.symm
 have hvlr : e5 = 0 → hdsOk ts ∧ (0 ≤ tm ∧ tm ≤ 1024) ∧ (1 ≤ vl ∧ vl ≤ 1000000000) ∧ 0 ≤ st ∧ st ≤ 1024 := fun h => by
   have h1 := first4 (he5.trans h)
   have hok' := hok (hz0 h)
   have hw : widE s ts = (widF ts).1 := by unfold widE; rw [h1.1, if_pos rfl]
   rw [hw] at h1
   have g1 := within_zero h1.2.1
   have g2 : 1 ≤ vl ∧ vl ≤ 1000000000 := within_zero h1.2.2.1
   have g3 := within_zero h1.2.2.2
   have := hok'.w0
   exact ⟨hok'.hd, ⟨by omega, by omega⟩, g2, g3⟩
 refine E.cutG (α := Heap × Nat) (fun x => { fr := [(2, ptA n), (3, ptA (n + 1)), (5, outS n3 LV.length), (6, iv e5), (7, ptA n5), (8, iv e7), (9, ptA n6), (10, iv e9), (11, iv e0), (12, iv e5), (13, iv e7), (14, iv e9), (15, outS (n8 + 2) LV.length), (16, ptA n8), (17, ptA (n8 + 1))], sz := 160, H := x.1, n := x.2, marks := [], vs := vs10 }) (fun x => PM x.2 x.1 ∧ Sub Yb x.1 ∧ n8 + 2 ≤ x.2 ∧ (LV ≠ [] → hget x.1 (n8 + 2) = some (.ext (LV.map iv) 3 1))) ?_ ?_
 · refine E.seq ?_
   refine E.reg hr0 (by simp; rfl) ?_
   by_cases hz : e5 = 0
   · have h67 : ∀ m, g67 [.agg ⟨[.string s, l]⟩, iv tm, iv vl, iv st] Yb m = some (outS m LV.length, outSB m 3 1 LV.length (LV.map iv) ++ Yb, m + 1) := fun m => by
       simp only [g67, hvb]
       rw [if_pos (hvlr hz), ← hLV5 hz]
     have y0 : loadA Tryz.prog 3 Yb (.pointer (some ⟨n + 1, 0, none⟩)) = some (iv tm) := by simp [-cellA, x0]
     have y1 : loadA Tryz.prog 3 Yb (.pointer (some ⟨n + 1, 1, none⟩)) = some (iv vl) := by simp [-cellA, x1]
     have y3 : loadA Tryz.prog 3 Yb (.pointer (some ⟨n + 1, 3, none⟩)) = some (iv st) := by simp [-cellA, x3]
     refine E.cond (t := true) (by simp [hz]) (fun _ => ?_) (fun h => by cases h)
     refine E.reg hr (by simp [-loadA, hldb, y0, y1, y3, h67]; rfl) ?_
     obtain ⟨p1, q1⟩ := PM.sb pb (t := 3) (sz := 1) (k := LV.length) (cs := LV.map iv)
     refine ⟨(outSB (n8 + 2) 3 1 LV.length (LV.map iv) ++ Yb, n8 + 3), ⟨p1, q1, by dsimp only; omega, fun h => ?_⟩, .keep rfl rfl rfl (by simp) (Sub.refl _)⟩
     dsimp only
     rw [outSB, if_neg fun e => h (List.length_eq_zero_iff.1 e)]
     simp
   · have h0 := hLVn hz
     refine E.cond (t := false) (by simp [hz]) (fun h => by cases h) (fun _ => ?_)
     refine E.skip ?_
     refine ⟨(Yb, n8 + 2), ⟨pb, Sub.refl _, Nat.le_refl _, fun h => absurd h0 h⟩, .keep rfl rfl rfl ?_ (Sub.refl _)⟩
     rw [h0]
     simp [outS]
 rintro ⟨Yc, nc⟩ ⟨pc, hYbc, hnc, hlvc⟩
 dsimp only at pc hYbc hnc hlvc ⊢
 have hXYc := hXYb.trans hYbc
 have hldc := load103 (hXYc _ _ hb0)
 have hvc := shtV_mono (hTX.trans hXYc) hv
 obtain ⟨x0, x1, x2, x3⟩ := load105 (hXYc _ _ hb1)
 have y1 : loadA Tryz.prog 3 Yc (.pointer (some ⟨n + 1, 1, none⟩)) = some (iv vl) := by simp [-cellA, x1]
 have y3 : loadA Tryz.prog 3 Yc (.pointer (some ⟨n + 1, 3, none⟩)) = some (iv st) := by simp [-cellA, x3]
 have hc0 := hYbc _ _ kb0
 have hc1 := hYbc _ _ kb1
 have hRd : corR s ts vl st = if e7 = 0 then (s, corG ts vl st (widN ts) (dn (widN ts) 0)) else (⟨#[]⟩, []) := by rw [← he7]; rfl
 rw [hRr] at hRd
 refine E.cutG (α := Heap × Nat) (fun x => { fr := [(2, ptA n), (3, ptA (n + 1)), (5, outS n3 LV.length), (6, iv e5), (7, ptA n5), (8, iv e7), (9, ptA n6), (10, iv e9), (11, iv e0), (12, iv e5), (13, iv e7), (14, iv e9), (15, outS (n8 + 2) LV.length), (16, ptA n8), (17, ptA (n8 + 1))], sz := 160, H := x.1, n := x.2, marks := [], vs := vs10 }) (fun x => PM x.2 x.1 ∧ Sub Y8 x.1 ∧ nc ≤ x.2 ∧ (LV ≠ [] → hget x.1 (n8 + 2) = some (.ext (LV.map iv) 3 1)) ∧ (∃ l16 us, hget x.1 n8 = some (.cells [.string s5, l16] 103) ∧ (∀ G, (∀ k b, n8 + 2 ≤ k → plainB2 b = true → hget x.1 k = some b → hget G k = some b) → shtV G (.agg ⟨[.string s5, l16]⟩) = some (s5, us)) ∧ sameG t5 us) ∧ hget x.1 (n8 + 1) = some (.cells [iv 0, iv 0] 96)) ?_ ?_
 · refine E.seq ?_
   refine E.reg hr0 (by simp; rfl) ?_
   by_cases hz : e7 = 0
   · rw [if_pos hz] at hRd
     injection hRd with r1 r2
     have h3 := firstc (he7.trans hz)
     have hok' := hok (he0.symm.trans h3.1)
     have g2 : 1 ≤ vl ∧ vl ≤ 1000000000 := within_zero h3.2.1
     have g3 := within_zero h3.2.2
     obtain ⟨u8, H8, m8, b1, b2, kb8, rs8, o8, b3, b4⟩ := gEx_at (Q := Q68 s ts vl st) (w68 (n := nc) hvc hok' g2 g3 pc.lt)
     obtain ⟨c1, c2, c3, c4⟩ := MadeS.alone pc b2
     have hsb : ∀ G, (∀ k b, n8 + 2 ≤ k → plainB2 b = true → hget (hset H8 n8 (.cells [.string s, outS o8 (refG ts vl st (dn (widN ts) 0)).length] 103)) k = some b → hget G k = some b) → shtV G (.agg ⟨[.string s, outrV true o8 (refG ts vl st (dn (widN ts) 0)).length]⟩) = some (s, refG ts vl st (dn (widN ts) 0)) := fun G hG => shtV_mk (b4.view (G := G) (fun k b hk hp hg => hG k b (by omega) hp (by rw [hget_hset, if_neg (by omega)]; exact hg)) (by rw [refG_len]; exact hLs31) (fun x hx => by
       obtain ⟨i, hi, rfl⟩ := List.getElem_of_mem hx
       rw [refG_len] at hi
       have := refG_at (w := vl) (st := st) (d := dn (widN ts) 0) (List.getElem?_eq_getElem hi)
       rw [List.getElem?_eq_getElem (by rw [refG_len]; exact hi)] at this
       injection this with this
       rw [this]
       have := hsm _ (List.getElem_mem hi)
       dsimp only
       rw [List.length_mapIdx]; omega))
     obtain ⟨v8, hv8⟩ : ∃ v, outS o8 (refG ts vl st (dn (widN ts) 0)).length = v := ⟨_, rfl⟩
     have b3' : u8 = .agg ⟨[.string s, v8]⟩ := by rw [b3, ← hv8]; rfl
     have hone : oneL [Value.string s, v8] = true := by
       rw [← hv8]
       unfold outS
       split <;> rfl
     subst b3'
     rw [show outrV true o8 (refG ts vl st (dn (widN ts) 0)).length = v8 from hv8, hv8] at hsb
     have hst := store_all (cs := [.string s, v8]) (c2 _ _ hc0) rfl
     refine E.cond (t := true) (by simp [hz]) (fun _ => ?_) (fun h => by cases h)
     refine E.reg hr (by simp [-loadA, -storeA, -oneL, hldc, y1, y3, b1, hst, hone]; rfl) ?_
     refine ⟨(_, m8), ⟨c1.set rfl, sub_hset (hY8b.trans (hYbc.trans c2)) (p8.new _ (Nat.le_refl _)), c3, fun h => ?_, ⟨v8, refG ts vl st (dn (widN ts) 0), ?_, ?_, ?_⟩, ?_⟩, .keep rfl rfl rfl (by simp) (Sub.refl _)⟩
     · dsimp only
       rw [hget_hset, if_neg (by omega)]; exact c2 _ _ (hlvc h)
     · dsimp only
       rw [hget_hset, if_pos rfl, c2 _ _ hc0, r1]; rfl
     · rw [r1]; exact hsb
     · rw [r2]; exact cor_same hok' vl st
     · dsimp only
       rw [hget_hset, if_neg (by omega)]; exact c2 _ _ hc1
   · rw [if_neg hz] at hRd
     injection hRd with r1 r2
     refine E.cond (t := false) (by simp [hz]) (fun h => by cases h) (fun _ => ?_)
     refine E.skip ?_
     refine ⟨(Yc, nc), ⟨pc, hY8b.trans hYbc, Nat.le_refl _, hlvc, ⟨.slice none 0 0, [], by rw [r1]; exact hc0, fun G _ => by rw [r1]; rfl, by rw [r2]; exact ⟨rfl, fun i x y h => by simp at h⟩⟩, hc1⟩, .keep rfl rfl rfl (by simp) (Sub.refl _)⟩
 rintro ⟨Yd, nd⟩ ⟨pd, hY8d, hnd, hlvd, ⟨l16, us, kd0, hvd16, hsame⟩, kd1⟩
 dsimp only at pd hY8d hnd hlvd kd0 hvd16 kd1 ⊢
 have hXYd := hXY8.trans hY8d
 have hldd := load103 (hXYd _ _ hb0)
 have hvd := shtV_mono (hTX.trans hXYd) hv
 obtain ⟨x0, x1, x2, x3⟩ := load105 (hXYd _ _ hb1)
 have y0 : loadA Tryz.prog 3 Yd (.pointer (some ⟨n + 1, 0, none⟩)) = some (iv tm) := by simp [-cellA, x0]
 have y1 : loadA Tryz.prog 3 Yd (.pointer (some ⟨n + 1, 1, none⟩)) = some (iv vl) := by simp [-cellA, x1]
 have y2 : loadA Tryz.prog 3 Yd (.pointer (some ⟨n + 1, 2, none⟩)) = some (iv wi) := by simp [-cellA, x2]
 have y3 : loadA Tryz.prog 3 Yd (.pointer (some ⟨n + 1, 3, none⟩)) = some (iv st) := by simp [-cellA, x3]
 have hsR : semR s ts tm vl wi st = if e9 = 0 then semV ts tm vl wi st else .agg ⟨[iv 0, iv 0]⟩ := by rw [← he9]; rfl
 rw [hsem] at hsR
 refine E.cutG (α := Heap × Nat) (fun x => { fr := [(2, ptA n), (3, ptA (n + 1)), (5, outS n3 LV.length), (6, iv e5), (7, ptA n5), (8, iv e7), (9, ptA n6), (10, iv e9), (11, iv e0), (12, iv e5), (13, iv e7), (14, iv e9), (15, outS (n8 + 2) LV.length), (16, ptA n8), (17, ptA (n8 + 1))], sz := 160, H := x.1, n := x.2, marks := [], vs := vs10 }) (fun x => PM x.2 x.1 ∧ Sub Y8 x.1 ∧ n8 + 2 ≤ x.2 ∧ (LV ≠ [] → hget x.1 (n8 + 2) = some (.ext (LV.map iv) 3 1)) ∧ hget x.1 n8 = some (.cells [.string s5, l16] 103) ∧ shtV x.1 (.agg ⟨[.string s5, l16]⟩) = some (s5, us) ∧ hget x.1 (n8 + 1) = some (.cells [iv sa, iv sb] 96)) ?_ ?_
 · refine E.seq ?_
   refine E.reg hr0 (by simp; rfl) ?_
   by_cases hz : e9 = 0
   · rw [if_pos hz] at hsR
     have h5 := first5 (he9.trans hz)
     have hok' := hok (he0.symm.trans h5.1)
     have hw : widE s ts = (widF ts).1 := by unfold widE; rw [h5.1, if_pos rfl]
     rw [hw] at h5
     have g1 := within_zero h5.2.1
     have g2 : 1 ≤ vl ∧ vl ≤ 1000000000 := within_zero h5.2.2.1
     have g3 := within_zero h5.2.2.2.1
     have g4 := within_zero h5.2.2.2.2
     have h69 : gEx Tryz.prog 69 (Q69 ts tm vl wi st) [.agg ⟨[.string s, l]⟩, iv tm, iv vl, iv wi, iv st] Yd nd = some (.agg ⟨[iv sa, iv sb]⟩, Yd, nd) := by
       obtain ⟨v, H', n', k1, rfl, rfl, rfl⟩ := gEx_at (Q := Q69 ts tm vl wi st) ⟨_, _, _, w69 (n := nd) hvd hok' g1 g2 g3 g4, rfl, rfl, rfl⟩
       rw [hsR]
       exact k1
     have hst := store_all (cs := [iv sa, iv sb]) kd1 rfl
     refine E.cond (t := true) (by simp [hz]) (fun _ => ?_) (fun h => by cases h)
     refine E.reg hr (by simp [-loadA, -storeA, hldd, y0, y1, y2, y3, h69, hst]; rfl) ?_
     refine ⟨(_, nd), ⟨pd.set rfl, sub_hset hY8d (p8.new _ (by omega)), by dsimp only; omega, fun h => ?_, ?_, hvd16 _ fun k b hk _ hg => ?_, ?_⟩, .keep rfl rfl rfl (by simp) (Sub.refl _)⟩
     · dsimp only
       rw [hget_hset, if_neg (by omega)]; exact hlvd h
     · dsimp only
       rw [hget_hset, if_neg (by omega)]; exact kd0
     · dsimp only
       rw [hget_hset, if_neg (by omega)]; exact hg
     · dsimp only
       rw [hget_hset, if_pos rfl, kd1]; rfl
   · rw [if_neg hz] at hsR
     refine E.cond (t := false) (by simp [hz]) (fun h => by cases h) (fun _ => ?_)
     refine E.skip ?_
     refine ⟨(Yd, nd), ⟨pd, hY8d, by dsimp only; omega, hlvd, kd0, hvd16 _ fun k b _ _ hg => hg, ?_⟩, .keep rfl rfl rfl (by simp) (Sub.refl _)⟩
     dsimp only
     rw [kd1]
     injection hsR with q; injection q with q; injection q with q1 q; injection q with q2 q; rw [q1, q2]
 rintro ⟨Ye, ne⟩ ⟨pe, hY8e, hne, hlve, ke0, hve16, ke1⟩
 dsimp only at pe hY8e hne hlve ke0 hve16 ke1 ⊢
 have hY5e := hY58.trans hY8e
 have hI1 : intV Ye (outS n3 LV.length) = some LV := intV_at (fun h => hY5e _ _ (hlv5 h)) (by omega)
 have hI2 : intV Ye (outS (n8 + 2) LV.length) = some LV := intV_at hlve (by omega)
 have h42 : ∀ m, g42b [outS n3 LV.length, iv e5, iv e5, outS (n8 + 2) LV.length] Ye m = some (.bool true, Ye, m) := fun m => by
   refine if_pos ?_
   by_cases hz : e5 = 0
   · exact .inl ⟨rfl, hz, by unfold alikeV; rw [hI1, hI2]; simp⟩
   · exact .inr ⟨rfl, hz, by rw [hLVn hz]; rfl⟩
 have hR1 : (corR s ts vl st).1 = s5 := by rw [hRr]
 have hR2 : (corR s ts vl st).2 = t5 := by rw [hRr]
 obtain ⟨u7, H7, n7, b1, b2⟩ := gEx_at (Q := Q71 (corR s ts vl st).1 (corR s ts vl st).2) (w71 (H := frzH Ye) (n := ne) (v := .agg ⟨[.string s5, .slice oa5 t5.length ca5]⟩) (by rw [shtV_frz, hR1, hR2]; exact shtV_mono hY5e hvw6) (hfl pe))
 obtain ⟨B7, rfl, c2, c3, c4, c5, c6, c7⟩ := MadeS.late pe b2
 rw [hR1, hR2] at c7
 have h70 : gEx Tryz.prog 70 Q57 [u7, .agg ⟨[.string s5, l16]⟩] (B7 ++ Ye) n7 = some (.bool true, B7 ++ Ye, n7) := by
   obtain ⟨v, H', n', k1, rfl, rfl, rfl⟩ := gEx_at (Q := Q57) ⟨_, _, _, w70 (n := n7) c7 (shtV_mono c5 hve16) hsame, rfl, rfl, rfl⟩
   exact k1
 have z5 : cellsA Ye n5 0 2 = some [.string s5, .slice oa5 t5.length ca5] := by rw [cellsA_eq, hY5e _ _ h5c]; rfl
 have z16 : cellsA (B7 ++ Ye) n8 0 2 = some [.string s5, l16] := by rw [cellsA_eq, c5 _ _ ke0]; rfl
 have z9 : cellsA (B7 ++ Ye) n6 0 2 = some [iv sa, iv sb] := by rw [cellsA_eq, c5 _ _ (hY5e _ _ h6b)]; rfl
 have z17 : cellsA (B7 ++ Ye) (n8 + 1) 0 2 = some [iv sa, iv sb] := by rw [cellsA_eq, c5 _ _ ke1]; rfl
 have hpen := pe.nm
 have hpep := pe.pl
 have hc4n := c4.nm
 have m1 : n5 < ne := by omega
 have m2 : n8 < ne := by omega
 have m3 : n6 < n7 := by omega
 have m4 : n8 + 1 < n7 := by omega
 have m5 : n6 < ne := by omega
 have m6 : n8 + 1 < ne := by omega
 refine E.seq ?_
 refine E.drawU mixed hr [4, 9] [4, 7, 9] [4, 6, 7, 9, 17, 18] (by kernel_rfl) (by simp [-cellA, -cellsA, -readA, cellsA_read, hpen, hpep, hc4n, h42, z5, b1, c2, c3, c6, h70, z16, z9, z17, eq96, m1, m2, m3, m4, m5, m6]; rfl) ?_
 refine E.ret ?_
 exact pureK.ret rfl rfl (by simp) (hTX.trans (hXY8.trans (hY8e.trans c5)))
end Go.Proofs.YtkongcnmkiihjaaGreatDoor

namespace Go.Proofs.YtkongcnmkiihjaaGreatDoor
open Go Go.Ab Go.Proofs
def Q57f (_ : List Value) (H : Heap) (n : Nat) (v : Value) (H' : Heap) (n' : Nat) : Prop := v = .bool false ∧ H' = H ∧ n' = n
set_option maxHeartbeats 1600000 in
set_option maxRecDepth 100000 in
theorem w10s {H : Heap} {n : Nat} {s : ByteArray} {l : Value} {tm vl wi st : Int} (h0 : hget H 0 = some (.inp 0 freeV)) (hR : dR H) (hs : ∀ (G : Heap) (m : Nat), Sub (tidy n H) G → AC Tryz.prog 57 [.agg ⟨[.string s, l]⟩] G m (.bool false) G m) : AC Tryz.prog 10 [.agg ⟨[.string s, l]⟩, .agg ⟨[iv tm, iv vl, iv wi, iv st]⟩] H n (.bool true) H n := by
 refine AC.given fun hold hsc hgn => AC.tidied (B := []) (by simp) ?_
 have h9 : 9 ≤ n := gsz ▸ hgn
 replace h0 : hget (tidy n H) 0 = some (.inp 0 freeV) := hget_tidy.2 ⟨h0, by omega, rfl⟩
 replace hR : hget (tidy n H) 1 = some (.inp 0 rangesV) := hget_tidy.2 ⟨hR, by omega, rfl⟩
 have hpm0 : PM n (tidy n H) := PM.tidy
 obtain ⟨T, hT⟩ : ∃ T, tidy n H = T := ⟨_, rfl⟩
 rw [hT] at h0 hR hpm0 hs ⊢
 have hr := recT_ok (P := Tryz.prog) (l := [(15, g15), (57, gEx Tryz.prog 57 Q57f)]) (by simp only [List.forall_mem_cons]; exact ⟨ok15, gEx_ok, by simp⟩)
 have hr0 := recT_ok (P := Tryz.prog) (l := []) (by simp)
 obtain ⟨X, hX⟩ : ∃ X, (n + 1, Blk.cells [iv tm, iv vl, iv wi, iv st] 105) :: (n, Blk.cells [.string s, l] 103) :: T = X := ⟨_, rfl⟩
 have hp1 : PM (n + 1) ((n, Blk.cells [.string s, l] 103) :: T) := hpm0.put rfl
 have hTX : Sub T X := by rw [← hX]; exact hpm0.sub.trans hp1.sub
 have hb0 : hget X n = some (.cells [.string s, l] 103) := by rw [← hX, hget_cons, if_neg (by omega), hget_cons, if_pos rfl]
 have hld := load103 hb0
 have h15 : ∀ m, g15 [] X m = some (.bool true, X, m) := fun m => if_pos ⟨rfl, hTX _ _ hR, hTX _ _ h0⟩
 have h57 : ∀ m, gEx Tryz.prog 57 Q57f [.agg ⟨[.string s, l]⟩] X m = some (.bool false, X, m) := fun m => by
   obtain ⟨v, H', n', h1, rfl, rfl, rfl⟩ := gEx_at (Q := Q57f) ⟨_, _, _, hs X m hTX, rfl, rfl, rfl⟩
   exact h1
 refine AC.pure Tryz.func10 rfl (by kernel_rfl) rfl vs10 rfl ?_
 refine E.seq ?_
 refine E.reg hr0 (by simp; rfl) ?_
 rw [hX]
 refine E.seq ?_
 refine E.seq ?_
 refine E.reg hr (by simp [-loadA, hld, h15, h57]; rfl) ?_
 refine E.cond (t := true) (by simp) (fun _ => ?_) (fun h => by cases h)
 refine E.seq ?_
 refine E.reg hr (by simp [h15]; rfl) ?_
 refine E.ret ?_
 exact pureK.ret rfl rfl (by simp) hTX
theorem w10 {H : Heap} {n : Nat} {s : ByteArray} {oa : Option Addr} {L c : Nat} {tm vl wi st : Int} (h0 : hget H 0 = some (.inp 0 freeV)) (hR : dR H) (hl : L < 2147483648 → ∃ Ls : List Nat, Ls.length = L ∧ listV 10 decTL H (.slice oa L c) = some Ls ∧ ((∀ x ∈ Ls, x < 2147483648) → ∃ ts, trcV H (.slice oa L c) = some ts ∧ ts.map (·.smp.length) = Ls)) : AC Tryz.prog 10 [.agg ⟨[.string s, .slice oa L c]⟩, .agg ⟨[iv tm, iv vl, iv wi, iv st]⟩] H n (.bool true) H n := by
 refine AC.given fun hold hsc hgn => ?_
 by_cases h1 : 60 < s.size ∨ 6 < L ∧ L ≠ 65
 · exact w10s h0 hR fun G m _ => w57big h1
 · obtain ⟨Ls, e, hu, hx⟩ := hl (by omega)
   subst e
   cases ha : Ls.all shortN with
   | false =>
     refine w10s h0 hR fun G m hG => ?_
     have h2 := listV_mono (dec := decTL) (fun _ _ _ _ _ h => h) hG (listV_tidy (n := n) decTL_tidy (fun k b h => (hold k b h).1) hu)
     have := w57 (H := G) (n := m) (s := s) h2 (by omega) (by omega)
     rw [ha] at this
     exact this
   | true =>
     have hsm : ∀ x ∈ Ls, x ≤ 1025 := fun x hx => by
       have := List.all_eq_true.1 ha x hx
       unfold shortN at this
       simp only [Bool.or_eq_true, decide_eq_true_eq] at this
       omega
     obtain ⟨ts, ht, hts⟩ := hx fun x hx => by have := hsm x hx; omega
     refine w10a (ts := ts) h0 hR (shtV_mk ht) hu (by omega) (by omega) ha fun x hx => hsm _ ?_
     rw [← hts]
     exact List.mem_map_of_mem (f := fun x : Trc => x.smp.length) hx
end Go.Proofs.YtkongcnmkiihjaaGreatDoor

namespace Go.Ab
open Go Go.ChangeShapes Go.WideShapes
structure WV where
 blk : Nat
 off : Nat
 cs : List Value
def wvH (N : Nat) : List WV → Heap → Heap
 | [], G => G
 | v :: vs, G => wvH (N + 1) vs ((N, .inp v.off v.cs) :: G)
def wvLoc (N : Nat) (vs : List WV) (ds : List Nat) : Vl := ⟨fun k => if k < N then k else match (vs.map (·.blk) ++ ds)[k - N]? with | some b => b | none => 0, fun _ => 0⟩
theorem wvLoc_low {N : Nat} {vs : List WV} {ds : List Nat} {k : Nat} (h : k < N) : (wvLoc N vs ds).loc k = k := by simp only [wvLoc]; rw [if_pos h]
theorem wvLoc_at {N : Nat} {vs : List WV} {ds : List Nat} {i b : Nat} (h : (vs.map (·.blk) ++ ds)[i]? = some b) : (wvLoc N vs ds).loc (N + i) = b := by
 simp only [wvLoc]
 rw [if_neg (by omega), show N + i - N = i by omega, h]
theorem wvLoc_view {N : Nat} {vs : List WV} {ds : List Nat} {i : Nat} {v : WV} (h : vs[i]? = some v) : (wvLoc N vs ds).loc (N + i) = v.blk := by
 have hi := (List.getElem?_eq_some_iff.1 h).1
 exact wvLoc_at (by rw [List.getElem?_append_left (by simpa using hi), List.getElem?_map, h]; rfl)
theorem wvLoc_dead {N : Nat} {vs : List WV} {ds : List Nat} {i b : Nat} (h : ds[i]? = some b) : (wvLoc N vs ds).loc (N + vs.length + i) = b := by
 rw [Nat.add_assoc]
 exact wvLoc_at (by rw [List.getElem?_append_right (by rw [List.length_map]; omega), List.length_map, show vs.length + i - vs.length = i by omega, h])
theorem wvH_low : ∀ (vs : List WV) (M : Nat) (G : Heap) (k : Nat) (b : Blk), k < M → hget G k = some b → hget (wvH M vs G) k = some b
 | [], _, _, _, _, _, h => h
 | _ :: xs, M, G, k, b, hk, h => wvH_low xs (M + 1) _ k b (by omega) (by rw [hget_cons, if_neg (by omega)]; exact h)
theorem wvH_at {N : Nat} : ∀ (vs : List WV) (G : Heap) (i : Nat) (v : WV), vs[i]? = some v → hget (wvH N vs G) (N + i) = some (.inp v.off v.cs)
 | [], _, i, v, h => by simp at h
 | u :: vs, G, 0, v, h => by
   simp at h; subst h
   exact wvH_low vs (N + 1) _ (N + 0) _ (by omega) (by rw [hget_cons, if_pos (by omega)])
 | u :: vs, G, i + 1, v, h => by
   rw [show N + (i + 1) = N + 1 + i by omega]
   exact wvH_at vs _ i v (by simpa using h)
theorem hget_wvH {N : Nat} : ∀ (vs : List WV) (G : Heap) (k : Nat) (b : Blk), (∀ k b, hget G k = some b → k < N) → hget (wvH N vs G) k = some b → hget G k = some b ∨ ∃ v, vs[k - N]? = some v ∧ N ≤ k ∧ b = .inp v.off v.cs
 | [], _, _, _, _, h => .inl h
 | v :: vs, G, k, b, hG, h => by
   have := hget_wvH (N := N + 1) vs ((N, .inp v.off v.cs) :: G) k b (fun j c hj => by
     rw [hget_cons] at hj
     split at hj
     · omega
     · have := hG j c hj
       omega) h
   rcases this with h2 | ⟨u, h1, h2, h3⟩
   · rw [hget_cons] at h2
     by_cases hk : N = k
     · rw [if_pos hk] at h2; injection h2 with h2; subst hk
       exact .inr ⟨v, by simp, Nat.le_refl _, h2.symm⟩
     · rw [if_neg hk] at h2
       exact .inl h2
   · refine .inr ⟨u, ?_, by omega, h3⟩
     rw [show k - N = (k - (N + 1)) + 1 by omega]
     simpa using h1
theorem baseN {P : Program} {w : World} {N : Nat} (hgl : P.globals.size = N) {G : Heap} (hG : ∀ k b, hget G k = some b → k < N ∧ scB (· < N) b ∧ b.own = false ∧ ∀ φ : Vl, (∀ k, k < N → φ.loc k = k) → BRel P φ k b w.heap[k]?) (vs : List WV) (ds : List Nat)
   (hv : ∀ v ∈ vs, scL (· < N + vs.length + ds.length) v.cs ∧ ∃ c t fz, w.heap[v.blk]? = some (.cells c t fz) ∧ ∀ i, i < v.cs.length → c[v.off + i]? = (denL (wvLoc N vs ds) v.cs)[i]?) :
   Base P (· < N + vs.length + ds.length) (wvLoc N vs ds) (N + vs.length + ds.length) (hget (wvH N vs G)) w [] act0 ∧ ∀ k b, hget (wvH N vs G) k = some b → b.own = false := by
 have hH : ∀ k b, hget (wvH N vs G) k = some b → hget G k = some b ∨ ∃ v, vs[k - N]? = some v ∧ N ≤ k ∧ b = .inp v.off v.cs := fun k b hk => hget_wvH vs G k b (fun k b h => (hG k b h).1) hk
 have hown : ∀ k b, hget (wvH N vs G) k = some b → b.own = false := fun k b hk => by
   rcases hH k b hk with h | ⟨v, _, _, rfl⟩
   · exact (hG k b h).2.2.1
   · rfl
 refine ⟨⟨⟨fun k b hk => ?_, fun k b k' b' h1 _ _ ho => (by rw [hown k b h1] at ho; cases ho), fun g hg => ?_⟩, fun _ h => h, fun g hg => ?_, ?_, fun k b hk => ?_, fun t v hv => by simp [lk] at hv, fun t v hv => by simp [lk] at hv⟩, hown⟩
 · rcases hH k b hk with h | ⟨v, h1, h2, rfl⟩
   · obtain ⟨g1, _, _, g4⟩ := hG k b h
     rw [wvLoc_low g1]
     exact g4 _ fun j hj => wvLoc_low hj
   · obtain ⟨_, c, t, fz, e1, e2⟩ := hv v (List.mem_of_getElem? h1)
     have : (wvLoc N vs ds).loc k = v.blk := by
       have := wvLoc_view (N := N) (ds := ds) h1
       rwa [show N + (k - N) = k by omega] at this
     rw [this]
     exact ⟨c, t, fz, e1, e2⟩
 · rw [hgl] at hg; exact wvLoc_low hg
 · rw [hgl] at hg; omega
 · rw [hgl]; omega
 · rcases hH k b hk with h | ⟨v, h1, h2, rfl⟩
   · obtain ⟨g1, g2, _, _⟩ := hG k b h
     exact ⟨by omega, scB_mono (fun j hj => by show j < _; have hj : j < N := hj; omega) _ g2⟩
   · have := (List.getElem?_eq_some_iff.1 h1).1
     exact ⟨by omega, (hv v (List.mem_of_getElem? h1)).1⟩
structure RD where
 A : Option Addr
 L : Nat
 C : Nat
 Z : List Value
def RD.val (r : RD) : Value := .slice r.A r.L r.C
def RD.ok (w : World) (r : RD) : Prop := r.L ≤ r.C ∧ r.Z.length = r.C ∧ (r.A = none → r.C = 0) ∧ afL r.Z = true ∧ ∀ a, r.A = some a → ∀ (c : Nat) v, r.Z[c]? = some v → w.cell? (a.add c) = some v
def RD.view (r : RD) : WV := match r.A with
 | some a => if 0 < r.C then ⟨a.block, a.off, r.Z.take r.L⟩ else ⟨0, 0, []⟩
 | none => ⟨0, 0, []⟩
def RD.dead (r : RD) : Nat := match r.A with
 | some a => a.block
 | none => 0
def RD.abs (vn dn : Nat) (r : RD) : Value := match r.A with
 | none => .slice none 0 0
 | some a => if 0 < r.C then .slice (some ⟨vn, a.off, none⟩) r.L r.C else match a.spot with
   | none => .slice (some ⟨dn, a.off, none⟩) 0 0
   | some s => .slice (some ⟨dn, a.off, some (a.off + 1 + s)⟩) 0 1
theorem afL_take : ∀ (k : Nat) (vs : List Value), afL vs = true → afL (vs.take k) = true
 | 0, _, _ => by rw [List.take_zero]; rfl
 | _ + 1, [], _ => rfl
 | k + 1, v :: vs, h => by
   simp only [afL, Bool.and_eq_true] at h
   simp only [List.take_succ_cons, afL, Bool.and_eq_true]
   exact ⟨h.1, afL_take k vs h.2⟩
section
variable {w : World} {r : RD}
theorem RD.spot (h : r.ok w) {a : Addr} (ha : r.A = some a) (hc : 0 < r.C) : a.spot = none ∧ ∃ c t fz, w.heap[a.block]? = some (.cells c t fz) ∧ ∀ (i : Nat) v, r.Z[i]? = some v → c[a.off + i]? = some v := by
 obtain ⟨_, h2, _, _, h4⟩ := h
 have h0 := h4 a ha 0 r.Z[0] (List.getElem?_eq_getElem (by omega))
 have ha0 : a.add 0 = a := by simp [Addr.add]
 rw [ha0] at h0
 unfold World.cell? at h0
 split at h0
 · rename_i c t fz hw
   split at h0
   · cases h0
   · rename_i hs
     have hs : a.spot = none := by simpa using hs
     refine ⟨hs, c, t, fz, hw, fun i v hi => ?_⟩
     have := h4 a ha i v hi
     obtain ⟨b, o, s⟩ := a
     dsimp only at hs hw
     subst hs
     rw [add_none, cell_get hw] at this
     exact this
 · cases h0
theorem RD.den {φ : Vl} {vn dn : Nat} (h : r.ok w) (hv : φ.loc vn = r.view.blk) (hd : φ.loc dn = r.dead) (hc : φ.cap dn = 0) : Ab.den φ (r.abs vn dn) = r.val := by
 have h0 := h
 obtain ⟨h1, h2, h3, _⟩ := h0
 unfold RD.abs RD.val
 unfold RD.view at hv
 unfold RD.dead at hd
 cases hA : r.A with
 | none =>
   have := h3 hA
   have hL : r.L = 0 := by omega
   rw [hL, this]
   rfl
 | some a =>
   rw [hA] at hv hd
   dsimp only at hv hd ⊢
   by_cases hC : 0 < r.C
   · obtain ⟨hs, _⟩ := RD.spot h hA hC
     rw [if_pos hC] at hv ⊢
     obtain ⟨b, o, s⟩ := a
     dsimp only at hs hv
     subst hs
     simp [Ab.den, hv]
   · have hC0 : r.C = 0 := by omega
     have hL : r.L = 0 := by omega
     rw [if_neg hC, hL, hC0]
     obtain ⟨b, o, s⟩ := a
     dsimp only at hd
     cases s with
     | none => simp [Ab.den, hd]
     | some s =>
       have h5 : o < o + 1 + s := by omega
       have h6 : o + 1 + s - o - 1 = s := by omega
       simp [Ab.den, hd, hc, h5, h6]
theorem RD.sc {p : Nat → Prop} {vn dn : Nat} (h1 : p vn) (h2 : p dn) : Ab.sc p (r.abs vn dn) := by
 unfold RD.abs
 split
 · trivial
 · split
   · exact h1
   · split
     · exact h2
     · exact h2
theorem RD.form {vn dn : Nat} (h : r.ok w) : ∃ a c, r.abs vn dn = .slice a r.L c := by
 obtain ⟨h1, h2, h3, _⟩ := h
 unfold RD.abs
 cases hA : r.A with
 | none =>
   have hL : r.L = 0 := by have := h3 hA; omega
   exact ⟨_, _, by rw [hL]⟩
 | some a =>
   dsimp only
   split
   · exact ⟨_, _, rfl⟩
   · have hL : r.L = 0 := by omega
     split <;> exact ⟨_, _, by rw [hL]⟩
theorem RD.seen {α : Type} {dec : Dec α} {H : Heap} {vn dn : Nat} {xs : List α} (h : r.ok w) (hv : hget H vn = some (.inp r.view.off r.view.cs)) (hl : r.L < 2147483648) (hlen : xs.length = r.L) (hd : ∀ (i : Nat) v, (r.Z.take r.L)[i]? = some v → dec H [v] = xs[i]?) : listV 1 dec H (r.abs vn dn) = some xs := by
 have h0 := h
 obtain ⟨h1, h2, h3, _⟩ := h0
 have hnil : r.L = 0 → xs = [] := fun e => List.length_eq_zero_iff.1 (by rw [hlen, e])
 unfold RD.abs
 unfold RD.view at hv
 cases hA : r.A with
 | none =>
   rw [hnil (by have := h3 hA; omega)]
   rfl
 | some a =>
   rw [hA] at hv
   dsimp only at hv ⊢
   by_cases hC : 0 < r.C
   · rw [if_pos hC] at hv ⊢
     have hz : (r.Z.take r.L).length = r.L := by rw [List.length_take]; omega
     rw [← hlen]
     refine listV_mk (cs := r.Z.take r.L) rfl ?_ (by rw [hz, hlen]) (by omega) hd
     rw [cellsA_eq, hv]
     simp [cellsB]
     exact List.take_of_length_le (by rw [List.length_take]; omega)
   · rw [if_neg hC, hnil (by omega)]
     split <;> rfl
theorem view_ok (hz : ∃ c t fz, w.heap[0]? = some (.cells c t fz)) {φ : Vl} {p : Nat → Prop} (h : r.ok w) : scL p r.view.cs ∧ ∃ c t fz, w.heap[r.view.blk]? = some (.cells c t fz) ∧ ∀ i, i < r.view.cs.length → c[r.view.off + i]? = (denL φ r.view.cs)[i]? := by
 have h0 := h
 obtain ⟨h1, h2, h3, haf, _⟩ := h0
 have hdum : scL p ([] : List Value) ∧ ∃ c t fz, w.heap[0]? = some (.cells c t fz) ∧ ∀ i, i < ([] : List Value).length → c[0 + i]? = (denL φ [])[i]? := by
   obtain ⟨c, t, fz, e⟩ := hz
   exact ⟨trivial, c, t, fz, e, fun i hi => by simp at hi⟩
 unfold RD.view
 cases hA : r.A with
 | none => exact hdum
 | some a =>
   dsimp only
   by_cases hC : 0 < r.C
   · obtain ⟨hs, c, t, fz, hw, hc⟩ := RD.spot h hA hC
     rw [if_pos hC]
     refine ⟨scL_af _ _ (afL_take _ _ haf), c, t, fz, hw, fun i hi => ?_⟩
     dsimp only at hi ⊢
     rw [denL_af _ _ (afL_take _ _ haf), List.getElem?_eq_getElem hi]
     rw [List.length_take] at hi
     exact hc i _ (by rw [List.getElem_take, List.getElem?_eq_getElem (by omega)])
   · rw [if_neg hC]
     exact hdum
end
theorem leaf_af {l : Leaf} {v : Value} (h : l.fits v) : af v = true := by
 cases l with
 | int k => obtain ⟨n, rfl, _⟩ := h; rfl
 | str => obtain ⟨s, rfl, _⟩ := h; rfl
 | bool => obtain ⟨b, rfl⟩ := h; rfl
 | flt k => obtain ⟨b, rfl⟩ := h; rfl
section
variable {Hy : Type} {enc : TypeId × Value → Hy} {P : Program} {w : World} {base : Nat} {held : Bool}
theorem open_row {t e : TypeId} {d fuel : Nat} {lf : Leaf} {v : Value} {x : DataW Hy × List MemPlace} (ht : P.underlying t = some (.slice e)) (hl : leafs P d e = some [lf]) (hc : P.cellsOf e = 1) (h : DataW.trod enc P w base (fun _ => true) held fuel t [v] = some x) : ∃ r : RD, v = r.val ∧ r.ok w ∧ r.C ≤ maxLen ∧ ∀ z ∈ r.Z, lf.fits z := by
 rcases Deep.open_slice1 ht hc h with ⟨h0, _⟩ | ⟨a, len, cap, m, n, V, D, Pl, e0, _, hlc, hm, hmm, _, hx⟩
 · have h0 : v = .slice none 0 0 := by simpa using h0
   refine ⟨⟨none, 0, 0, []⟩, h0, ⟨Nat.le_refl _, rfl, fun _ => rfl, rfl, fun a ha => by cases ha⟩, Nat.zero_le _, fun z hz => by cases hz⟩
 · simp only [if_true] at hmm
   subst hmm
   have hfit : ∀ i, i < m → lf.fits (V i) := fun i hi => (leafs_ok d e [lf] n [V i] _ hl (hx i hi).2).1
   have e0 : v = .slice (some a) len m := by simpa using e0
   refine ⟨⟨some a, len, m, (List.range m).map V⟩, e0, ⟨hlc, by simp, (fun h => by cases h), ?_, fun a' ha c v hv => ?_⟩, hm, fun z hz => ?_⟩
   · have key : ∀ l : List Nat, (∀ i ∈ l, i < m) → afL (l.map V) = true := by
       intro l
       induction l with
       | nil => intro _; rfl
       | cons i l ih =>
         intro hi
         rw [List.map_cons, afL, leaf_af (hfit i (hi i (List.mem_cons_self ..))), ih fun j hj => hi j (List.mem_cons_of_mem _ hj)]
         rfl
     exact key _ fun i hi => List.mem_range.1 hi
   · injection ha with ha
     subst ha
     rw [List.getElem?_map] at hv
     by_cases hi : c < m
     · rw [List.getElem?_range hi] at hv
       injection hv with hv
       rw [← hv]
       exact (hx c hi).1
     · rw [List.getElem?_eq_none (by simp; omega)] at hv
       cases hv
   · obtain ⟨i, hi, rfl⟩ := List.mem_map.1 hz
     exact hfit i (List.mem_range.1 hi)
end
end Go.Ab
