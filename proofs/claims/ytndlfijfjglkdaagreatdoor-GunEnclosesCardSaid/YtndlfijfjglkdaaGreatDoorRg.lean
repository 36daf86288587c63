/-
Contracts and plain reckonings behind the law GunEncloses, part 7 of 8 (each under the conditions in its statement).
-/
import Derived.Test.YtndlfijfjglkdaaGreatDoorRf
import Derived.Test.YtndlfijfjglkdaaGreatDoorRe
import Derived.Test.YtndlfijfjglkdaaGreatDoorAf
import Derived.Test.YtndlfijfjglkdaaGreatDoorRd
import Derived.Test.YtndlfijfjglkdaaGreatDoorKa
namespace Go.Proofs.YtndlfijfjglkdaaGreatDoor
open Go Go.Ab Go.Proofs Ieee
theorem OwnG.arrF {H : Heap} {v : Value} {l : List Gun} {d : ByteArray} (h : OwnG H v l) (hst : strE l = 0) (hd : hasW d dirs = true) (n : Nat) : g116 [.agg ⟨[v]⟩, sv d] (frzH H) n = some (.slice (some ⟨n, 0, some 0⟩) (arrL d l).length 0, (n, .ext ((arrL d l).map iv) 3 1) :: frzH H, n + 1) := h.frz.arr hst hd n
def exU (n : Nat) (ys : List Int) (e : Int) : Value := .tuple #[exV n ys.length, iv e]
def exK (n : Nat) (ys : List Int) : Heap := if ys = [] then [] else [(n, exB ys)]
theorem exFreshE {ys : List Int} {e : Int} {m n : Nat} {H H1 : Heap} (hm : n ≤ m) (hg : ys ≠ [] → hget H1 m = some (exB ys)) (hs : Sub H H1) : Fresh n (n + 1) H (exU n ys e) (exK n ys) (.tuple #[exV m ys.length, iv e]) H1 := by
 obtain ⟨h1, h2, h3, h4, _⟩ := exB_ok ys
 refine ⟨fun j => if j = n then m else j, fun j hj => if_neg (by omega), ?_, fun k b hk => ?_, fun j b k c hj hk _ => ?_, hs⟩
 · simp [exU, Ab.ren, Ab.renL, exV_ren]
 · unfold exK at hk
   split at hk
   · cases hk
   · rename_i hne
     rw [hget_cons] at hk
     split at hk
     · rename_i e; subst e; injection hk with hk; subst hk
       exact ⟨Nat.le_refl _, Nat.lt_succ_self _, by simpa using hm, by simp only [if_true]; rw [h1]; exact hg hne, h2 _, h3, h4⟩
     · simp at hk
 · unfold exK at hj hk
   split at hj
   · cases hj
   · rename_i hne
     rw [if_neg hne, hget_cons] at hk
     rw [hget_cons] at hj
     split at hj
     · split at hk
       · omega
       · simp at hk
     · simp at hj
theorem AC.exE {P : Program} {f : FuncId} {fn : Func} {c : Code} {args : List Value} {H : Heap} {n : Nat} {ys : List Int} {e : Int} (hf : P.funcs[f]? = some fn) (hb : fn.body = some c) (he : enterable P f = true) (hlen : Nat.ble args.length fn.ntmps = true) (vs : List Nat)
   (h : E P n none c { fr := argsFr args 0, sz := fn.ntmps, H, n, marks := [], vs } (outK P fn (Fresh n (n + 1) H (exU n ys e) (exK n ys)))) : AC P f args H n (exU n ys e) (exK n ys ++ H) (n + 1) := by
 cases ys with
 | nil =>
   have hv : af (exU n [] e) = true := rfl
   have h2 : AC P f args H n (exU n [] e) H n := AC.pure hf hb he hlen vs hv (E.mono h fun e st hh => by
     obtain ⟨h1, h2, us, h3, ρ, _, h4, _, _, h5⟩ := hh
     refine ⟨h1, h2, ⟨us, h3, ?_⟩, h5⟩
     rw [h4, ren_af _ _ hv])
   exact h2.wider (ren_af _ _ hv).symm (sc_af _ _ hv)
 | cons s ys =>
   obtain ⟨s1, c1, e1, _⟩ := exV_ne (n := n) (k := ys.length + 1) (by omega)
   have e2 : exU n (s :: ys) e = .tuple #[.slice (some ⟨n, 0, s1⟩) (ys.length + 1) c1, iv e] := by rw [exU, List.length_cons, e1]
   exact AC.fresh hf hb he hlen vs (by omega) (by rw [e2]; exact ⟨Nat.lt_succ_self _, trivial, trivial⟩) (fun ρ => by rw [e2]; rfl) h
theorem ivs_flat : ∀ l : List Int, (l.flatMap fun z : Int => [iv z]) = l.map iv
 | [] => rfl
 | x :: l => by rw [List.flatMap_cons, ivs_flat l]; rfl
theorem intV_ext1 {H : Heap} {k c t : Nat} {l : List Int} (h : hget H k = some (.ext (l.map iv) t 1)) (hl : l.length < 2147483648) : intV H (.slice (some ⟨k, 0, some 0⟩) l.length c) = some l := by
 refine listV_flat (c := fun z : Int => [iv z]) (fun _ => rfl) (fun _ => rfl) rfl ?_ hl
 show cellsA H k 0 _ = _
 rw [cellsA_eq, h, ivs_flat]
 simp [cellsB]
 exact List.take_of_length_le (by simp)
def ansE : Option (List Int) → List Int × Int
 | some ys => (ys, 0)
 | none => ([], 18)
def explE (l : List Gun) (d : ByteArray) (fs : List Nat) : List Int × Int := if listE l d fs = 0 then ansE (expl l d fs.length l.length (fs.map six32)) else ([], listE l d fs)
set_option maxRecDepth 20000 in
set_option maxHeartbeats 1000000 in
theorem w79 {H : Heap} {n : Nat} {x u : Value} {l : List Gun} {d : ByteArray} {fs : List Nat} (h0 : hget H 0 = some (.inp 0 names0)) (hx : OwnS H x l) (hV : fltV H u = some fs) : AC Tryz.prog 79 [x, sv d, u] H n (exU n (explE l d fs).1 (explE l d fs).2) (exK n (explE l d fs).1 ++ H) (n + 1) := by
 refine AC.given fun hold hsc hgn => AC.tidied (fun x hx => ?_) ?_
 · unfold exK at hx
   split at hx
   · cases hx
   · rw [List.mem_singleton] at hx; subst hx; exact Nat.le_refl _
 have hlt0 := fun k b h => (hold k b h).1
 replace hx := hx.tidy hlt0
 replace h0 := names_tidy hlt0 h0
 replace hV : fltV (tidy n H) u = some fs := listV_tidy decFl_tidy hlt0 hV
 obtain ⟨s, rfl⟩ := hx.box
 obtain ⟨X0, hX0⟩ : ∃ X0, (n, Blk.cells [s] 32) :: tidy n H = X0 := ⟨_, rfl⟩
 have hS0 : Sub (tidy n H) X0 := by rw [← hX0]; exact Sub.cons (by simp) (Sub.refl _)
 have hb0 : cellsA X0 n 0 1 = some [s] := by rw [← hX0, cellsA_eq, hget_cons, if_pos rfl]; rfl
 have hnm0 : namesOk (n + 1) X0 = true := by rw [← hX0]; exact namesOk_put (by omega) (namesOk_mono (by omega) _ namesOk_tidy)
 have hpl0 : plainH X0 = true := by rw [← hX0, plainH, plainH_tidy]; rfl
 have hx0 := hx.mono hS0
 have hV0 : fltV X0 u = some fs := listV_mono decFl_mono hS0 hV
 have h151 : ∀ m, g151 [.agg ⟨[s]⟩, sv d, u] X0 m = some (iv (listE l d fs), X0, m) := fun m => g151_at (hS0 _ _ h0) hx0 hV0
 obtain ⟨e, he⟩ : ∃ e, listE l d fs = e := ⟨_, rfl⟩
 rw [he] at h151
 by_cases hz : e = 0
 case neg =>
   have hr := recT_ok (P := Tryz.prog) (l := [(151, g151)]) (by simp only [List.forall_mem_cons]; exact ⟨ok151, by simp⟩)
   have hres : explE l d fs = ([], e) := by rw [explE, he, if_neg hz]
   rw [hres]
   refine AC.exE Tryz.func79 rfl (by kernel_rfl) rfl [0, 1, 2, 3, 6, 7, 8, 9, 10, 16, 34] ?_
   refine E.seq ?_
   refine E.reg hr (by simp; rfl) ?_
   rw [hX0]
   refine E.seq ?_
   refine E.seq ?_
   refine E.reg hr (by simp [-cellsA, hb0, h151]; rfl) ?_
   refine E.seq ?_
   refine E.reg hr (by simp; rfl) ?_
   refine E.cond (t := true) (by simp [hz]) (fun _ => ?_) (fun h => by cases h)
   refine E.seq ?_
   refine E.reg hr (by simp; rfl) ?_
   refine E.ret ?_
   exact outK.ret rfl rfl (exFreshE (m := n) (Nat.le_refl _) (fun h => absurd rfl h) hS0)
 obtain ⟨hst, hd, hW, hgood⟩ := listE_zero (he.trans hz)
 have hr := recT_ok (P := Tryz.prog) (l := [(151, g151), (153, g153), (135, g135), (116, g116), (154, g154 l d fs.length l.length)]) (by simp only [List.forall_mem_cons]; exact ⟨ok151, ok153, ok135, ok116, ok154 hst hW _ (Nat.le_refl _), by simp⟩)
 have hSm := allSm_of hgood
 have hl8 := (strE_len hst).2
 obtain ⟨v, ev, hG⟩ := hx0.own hst
 injection ev with ev
 injection ev with ev
 injection ev with ev
 subst ev
 obtain ⟨oo, hoo⟩ : ∃ oo, expl l d fs.length l.length (fs.map six32) = oo := ⟨_, rfl⟩
 have hres : explE l d fs = ansE oo := by rw [explE, he, if_pos hz, hoo]
 obtain ⟨oa, c, rfl, hlt, _, _⟩ := fltV_form hV
 -- arrivals
 obtain ⟨q1, hq1⟩ : ∃ q : Value, .slice (some ⟨n + 1, 0, some 0⟩) (arrL d l).length 0 = q := ⟨_, rfl⟩
 have h116 := hG.arrF hst hd (n + 1)
 obtain ⟨X1, hX1⟩ : ∃ X1, (n + 1, Blk.ext ((arrL d l).map iv) 3 1) :: X0 = X1 := ⟨_, rfl⟩
 have hS1 : Sub X0 X1 := by rw [← hX1]; exact Sub.cons (namesOk_none hnm0 _ (Nat.le_refl _)) (Sub.refl _)
 have hnm1 : namesOk (n + 1 + 1) X1 = true := by rw [← hX1]; exact namesOk_put (by omega) (namesOk_mono (by omega) _ hnm0)
 have hpl1 : plainH X1 = true := by rw [← hX1, plainH, hpl0]; rfl
 have hA1 : intV X1 (.slice (some ⟨n + 1, 0, some 0⟩) (arrL d l).length 0) = some (arrL d l) := by
   exact intV_ext1 (t := 3) (by rw [← hX1, hget_cons, if_pos rfl]) (by rw [arrL_length]; omega)
 have hb1 : cellsA X1 n 0 1 = some [s] := hS1.cells hb0
 rw [hq1] at h116 hA1
 -- enclosure
 obtain ⟨M, hM⟩ : ∃ M, n + 1 + 1 = M := ⟨_, rfl⟩
 rw [hM] at hnm1
 have h135 : g135 [.agg ⟨[s]⟩, sv d, iv fs.length] (frzH X1) M = some (ndvP oR M (dsE l d fs.length), ndbP kP oR M (dsE l d fs.length) ++ frzH X1, M + 1 + (dsE l d fs.length).length) := (hG.mono hS1).frz.encl hst hd hW _
 obtain ⟨hd4, hd5, hd6⟩ := ndbP_ok (n := M) (ds := dsE l d fs.length)
 have hsee := encRows_see (d := d) (n := M) (H := X1) hl8 hW.2
 have htk2 : takeNew M (ndbP kP oR M (dsE l d fs.length) ++ frzH X1) = ndbP kP oR M (dsE l d fs.length) := by rw [takeNew_app hd4, takeNew_frz hnm1, List.append_nil]
 obtain ⟨N, hN⟩ : ∃ N, M + 1 + (dsE l d fs.length).length = N := ⟨_, rfl⟩
 have hMN : M ≤ N := by omega
 obtain ⟨q2, hq2⟩ : ∃ q, ndvP oR M (dsE l d fs.length) = q := ⟨_, rfl⟩
 obtain ⟨B, hB⟩ : ∃ B, ndbP kP oR M (dsE l d fs.length) = B := ⟨_, rfl⟩
 rw [hq2, hB, hN] at h135
 rw [hB] at htk2 hd4 hd5 hd6
 rw [hq2, hB] at hsee
 rw [hN] at hd5
 obtain ⟨X2, hX2⟩ : ∃ X2, B ++ X1 = X2 := ⟨_, rfl⟩
 have hS2 : Sub X1 X2 := by rw [← hX2]; exact sub_app hd4 hnm1
 have hnm2 : namesOk N X2 = true := by
   rw [← hX2]
   exact namesOk_app (fun x hx => namesOk_iff.1 hd5 x hx) (namesOk_mono hMN _ hnm1)
 have hpl2 : plainH X2 = true := by rw [← hX2]; exact plainH_app hd6 hpl1
 rw [hX2] at hsee
 -- the list in sixteenths
 have hV2 : fltV X2 (.slice oa fs.length c) = some fs := listV_mono decFl_mono (hS1.trans hS2) hV0
 have h153 : g153 [.slice oa fs.length c] (frzH X2) N = some (outS N fs.length, outSB N 3 1 fs.length (sixL fs) ++ frzH X2, N + 1) := by
   have hV' : fltV (frzH X2) (.slice oa fs.length c) = some fs := (listV_frz decFl_frz _ _).trans hV2
   simp only [g153, hV']
   rw [if_pos hSm]
 have htk3 : takeNew N (outSB N 3 1 fs.length (sixL fs) ++ frzH X2) = outSB N 3 1 fs.length (sixL fs) := by rw [takeNew_app outSB_ge, takeNew_frz hnm2, List.append_nil]
 have hnb3 : namesOk (N + 1) (outSB N 3 1 fs.length (sixL fs)) = true := by
   unfold outSB
   split <;> simp [namesOk]
 obtain ⟨X3, hX3⟩ : ∃ X3, outSB N 3 1 fs.length (sixL fs) ++ X2 = X3 := ⟨_, rfl⟩
 have hS3 : Sub X2 X3 := by rw [← hX3]; exact Sub.app (fun x hx => namesOk_none hnm2 _ (outSB_ge x hx)) (Sub.refl _)
 have hnm3 : namesOk (N + 1) X3 = true := by
   rw [← hX3]
   exact namesOk_app (fun x hx => namesOk_iff.1 hnb3 x hx) (namesOk_mono (by omega) _ hnm2)
 have hI3 : intV X3 (outS N fs.length) = some (fs.map six32) := by
   rw [← hX3]
   have := listV_outS (N := N) (t := 3) (Z := X2) (c := fun z : Int => [iv z]) (dec := decI) (sz := 1) (fun _ => rfl) (fun _ _ => rfl) (l := fs.map six32) (by rw [List.length_map]; omega)
   rw [show (fs.map six32).flatMap (fun z : Int => [iv z]) = sixL fs by unfold sixL; rw [List.flatMap_map]] at this
   rw [List.length_map] at this
   exact this
 obtain ⟨q3, hq3⟩ : ∃ q, outS N fs.length = q := ⟨_, rfl⟩
 rw [hq3] at h153 hI3
 have h154 : g154 l d fs.length l.length [.agg ⟨[s]⟩, q1, q2, q3, iv 0] X3 (N + 1) = some (exT (N + 1) oo, exH (N + 1) oo ++ X3, N + 1 + 1) := by
   have := g154_at (r := l.length) (n := N + 1) (hG.mono (hS1.trans (hS2.trans hS3))) (listV_mono decI_mono (hS2.trans hS3) hA1) (listV_mono (decL_mono decP_mono) hS3 hsee) hI3 (List.length_map ..)
   rw [Nat.sub_self, hoo] at this
   exact this
 have hnn : n < M := by omega
 have hnN : n < N := by omega
 have hnN1 : n < N + 1 := by omega
 have hb2 : cellsA X2 n 0 1 = some [s] := hS2.cells hb1
 rw [hM] at h116
 refine AC.exE Tryz.func79 rfl (by kernel_rfl) rfl [0, 1, 2, 3, 6, 7, 8, 9, 10, 16, 34] ?_
 refine E.seq ?_
 refine E.reg hr (by simp; rfl) ?_
 rw [hX0]
 refine E.seq ?_
 refine E.seq ?_
 refine E.reg hr (by simp [-cellsA, hb0, h151]; rfl) ?_
 refine E.seq ?_
 refine E.reg hr (by simp; rfl) ?_
 refine E.cond (t := false) (by simp [hz]) (fun h => by cases h) (fun _ => ?_)
 refine E.skip ?_
 refine E.seq ?_
 rw [hres]
 have hleM : n + 1 ≤ M := by omega
 have hnM1 : n + 1 < M := by omega
 have htk0 : takeNew (n + 1) (frzH X0) = [] := takeNew_frz hnm0
 have hSf := hS0.trans (hS1.trans (hS2.trans hS3))
 cases oo with
 | none =>
   have hx0 : exH (N + 1) none ++ X3 = X3 := rfl
   have hx1 : exT (N + 1) none = .tuple #[.slice none 0 0, .bool false] := rfl
   have hnm4 : namesOk (N + 1 + 1) X3 = true := namesOk_mono (by omega) _ hnm3
   rw [hx0, hx1] at h154
   refine E.drawU mixed hr [11] [3, 8, 10, 11] [0, 1, 3, 8, 10, 11] (by kernel_rfl) (by simp [-cellA, -cellsA, -flat, -readA, cellsA_read, hnm0, hpl0, hb0, h116, htk0, hleM, hnM1, hX1, hnn, hb1, hpl1, h135, htk2, hMN, hd5, hX2, hpl2, h153, htk3, hnb3, hX3, h154, hnm4]; rfl) ?_
   refine E.seq ?_
   refine E.seq ?_
   refine E.reg hr (by simp; rfl) ?_
   refine E.cond (t := true) (by simp) (fun _ => ?_) (fun h => by cases h)
   refine E.seq ?_
   refine E.reg hr (by simp; rfl) ?_
   refine E.ret ?_
   exact outK.ret rfl rfl (exFreshE (m := n) (Nat.le_refl _) (fun h => absurd rfl h) hSf)
 | some ys =>
   obtain ⟨Hz, hHz⟩ : ∃ Hz, exH (N + 1) (some ys) ++ X3 = Hz := ⟨_, rfl⟩
   have hSz : Sub X3 Hz := by
     rw [← hHz]
     cases ys with
     | nil => exact Sub.refl _
     | cons y ys => exact Sub.cons (namesOk_none hnm3 _ (Nat.le_refl _)) (Sub.refl _)
   have hzm : ys ≠ [] → hget Hz (N + 1) = some (exB ys) := fun hne => by
     rw [← hHz]
     cases ys with
     | nil => exact absurd rfl hne
     | cons y ys => rw [exH, List.cons_append, hget_cons, if_pos rfl]
   have hnm4 : namesOk (N + 1 + 1) Hz = true := by
     rw [← hHz]
     cases ys with
     | nil => exact namesOk_mono (by omega) _ hnm3
     | cons y ys => exact namesOk_put (by omega) (namesOk_mono (by omega) _ hnm3)
   have hx1 : exT (N + 1) (some ys) = .tuple #[exV (N + 1) ys.length, .bool true] := rfl
   rw [hx1, hHz] at h154
   obtain ⟨ev, hev⟩ : ∃ ev, exV (N + 1) ys.length = ev := ⟨_, rfl⟩
   rw [hev] at h154
   refine E.drawU mixed hr [11] [3, 8, 10, 11] [0, 1, 3, 8, 10, 11] (by kernel_rfl) (by simp [-cellA, -cellsA, -flat, -readA, cellsA_read, hnm0, hpl0, hb0, h116, htk0, hleM, hnM1, hX1, hnn, hb1, hpl1, h135, htk2, hMN, hd5, hX2, hpl2, h153, htk3, hnb3, hX3, h154, hnm4]; rfl) ?_
   refine E.seq ?_
   refine E.seq ?_
   refine E.reg hr (by simp; rfl) ?_
   refine E.cond (t := false) (by simp) (fun h => by cases h) (fun _ => ?_)
   refine E.skip ?_
   refine E.seq ?_
   refine E.reg hr (by simp; rfl) ?_
   refine E.ret ?_
   exact outK.ret rfl rfl (by rw [← hev]; exact exFreshE (m := N + 1) (by omega) hzm (hSf.trans hSz))
open Classical in
noncomputable def g79 (args : List Value) (H : Heap) (n : Nat) : R := match args with
 | [x, .string d, u] => match fltV H u with
   | some fs => if h : hget H 0 = some (.inp 0 names0) ∧ ∃ l, OwnS H x l then some (exU n (explE (Classical.choose h.2) d fs).1 (explE (Classical.choose h.2) d fs).2, exK n (explE (Classical.choose h.2) d fs).1 ++ H, n + 1) else none
   | none => none
 | _ => none
theorem g79_at {H : Heap} {n : Nat} {x u : Value} {l : List Gun} {d : ByteArray} {fs : List Nat} (h0 : hget H 0 = some (.inp 0 names0)) (hx : OwnS H x l) (hV : fltV H u = some fs) : g79 [x, sv d, u] H n = some (exU n (explE l d fs).1 (explE l d fs).2, exK n (explE l d fs).1 ++ H, n + 1) := by
 simp only [g79, hV]
 rw [dif_pos ⟨h0, l, hx⟩, (Classical.choose_spec (p := fun l => OwnS H x l) ⟨l, hx⟩).one hx]
theorem ok79 : EntOk Tryz.prog (79, g79) := by
 intro args H n v H' n' h
 simp only [g79] at h
 split at h
 · split at h
   · rename_i fs h1
     split at h
     · rename_i h2
       injection h with h; injection h with e1 e2; injection e2 with e2 e3; subst e1 e2 e3
       exact w79 h2.1 (Classical.choose_spec h2.2) h1
     · cases h
   · cases h
 · cases h
end Go.Proofs.YtndlfijfjglkdaaGreatDoor

namespace Go.Ab
open Go
end Go.Ab

namespace Go.Proofs.YtndlfijfjglkdaaGreatDoor
open Go Go.Ab Go.Proofs Ieee
theorem fltV_ext {H : Heap} {k c t : Nat} {l : List Nat} (h : hget H k = some (.ext (l.map fv) t 1)) (hl : l.length < 2147483648) : fltV H (.slice (some ⟨k, 0, some 0⟩) l.length c) = some l := by
 have e : ∀ l : List Nat, l.flatMap (fun b => [fv b]) = l.map fv := fun l => by
   induction l with
   | nil => rfl
   | cons x l ih => rw [List.flatMap_cons, ih]; rfl
 refine listV_flat (c := fun b : Nat => [fv b]) (fun _ => rfl) (fun _ => rfl) rfl ?_ hl
 show cellsA H k 0 _ = _
 rw [cellsA_eq, h, e]
 simp [cellsB]
 exact List.take_of_length_le (by simp)
def refS (l : List Gun) (d : ByteArray) (sh : List Int) (W : Nat) : List Nat := (sigN l sh d W l.length).map sampB
end Go.Proofs.YtndlfijfjglkdaaGreatDoor

namespace Go.Proofs.YtndlfijfjglkdaaGreatDoor
open Go Go.Ab Go.Proofs Ieee
def refX (l : List Gun) (d : ByteArray) (fs : List Nat) : Nat → List Int → Option (List Int)
 | 0, sh => if sameF (refS l d sh fs.length) fs = true then some sh else none
 | r + 1, sh => firstS (fun s => refX l d fs r (sh ++ [s])) (gAt l (l.length - (r + 1))).lo (((gAt l (l.length - (r + 1))).hi - (gAt l (l.length - (r + 1))).lo + 1).toNat)
def okSh (l : List Gun) (sh : List Int) : Prop := ∀ j (h : j < sh.length), (gAt l j).lo ≤ sh[j] ∧ sh[j] ≤ (gAt l j).hi
theorem okSh_all {l : List Gun} {sh : List Int} (h : okSh l sh) (hl : sh.length = l.length) : shE l sh = 0 := by
 refine shE_ok hl fun j hj => ?_
 rw [shC_at hj (by omega)]
 have := h j (by omega)
 rw [gAt_at l hj] at this
 exact (withinV_zero _ _ _).2 this
theorem okSh_more {l : List Gun} {sh : List Int} {s : Int} (h : okSh l sh) (h1 : (gAt l sh.length).lo ≤ s ∧ s ≤ (gAt l sh.length).hi) : okSh l (sh ++ [s]) := by
 intro j hj
 by_cases e : j < sh.length
 · rw [List.getElem_append_left e]; exact h j e
 · have : j = sh.length := by simp at hj; omega
   subst this
   simpa using h1
end Go.Proofs.YtndlfijfjglkdaaGreatDoor

namespace Go.Proofs.YtndlfijfjglkdaaGreatDoor
open Go Go.Ab Go.Proofs Ieee
end Go.Proofs.YtndlfijfjglkdaaGreatDoor

namespace Go.Proofs.YtndlfijfjglkdaaGreatDoor
open Go Go.Ab Go.Proofs Ieee
def refK (l : List Gun) (d : ByteArray) (fs : List Nat) : List Int × Int := ansE (refX l d fs l.length [])
theorem strAt_form {H : Heap} {x : Value} {l : List Gun} (h : strAt H x = some l) : ∃ oa c, x = .agg ⟨[.slice oa l.length c]⟩ := by
 unfold strAt at h
 split at h
 · injection h with h; subst h; exact ⟨none, 0, rfl⟩
 · obtain ⟨_, _, rfl, _⟩ := gunsAt_ok h
   exact ⟨_, _, rfl⟩
 · cases h
theorem w76 {H : Heap} {n : Nat} {x : Value} {l : List Gun} (hx : strAt H x = some l) : AC Tryz.prog 76 [x] H n (.bool (decide (l.length ≤ 4))) H n := by
 refine AC.given fun hold hsc hgn => AC.tidied (B := []) (by simp) ?_
 have hr := recT_ok (P := Tryz.prog) (l := []) (by simp)
 obtain ⟨oa, c, rfl⟩ := strAt_form hx
 refine AC.pure Tryz.func76 rfl (by kernel_rfl) rfl [0, 1, 2] rfl ?_
 refine E.seq ?_
 refine E.reg hr (by simp; rfl) ?_
 refine E.seq ?_
 refine E.reg hr (by simp; rfl) ?_
 refine E.ret ?_
 exact pureK.ret rfl rfl (by simp; omega) (Sub.cons (by simp) (Sub.refl _))
def g76 (args : List Value) (H : Heap) (n : Nat) : R := match args with
 | [x] => (strAt H x).map fun l => (.bool (decide (l.length ≤ 4)), H, n)
 | _ => none
theorem ok76 : EntOk Tryz.prog (76, g76) := by
 intro args H n v H' n' h
 simp only [g76] at h
 split at h
 · rw [Option.map_eq_some_iff] at h
   obtain ⟨l, h1, h⟩ := h
   injection h with e1 e2; injection e2 with e2 e3; subst e1 e2 e3
   exact w76 h1
 · cases h
end Go.Proofs.YtndlfijfjglkdaaGreatDoor

namespace Go.Proofs.YtndlfijfjglkdaaGreatDoor
open Go Go.Ab Go.Proofs Ieee
theorem samp_val {n : Int} (h1 : -4096 ≤ n) (h2 : n ≤ 4096) : fin32 (sampB n) = true ∧ 16 * val32 (sampB n) = n * UV := by
 obtain ⟨r, e, h3, h4⟩ := div16 (n := n) (by omega)
 have : sampB n = r := by
   unfold sampB sampQ
   rw [show FloatKind.f32.format = single from rfl, e]
   rfl
 rw [this]
 exact ⟨h3, h4⟩
theorem val_six {a b n m u : Int} (hu : 0 < u) (ha : 16 * a = n * u) (hb : 16 * b = m * u) : a = b ↔ n = m := by
 constructor
 · intro e
   subst e
   rw [ha] at hb
   exact Int.eq_of_mul_eq_mul_right (by omega) hb
 · intro e
   subst e
   omega
theorem good_fin {b : Nat} (h : good32 b = true) : fin32 b = true := by
 unfold good32 at h
 simp only [Bool.and_eq_true] at h
 exact h.1.1
theorem eqF_samp {n : Int} {b : Nat} (h1 : -4096 ≤ n) (h2 : n ≤ 4096) (hb : good32 b = true) : eqF (sampB n) b = decide (n = six32 b) := by
 obtain ⟨h3, h4⟩ := samp_val h1 h2
 obtain ⟨h5, _⟩ := good_six hb
 unfold eqF
 rw [show FloatKind.f32.format = single from rfl, ord32 h3 (good_fin hb), cmp_eq]
 have hu : (0 : Int) < (UV : Int) := by have := UV_pos; omega
 have := val_six hu h4 h5
 by_cases e : n = six32 b
 · rw [decide_eq_true e, decide_eq_true (this.2 e)]
 · rw [decide_eq_false e, decide_eq_false fun h => e (this.1 h)]
theorem sameF_samp : ∀ (ns : List Int) (fs : List Nat), (∀ x ∈ ns, -4096 ≤ x ∧ x ≤ 4096) → (∀ b ∈ fs, good32 b = true) → sameF (ns.map sampB) fs = decide (ns = fs.map six32)
 | [], [], _, _ => rfl
 | [], b :: fs, _, _ => by simp [sameF]
 | n :: ns, [], _, _ => by simp [sameF]
 | n :: ns, b :: fs, h1, h2 => by
   obtain ⟨ha, hb⟩ := h1 n (List.mem_cons_self ..)
   have hg := h2 b (List.mem_cons_self ..)
   have ih := sameF_samp ns fs (fun x hx => h1 x (List.mem_cons_of_mem _ hx)) fun x hx => h2 x (List.mem_cons_of_mem _ hx)
   rw [List.map_cons, List.map_cons, sameF, ih, eqF_samp ha hb hg]
   by_cases e : n = six32 b <;> by_cases e2 : ns = fs.map six32 <;> simp [e, e2]
theorem firstS_in {β : Type} {f : Int → Option β} {y : β} : ∀ (m : Nat) (s : Int), firstS f s m = some y → ∃ k : Nat, k < m ∧ f (s + k) = some y
 | 0, _, h => by cases h
 | m + 1, s, h => by
   rw [firstS] at h
   split at h
   · rename_i z hz
     injection h with h
     exact ⟨0, by omega, by rw [← h]; simpa using hz⟩
   · obtain ⟨k, hk, he⟩ := firstS_in m _ h
     exact ⟨k + 1, by omega, by rw [← he]; congr 1; omega⟩
theorem firstS_map {β γ : Type} {f : Int → Option β} {g : Int → Option γ} {h : γ → β} : ∀ (m : Nat) (s : Int), (∀ k : Nat, k < m → f (s + k) = (g (s + k)).map h) → firstS f s m = (firstS g s m).map h
 | 0, _, _ => rfl
 | m + 1, s, hh => by
   have h0 := hh 0 (by omega)
   have ih := firstS_map (f := f) (g := g) (h := h) m (s + 1) fun k hk => by
     have := hh (k + 1) (by omega)
     rw [show s + ((k + 1 : Nat) : Int) = s + 1 + k by omega] at this
     exact this
   rw [show s + ((0 : Nat) : Int) = s by omega] at h0
   rw [firstS, firstS, h0, ih]
   cases g s <;> rfl
theorem mnF_le {P : Nat → Int} : ∀ (n t : Nat), t ≤ n → mnF P n ≤ P t
 | 0, t, h => by
   obtain rfl : t = 0 := by omega
   exact Int.le_refl _
 | n + 1, t, h => by
   rw [mnF]
   by_cases e : t = n + 1
   · subst e; omega
   · have := mnF_le (P := P) n t (by omega); omega
theorem le_mxF {P : Nat → Int} : ∀ (n t : Nat), t ≤ n → P t ≤ mxF P n
 | 0, t, h => by
   obtain rfl : t = 0 := by omega
   exact Int.le_refl _
 | n + 1, t, h => by
   rw [mxF]
   by_cases e : t = n + 1
   · subst e; omega
   · have := le_mxF (P := P) n t (by omega); omega
theorem pulse_in {g : Gun} {s q : Int} (h : g.lo ≤ s ∧ s ≤ g.hi) : gMn g q ≤ pulseV g.v s q ∧ pulseV g.v s q ≤ gMx g q := by
 have e : gP g q (s - g.lo).toNat = pulseV g.v s q := by
   unfold gP
   congr 1
   omega
 rw [← e]
 have hk : (s - g.lo).toNat ≤ gK g := by unfold gK; omega
 exact ⟨mnF_le _ _ hk, le_mxF _ _ hk⟩
theorem sumP_app {l : List Gun} {d : ByteArray} {j : Int} {sh t : List Int} : ∀ i, i ≤ sh.length → sumP l (sh ++ t) d j i = sumP l sh d j i
 | 0, _ => rfl
 | i + 1, h => by
   have e : (sh ++ t).getD i 0 = sh.getD i 0 := by rw [List.getD_eq_getElem?_getD, List.getD_eq_getElem?_getD, List.getElem?_append_left (by omega)]
   rw [sumP, sumP, sumP_app i (by omega), e]
theorem enc_in {l : List Gun} {d : ByteArray} {zs : List Int} (hz : okSh l zs) (hl : zs.length = l.length) (j : Int) : ∀ r, r ≤ l.length → (encT l d j r).1 ≤ sumP l zs d j l.length - sumP l zs d j (l.length - r) ∧ sumP l zs d j l.length - sumP l zs d j (l.length - r) ≤ (encT l d j r).2
 | 0, _ => by simp [encT]
 | r + 1, h => by
   obtain ⟨h1, h2⟩ := enc_in (d := d) hz hl j r (by omega)
   have e : l.length - r = (l.length - (r + 1)) + 1 := by omega
   rw [e, sumP] at h1 h2
   have hi : l.length - (r + 1) < l.length := by omega
   have hb := hz (l.length - (r + 1)) (by omega)
   have hp := pulse_in (q := j - (arrL d l).getD (l.length - (r + 1)) 0) hb
   have hv : vAt l (l.length - (r + 1)) = (gAt l (l.length - (r + 1))).v := by rw [vAt_at hi, gAt_at l hi]
   have hs : zs.getD (l.length - (r + 1)) 0 = zs[l.length - (r + 1)]'(by omega) := getD_at (by omega)
   rw [hv, hs] at h1 h2
   rw [encT]
   dsimp only
   omega
end Go.Proofs.YtndlfijfjglkdaaGreatDoor

namespace Go.Proofs.YtndlfijfjglkdaaGreatDoor
open Go Go.Ab Go.Proofs Ieee
theorem refX_spec {l : List Gun} {d : ByteArray} {fs : List Nat} (hst : strE l = 0) : ∀ (r : Nat) (sh zs : List Int), okSh l sh → sh.length + r = l.length → refX l d fs r sh = some zs → (∃ ys, zs = sh ++ ys) ∧ okSh l zs ∧ zs.length = l.length ∧ sameF (refS l d zs fs.length) fs = true
 | 0, sh, zs, ho, hl, h => by
   rw [refX] at h
   split at h
   · rename_i hs
     injection h with h
     subst h
     exact ⟨⟨[], by simp⟩, ho, by omega, hs⟩
   · cases h
 | r + 1, sh, zs, ho, hl, h => by
   rw [refX] at h
   obtain ⟨k, hk, he⟩ := firstS_in _ _ h
   have hi : sh.length < l.length := by omega
   have hor := gun_order hst l[sh.length] (List.getElem_mem hi)
   have e : l.length - (r + 1) = sh.length := by omega
   rw [e] at hk he
   rw [gAt_at l hi] at hk he
   have hb : (gAt l sh.length).lo ≤ l[sh.length].lo + k ∧ l[sh.length].lo + k ≤ (gAt l sh.length).hi := by
     rw [gAt_at l hi]
     omega
   obtain ⟨⟨ys, h1⟩, h2⟩ := refX_spec hst r _ zs (okSh_more ho hb) (by rw [List.length_append, List.length_singleton]; omega) he
   exact ⟨⟨_ :: ys, by rw [h1, List.append_assoc]; rfl⟩, h2⟩
theorem hit_sum {l : List Gun} {d : ByteArray} {fs : List Nat} {zs : List Int} (hst : strE l = 0) (hg : ∀ b ∈ fs, good32 b = true) (hW : 1 ≤ fs.length ∧ fs.length ≤ 64) (ho : okSh l zs) (hl : zs.length = l.length) : sameF (refS l d zs fs.length) fs = decide (∀ j, j < fs.length → sumP l zs d j l.length = (fs.map six32).getD j 0) := by
 have hsh := okSh_all ho hl
 have hsamp : sampAll (sigN l zs d fs.length l.length) := by
   have := sig_samp hst hsh d (w := (fs.length : Int)) (by omega)
   rwa [Int.toNat_natCast] at this
 rw [refS, sameF_samp _ _ hsamp.2.2 hg]
 congr 1
 apply propext
 have hat : ∀ j, j < fs.length → (sigN l zs d fs.length l.length)[j]? = some (sumP l zs d j l.length) := fun j hj => sigN_get hst hsh d hj _ (Nat.le_refl _)
 have hsx : ∀ j, j < fs.length → (fs.map six32)[j]? = some ((fs.map six32).getD j 0) := fun j hj => by
   rw [List.getD_eq_getElem?_getD, List.getElem?_eq_getElem (by simpa using hj)]
   rfl
 constructor
 · intro e j hj
   have h1 := hat j hj
   rw [e, hsx j hj] at h1
   injection h1 with h1
   exact h1.symm
 · intro h
   apply List.ext_getElem?
   intro j
   by_cases hj : j < fs.length
   · rw [hat j hj, hsx j hj, h j hj]
   · rw [List.getElem?_eq_none (by rw [sigN_length]; omega), List.getElem?_eq_none (by simp; omega)]
theorem outP_rl {ns : List Int} {f : Nat → Int × Int} {W j : Nat} (hj : j < W) : outP ns (rl f W) j = (decide (ns.getD j 0 < (f j).1) || decide ((f j).2 < ns.getD j 0)) := by
 unfold outP
 rw [List.getD_eq_getElem?_getD (l := rl f W), List.getElem?_eq_getElem (by simpa using hj), rl_getElem]
 rfl
theorem outV_in {ns : List Int} {f : Nat → Int × Int} {W : Nat} (hl : ns.length = W) (h : ∀ j, j < W → (f j).1 ≤ ns.getD j 0 ∧ ns.getD j 0 ≤ (f j).2) : outV ns (rl f W) = -1 := by
 unfold outV
 rw [firstOut_none fun j hj => ?_]
 have hj' : j < W := by omega
 obtain ⟨h1, h2⟩ := h j hj'
 rw [outP_rl hj', decide_eq_false (by omega), decide_eq_false (by omega)]
 rfl
theorem outV_neg {ns : List Int} {f : Nat → Int × Int} {W : Nat} (hl : ns.length = W) (h : ¬ 0 ≤ outV ns (rl f W)) : ∀ j, j < W → (f j).1 ≤ ns.getD j 0 ∧ ns.getD j 0 ≤ (f j).2 := by
 intro j hj
 unfold outV at h
 split at h
 · rename_i i _
   exact absurd (Int.natCast_nonneg i) h
 · rename_i hn
   unfold firstOut at hn
   rw [List.find?_range_eq_none] at hn
   have := hn j (by omega)
   rw [outP_rl hj] at this
   simp [-List.getD_eq_getElem?_getD] at this
   omega
theorem search_eq {l : List Gun} {d : ByteArray} {fs : List Nat} (hst : strE l = 0) (hg : ∀ b ∈ fs, good32 b = true) (hW : 1 ≤ fs.length ∧ fs.length ≤ 64) : ∀ (r : Nat) (sh left : List Int), okSh l sh → sh.length + r = l.length → left.length = fs.length → (∀ j : Nat, j < fs.length → left.getD j 0 = (fs.map six32).getD j 0 - sumP l sh d j sh.length) → refX l d fs r sh = (expl l d fs.length r left).map (sh ++ ·) := by
 intro r
 induction r with
 | zero =>
   intro sh left ho hl hlen hleft
   have hl' : sh.length = l.length := by omega
   rw [refX, expl, hit_sum hst hg hW ho hl']
   by_cases hh : ∀ j, j < fs.length → sumP l sh d j l.length = (fs.map six32).getD j 0
   · have ho1 : outV left (rl (encR l d 0) fs.length) = -1 := outV_in hlen fun j hj => by
       rw [hleft j hj, hl', hh j hj]
       show (0 : Int) ≤ _ ∧ _ ≤ (0 : Int)
       omega
     rw [decide_eq_true hh, if_pos rfl, ho1, if_neg (by omega)]
     simp
   · rw [decide_eq_false hh]
     by_cases hp : 0 ≤ outV left (rl (encR l d 0) fs.length)
     · rw [if_pos hp]
       rfl
     · refine absurd (fun j hj => ?_) hh
       have h2 := outV_neg hlen hp j hj
       rw [hleft j hj, hl'] at h2
       have h3 : (0 : Int) ≤ (fs.map six32).getD j 0 - sumP l sh d j l.length ∧ (fs.map six32).getD j 0 - sumP l sh d j l.length ≤ (0 : Int) := h2
       omega
 | succ r ih =>
   intro sh left ho hl hlen hleft
   have hi : sh.length < l.length := by omega
   have e : l.length - (r + 1) = sh.length := by omega
   rw [expl]
   by_cases hp : 0 ≤ outV left (rl (encR l d (r + 1)) fs.length)
   · rw [if_pos hp]
     cases hx : refX l d fs (r + 1) sh with
     | none => rfl
     | some zs =>
       obtain ⟨⟨ys, hz⟩, h2, h3, h4⟩ := refX_spec hst _ _ _ ho hl hx
       rw [hit_sum hst hg hW h2 h3] at h4
       have h5 := of_decide_eq_true h4
       have : outV left (rl (encR l d (r + 1)) fs.length) = -1 := outV_in hlen fun j hj => by
         have hb := enc_in (d := d) h2 h3 j (r + 1) (by omega)
         rw [h5 j hj, e, hz, sumP_app _ (Nat.le_refl _)] at hb
         rw [hleft j hj]
         exact hb
       omega
   · rw [if_neg hp, refX, e]
     refine firstS_map _ _ fun k hk => ?_
     have hor := gun_order hst l[sh.length] (List.getElem_mem hi)
     obtain ⟨s, hs⟩ : ∃ s : Int, (gAt l sh.length).lo + (k : Int) = s := ⟨_, rfl⟩
     have hsb : (gAt l sh.length).lo ≤ s ∧ s ≤ (gAt l sh.length).hi := by
       rw [gAt_at l hi] at hs hk ⊢
       omega
     rw [hs]
     rw [ih (sh ++ [s]) (nextL l d fs.length sh.length left s) (okSh_more ho hsb) (by rw [List.length_append, List.length_singleton]; omega) ?_ ?_]
     · rw [Option.map_map]
       congr 1
       funext y
       simp
     · rw [nextL, subW_length, bubA_length, hlen, Nat.min_self]
     · intro j hj
       obtain ⟨hvb, _, _, _, hlo, hhi⟩ := gun_nums hst l[sh.length] (List.getElem_mem hi)
       have hb := arr_bd hst d hi
       have hs4 : 0 ≤ s ∧ s ≤ 4 := by
         rw [gAt_at l hi] at hsb
         omega
       have hv : (gAt l sh.length).v = l[sh.length].v := by rw [gAt_at l hi]
       have hbub : (bubA (gAt l sh.length).v ((arrL d l).getD sh.length 0) s fs.length)[j]? = some (pulseV l[sh.length].v s (j - (arrL d l).getD sh.length 0)) := by
         have := addAll_get (l := zeros fs.length) (v := l[sh.length].v) (s := s) (b := (arrL d l).getD sh.length 0) hvb hs4 hb (j := j) (by simpa [zeros] using hj) (x := 0) (by simp [zeros, hj]) (by omega)
         rw [bubA, hv, this]
         simp
       have hpl := pulse256 (s := s) (i := (j : Int) - (arrL d l).getD sh.length 0) hvb
       have hsm := sum_bound (sh := sh) hst d j sh.length (by omega)
       have hsix : ((fs.map six32).getD j 0).natAbs ≤ 16384 := by
         rw [List.getD_eq_getElem?_getD, List.getElem?_map, List.getElem?_eq_getElem hj]
         exact (good_six (hg _ (List.getElem_mem hj))).2
       have h8 := (strE_len hst).2
       have hlj := hleft j hj
       have hlj' : left[j]? = some (left.getD j 0) := by
         rw [List.getD_eq_getElem?_getD, List.getElem?_eq_getElem (by omega)]
         rfl
       have hn : (nextL l d fs.length sh.length left s)[j]? = some (IntKind.i64.wrap (left.getD j 0 - pulseV l[sh.length].v s (j - (arrL d l).getD sh.length 0))) := by
         rw [nextL, subW, List.getElem?_zipWith, hlj', hbub]
       rw [List.getD_eq_getElem?_getD, hn, Option.getD_some, List.length_append, List.length_singleton, sumP, sumP_app _ (Nat.le_refl _), vAt_at hi]
       have hgs : (sh ++ [s]).getD sh.length 0 = s := by
         rw [List.getD_eq_getElem?_getD, List.getElem?_append_right (Nat.le_refl _), Nat.sub_self]
         rfl
       rw [hgs, W_in (by omega) (by omega), hlj]
       omega
theorem expl_ref {l : List Gun} {d : ByteArray} {fs : List Nat} (hst : strE l = 0) (hg : ∀ b ∈ fs, good32 b = true) (hW : 1 ≤ fs.length ∧ fs.length ≤ 64) : refX l d fs l.length [] = expl l d fs.length l.length (fs.map six32) := by
 have := search_eq (d := d) hst hg hW l.length [] (fs.map six32) (fun j hj => by simp at hj) (by simp) (by simp) (fun j hj => by simp [sumP])
 rw [this]
 cases expl l d fs.length l.length (fs.map six32) <;> simp
end Go.Proofs.YtndlfijfjglkdaaGreatDoor

namespace Go.Proofs.YtndlfijfjglkdaaGreatDoor
open Go Go.Ab Go.Proofs Ieee
end Go.Proofs.YtndlfijfjglkdaaGreatDoor

namespace Go.Proofs.YtndlfijfjglkdaaGreatDoor
open Go Go.Ab Go.Proofs Ieee
end Go.Proofs.YtndlfijfjglkdaaGreatDoor

namespace Go.Ab
open Go
end Go.Ab

namespace Go.Ab
open Go
end Go.Ab

namespace Go.Proofs.YtndlfijfjglkdaaGreatDoor
open Go Go.Ab Go.Proofs Ieee
end Go.Proofs.YtndlfijfjglkdaaGreatDoor

namespace Go.Proofs.YtndlfijfjglkdaaGreatDoor
open Go Go.Ab Go.Proofs Ieee
end Go.Proofs.YtndlfijfjglkdaaGreatDoor

namespace Go.Proofs.YtndlfijfjglkdaaGreatDoor
open Go Go.Ab Go.Proofs Ieee
end Go.Proofs.YtndlfijfjglkdaaGreatDoor

namespace Go.Proofs.YtndlfijfjglkdaaGreatDoor
open Go Go.Ab Go.Proofs Ieee
end Go.Proofs.YtndlfijfjglkdaaGreatDoor

namespace Go.Ab
open Go Go.RowKit
end Go.Ab

namespace Go.Proofs.YtndlfijfjglkdaaGreatDoor
open Go Go.Ab Go.Proofs Ieee
end Go.Proofs.YtndlfijfjglkdaaGreatDoor

namespace Go.Proofs.YtndlfijfjglkdaaGreatDoor
open Go Go.Ab Go.Proofs Ieee
end Go.Proofs.YtndlfijfjglkdaaGreatDoor

namespace Go.Proofs.YtndlfijfjglkdaaGreatDoor
open Go Go.Ab Go.Proofs Ieee
end Go.Proofs.YtndlfijfjglkdaaGreatDoor

namespace Go.Proofs.YtndlfijfjglkdaaGreatDoor
open Go Go.Ab Go.Proofs Go.Soft
end Go.Proofs.YtndlfijfjglkdaaGreatDoor

namespace Go.Proofs.YtndlfijfjglkdaaGreatDoor
open Go Go.Ab Go.Proofs Go.Soft
end Go.Proofs.YtndlfijfjglkdaaGreatDoor

namespace Go.Proofs.YtndlfijfjglkdaaGreatDoor
open Go Go.Ab Go.Proofs Go.Soft Ieee
end Go.Proofs.YtndlfijfjglkdaaGreatDoor

namespace Go.Proofs.YtndlfijfjglkdaaGreatDoor
open Go Go.Ab Go.Proofs Go.Soft Ieee
def outI (l : List Gun) (d : ByteArray) (fs : List Nat) : Int × Bool := match firstOut (fs.map six32) (encL l d fs.length) with
 | some i => (i, true)
 | none => (0, false)
theorem outE_zero {l : List Gun} {d : ByteArray} {fs : List Nat} (h : listE l d fs = 0) : outE l d fs = .tuple #[iv (outI l d fs).1, .bool (outI l d fs).2, iv 0] := by
 rw [outE, if_pos h, outI, outV]
 cases firstOut (fs.map six32) (encL l d fs.length) with
 | none => rfl
 | some i =>
   have h1 : max (0 : Int) (i : Int) = i := by omega
   have h2 : decide ((0 : Int) ≤ (i : Int)) = true := decide_eq_true (by omega)
   simp only [h1, h2]
theorem explE_zero {l : List Gun} {d : ByteArray} {fs : List Nat} (h : listE l d fs = 0) : explE l d fs = refK l d fs := by
 obtain ⟨h1, _, h3, h4⟩ := listE_zero h
 rw [explE, if_pos h, refK, expl_ref h1 h4 h3]
end Go.Proofs.YtndlfijfjglkdaaGreatDoor

namespace Go.Proofs.YtndlfijfjglkdaaGreatDoor
open Go Go.Ab Go.Proofs
def encE (l : List Gun) (d : ByteArray) (w : Int) : Int := firstV [strE l, dirE d, withinV w 1 64]
theorem encE_zero {l : List Gun} {d : ByteArray} {w : Int} (h : encE l d w = 0) : strE l = 0 ∧ hasW d dirs = true ∧ 1 ≤ w ∧ w ≤ 64 := by
 have hz := (firstV_zero _).1 h
 exact ⟨hz _ (by simp), dirE_zero (hz (dirE d) (by simp)), (withinV_zero _ _ _).1 (hz (withinV w 1 64) (by simp))⟩
theorem encE_nil (d : ByteArray) (w : Int) : encE [] d w = 12 := by simp [encE, firstV, strE]
theorem encR_all (l : List Gun) (d : ByteArray) (W : Nat) : rl (encR l d l.length) W = encL l d W := rl_congr fun i _ => encT_all l d i
def enQ (k : Nat) (l : List Gun) (d : ByteArray) (w : Int) (u : Value) (H : Heap) : Prop := if encE l d w = 0 then ∃ m, u = .tuple #[.slice (some ⟨m, 0, some 0⟩) w.toNat 0, iv 0] ∧ hget H m = some (.ext (pcs (encL l d w.toNat)) 92 2) ∧ k ≤ m else u = .tuple #[.slice none 0 0, iv (encE l d w)]
abbrev H43 (l : List Gun) : Heap := [(10, .row (gcs l) 7), (0, .inp 0 names0)]
set_option maxRecDepth 100000 in
theorem w43 (l : List Gun) (d : ByteArray) (w : Int) (hl : l.length < 2 ^ 63) : ∃ u H1 n1 H2, AC Tryz.prog 43 [rowV l.length, sv d, iv w] (H43 l) 11 u H1 n1 ∧ enQ 11 l d w u H2 ∧ (af u = false → H1 = H2) := by
 have hr := recT_ok (P := Tryz.prog) (l := [(31, g31), (115, g115), (127, g1 fun a => withinV a 1 64), (113, g113)]) (by simp only [List.forall_mem_cons]; exact ⟨ok31, ok115, ok127, ok113, by simp⟩)
 refine AC.out Tryz.func43 rfl (by kernel_rfl) rfl [] ?_
 refine E.seq ?_
 refine E.reg hr (by simp; rfl) ?_
 refine E.seq ?_
 refine E.seq ?_
 refine E.reg hr (by simp [g31, rowOf, gunsOf_gcs, hl, g115, g113]; rfl) ?_
 refine E.seq ?_
 refine E.reg hr (by simp; rfl) ?_
 refine E.cond (by rfl) (fun h => ?_) (fun h => ?_)
 · simp at h
   have h' : ¬ encE l d w = 0 := h
   refine E.seq ?_
   refine E.reg hr (by simp; rfl) ?_
   refine E.ret ?_
   refine outK.ret rfl rfl ?_
   unfold enQ
   rw [if_neg h']
   rfl
 · simp at h
   have h' : encE l d w = 0 := h
   obtain ⟨hst, hd, hw1, hw2⟩ := encE_zero h'
   obtain ⟨W, rfl⟩ := Int.eq_ofNat_of_zero_le (show 0 ≤ w by omega)
   have hAC := w135 l d W hst hd ⟨by omega, by omega⟩
   obtain ⟨q, hq, hcall⟩ : ∃ q : Rec, RecOk Tryz.prog q 0 ∧ q.call 135 [rowV l.length, sv d, iv W] (H135 l) 12 = some (.slice (some ⟨16, 0, none⟩) (l.length + 1) (l.length + 1), fin135 l d W, 23) :=
     ⟨recV Tryz.prog (fun _ _ _ => none) (fun _ _ _ _ => some (.slice (some ⟨16, 0, none⟩) (l.length + 1) (l.length + 1), fin135 l d W, 23)), recV_ok, recV_call rfl hAC⟩
   have hL1 : (0 : Int) < (l.length : Int) + 1 := by omega
   refine E.skip ?_
   refine E.lead { fr := [(1, sv d), (2, iv W), (3, .pointer (some ⟨11, 0, none⟩))], sz := 26, H := H135 l, n := 12, marks := [], vs := [] } (Leads.ren [11] rfl rfl rfl ⟨rfl, rfl⟩ (by simp) (by simp)) ?_
   refine E.seq ?_
   refine E.reg hq (by simp [hcall, hL1]; rfl) ?_
   refine E.ret ?_
   refine outK.ret rfl rfl ?_
   unfold enQ
   rw [if_pos h']
   exact ⟨22, by simp, by simp [encR_all], by omega⟩
set_option maxRecDepth 100000 in
theorem w43n (d : ByteArray) (w : Int) : AC Tryz.prog 43 [nilV, sv d, iv w] [(0, .inp 0 names0)] 10 (.tuple #[.slice none 0 0, iv 12]) [(0, .inp 0 names0)] 10 := by
 have hr := recT_ok (P := Tryz.prog) (l := [(31, g31), (115, g115), (127, g1 fun a => withinV a 1 64), (113, g113)]) (by simp only [List.forall_mem_cons]; exact ⟨ok31, ok115, ok127, ok113, by simp⟩)
 have hf : firstV [12, dirE d, withinV w 1 64] = 12 := rfl
 refine AC.pure Tryz.func43 rfl (by kernel_rfl) rfl [] rfl ?_
 refine E.seq ?_
 refine E.reg hr (by simp; rfl) ?_
 refine E.seq ?_
 refine E.seq ?_
 refine E.reg hr (by simp [g31, strE, g115, g113]; rfl) ?_
 refine E.seq ?_
 refine E.reg hr (by simp; rfl) ?_
 refine E.cond (by rfl) (fun h => ?_) (fun h => ?_)
 rotate_left
 · simp at h
   rw [hf] at h
   omega
 refine E.seq ?_
 refine E.reg hr (by simp; rfl) ?_
 refine E.ret ?_
 exact pureK.ret rfl rfl (by simp; exact hf) (by repeat first | exact sub_refl _ | refine sub_cons rfl ?_)
def gEnc (l : List Gun) (d : ByteArray) (w : Int) (H : Heap) (n : Nat) : R := if encE l d w = 0 then some (.tuple #[.slice (some ⟨n, 0, some 0⟩) w.toNat 0, iv 0], (n, .ext (pcs (encL l d w.toNat)) 92 2) :: H, n + 1) else some (.tuple #[.slice none 0 0, iv (encE l d w)], H, n)
open Classical in
noncomputable def g43 (args : List Value) (H : Heap) (n : Nat) : R := match args with
 | [v, .string d, .int .i64 w] => match strR H v with
   | some l => if hget H 0 = some (.inp 0 names0) then gEnc l d w H n else none
   | none => none
 | _ => none
theorem ok43 : EntOk Tryz.prog (43, g43) := by
 intro args H n v H' n' h'
 simp only [g43] at h'
 split at h'
 · rename_i v0 d w
   split at h'
   · rename_i l hg
     split at h'
     · rename_i h0
       unfold strR at hg
       split at hg
       · injection hg with hg; subst hg
         unfold gEnc at h'
         rw [encE_nil, if_neg (by decide)] at h'
         injection h' with h'; injection h' with e1 e2; injection e2 with e2 e3; subst e1 e2 e3
         exact AC.liftP rfl (Part.plain (by simp) [(0, .inp 0 names0)] (seen0 h0) gsz ⟨_, _, w43n d w⟩)
       · split at hg
         · rename_i b len x l' hg'
           split at hg
           · injection hg with hg; subst hg
             obtain ⟨hb, rfl, hlt⟩ := rowGuns_ok hg'
             have hp : ∀ (R : List Value → Heap → Nat → Prop), R [rowV l'.length, sv d, iv w] (H43 l') 11 → Part Tryz.prog [.agg ⟨[.slice (some ⟨b, 0, some 0⟩) l'.length 0]⟩, .string d, .int .i64 w] H n R := fun R hR => Part.genG [⟨_, .row (gcs l') 7⟩] [(0, .inp 0 names0)] (seen0 h0) gsz (fun u hu => by rw [List.mem_singleton] at hu; subst hu; exact ⟨hb, afL_gcs l'⟩) fun φ => ⟨[rowV l'.length, sv d, iv w], fun φ0 hv => by
               obtain ⟨h1, h2⟩ := hv 0 _ rfl
               simp only [Nat.add_zero] at h1 h2
               simp [denL, den, h1, h2], by simp [scL, sc], hR⟩
             unfold gEnc at h'
             split at h'
             · rename_i he
               injection h' with h'; injection h' with e1 e2; injection e2 with e2 e3; subst e1 e2 e3
               refine AC.liftF (names_tx _ _ _) (.inr ⟨_, _, _, rfl, afL_pcs _⟩) (hp _ ?_)
               obtain ⟨u, H1, n1, H2, hAC, hq, hh⟩ := w43 l' d w hlt
               unfold enQ at hq
               rw [if_pos he] at hq
               obtain ⟨m, hu, hm, hle⟩ := hq
               subst hu
               have := hh (by simp)
               subst this
               exact ⟨m, _, _, hle, hm, hAC⟩
             · rename_i he
               injection h' with h'; injection h' with e1 e2; injection e2 with e2 e3; subst e1 e2 e3
               refine AC.liftP rfl (hp _ ?_)
               obtain ⟨u, H1, n1, H2, hAC, hq, _⟩ := w43 l' d w hlt
               unfold enQ at hq
               rw [if_neg he] at hq
               subst hq
               exact ⟨_, _, hAC⟩
           · cases hg
         · cases hg
       · cases hg
     · cases h'
   · cases h'
 · cases h'
end Go.Proofs.YtndlfijfjglkdaaGreatDoor

namespace Go.Proofs.YtndlfijfjglkdaaGreatDoor
open Go Go.Ab Go.Proofs Ieee
theorem good_samp {n : Int} (h1 : -4096 ≤ n) (h2 : n ≤ 4096) : good32 (sampB n) = true ∧ six32 (sampB n) = n := by
 obtain ⟨h3, h4⟩ := samp_val h1 h2
 have hu := UV_pos
 have h5 : six32 (sampB n) = n := by
   unfold six32
   rw [h4]
   exact Int.mul_tdiv_cancel _ (by omega)
 refine ⟨?_, h5⟩
 unfold good32
 rw [h3, h4, Bool.true_and, Bool.and_eq_true, decide_eq_true_eq, decide_eq_true_eq, Int.natAbs_mul]
 have h6 : 16 * (val32 (sampB n)).natAbs = n.natAbs * UV := by
   have := congrArg Int.natAbs h4
   rw [Int.natAbs_mul, Int.natAbs_mul, Int.natAbs_natCast] at this
   exact this
 refine ⟨?_, by rw [Int.natAbs_natCast]; exact Nat.dvd_mul_left _ _⟩
 have h7 : n.natAbs * UV ≤ 16384 * UV := Nat.mul_le_mul_right _ (by omega)
 have h8 : (16384 : Nat) * UV = 16 * (2 ^ 10 * UV) := by
   rw [← Nat.mul_assoc]
 omega
theorem samps_good {ns : List Int} (h : ∀ x ∈ ns, -4096 ≤ x ∧ x ≤ 4096) : (∀ b ∈ ns.map sampB, good32 b = true) ∧ (ns.map sampB).map six32 = ns := by
 refine ⟨fun b hb => ?_, ?_⟩
 · obtain ⟨x, hx, rfl⟩ := List.mem_map.1 hb
   exact (good_samp (h x hx).1 (h x hx).2).1
 · rw [List.map_map]
   conv => rhs; rw [← List.map_id ns]
   exact List.map_congr_left fun x hx => (good_samp (h x hx).1 (h x hx).2).2
theorem good_err {b : Nat} (h : good32 b = true) : err32 b = 0 := by
 unfold err32
 rw [if_pos (good_fin h), if_pos h]
theorem good_list {l : List Gun} {d : ByteArray} {fs : List Nat} (hst : strE l = 0) (hd : hasW d dirs = true) (hW : 1 ≤ fs.length ∧ fs.length ≤ 64) (hg : ∀ b ∈ fs, good32 b = true) : listE l d fs = 0 := by
 have h1 : dirE d = 0 := if_pos hd
 have h2 : firstV (fs.map err32) = 0 := (firstV_zero _).2 fun e he => by
   obtain ⟨b, hb, rfl⟩ := List.mem_map.1 he
   exact good_err (hg b hb)
 have h3 : lstV fs = 0 := by
   unfold lstV chkV
   rw [if_neg (by omega), if_neg (by omega), h2]
 rw [listE, hst, h1, h3]
 rfl
section
variable {l : List Gun} {d : ByteArray} {sh : List Int} {W : Nat}
theorem ok_sh (h : shE l sh = 0) : okSh l sh ∧ sh.length = l.length := by
 obtain ⟨h1, h2⟩ := shE_zero h
 refine ⟨fun j hj => ?_, h1⟩
 rw [gAt_at l (by omega)]
 exact h2 j (by omega) hj
theorem sig_in (hst : strE l = 0) (hsh : shE l sh = 0) : ∀ x ∈ sigN l sh d W l.length, -4096 ≤ x ∧ x ≤ 4096 := fun x hx => by
 obtain ⟨i, hi, rfl⟩ := List.getElem_of_mem hx
 have hi' : i < W := by simpa using hi
 have h1 := sigN_get hst hsh d hi' l.length (Nat.le_refl _)
 rw [List.getElem?_eq_getElem hi] at h1
 injection h1 with h1
 rw [h1]
 have := sum_bound (sh := sh) hst d i l.length (Nat.le_refl _)
 have := strE_len hst
 omega
theorem sig_at (hst : strE l = 0) (hsh : shE l sh = 0) {j : Nat} (hj : j < W) : (sigN l sh d W l.length).getD j 0 = sumP l sh d j l.length := by
 rw [List.getD_eq_getElem?_getD, sigN_get hst hsh d hj l.length (Nat.le_refl _)]
 rfl
theorem refS_good (hst : strE l = 0) (hsh : shE l sh = 0) : (∀ b ∈ refS l d sh W, good32 b = true) ∧ (refS l d sh W).map six32 = sigN l sh d W l.length := samps_good (sig_in hst hsh)
theorem refS_len : (refS l d sh W).length = W := by simp [refS]
theorem refS_list (hst : strE l = 0) (hsh : shE l sh = 0) (hd : hasW d dirs = true) (hW : 1 ≤ W ∧ W ≤ 64) : listE l d (refS l d sh W) = 0 := good_list hst hd (by rw [refS_len]; exact hW) (refS_good hst hsh).1
theorem sum_enc (hsh : shE l sh = 0) (j : Int) : (encS l d j l.length).1 ≤ sumP l sh d j l.length ∧ sumP l sh d j l.length ≤ (encS l d j l.length).2 := by
 obtain ⟨h1, h2⟩ := ok_sh hsh
 have := enc_in (d := d) h1 h2 j l.length (Nat.le_refl _)
 rw [encT_all, Nat.sub_self] at this
 simpa [sumP] using this
theorem refS_out (hst : strE l = 0) (hsh : shE l sh = 0) : outI l d (refS l d sh W) = (0, false) := by
 have h : firstOut ((refS l d sh W).map six32) (encL l d (refS l d sh W).length) = none := by
   rw [refS_len, (refS_good hst hsh).2]
   refine firstOut_none fun j hj => ?_
   have hj' : j < W := by simpa using hj
   rw [encL, outP_rl hj', sig_at hst hsh hj']
   have := sum_enc (d := d) hsh j
   simp only [Bool.or_eq_false_iff, decide_eq_false_iff_not]
   omega
 rw [outI, h]
end
theorem firstS_some {β : Type} {f : Int → Option β} : ∀ (m : Nat) (s : Int) (k : Nat), k < m → (f (s + k)).isSome = true → (firstS f s m).isSome = true
 | m + 1, s, k, hk, h => by
   rw [firstS]
   cases hf : f s with
   | some y => rfl
   | none =>
     cases k with
     | zero =>
       rw [show s + ((0 : Nat) : Int) = s by omega, hf] at h
       cases h
     | succ k => exact firstS_some m (s + 1) k (by omega) (by rw [show s + 1 + (k : Int) = s + ((k + 1 : Nat) : Int) by omega]; exact h)
section
variable {l : List Gun} {d : ByteArray} {sh : List Int} {W : Nat}
theorem refX_hit {fs : List Nat} (ho : okSh l sh) (hl : sh.length = l.length) (hs : sameF (refS l d sh fs.length) fs = true) : ∀ r, r ≤ l.length → (refX l d fs r (sh.take (l.length - r))).isSome = true
 | 0, _ => by
   rw [Nat.sub_zero, List.take_of_length_le (by omega), refX, if_pos hs]
   rfl
 | r + 1, h => by
   have hj : l.length - (r + 1) < sh.length := by omega
   have hb := ho _ hj
   rw [refX]
   refine firstS_some _ _ (sh[l.length - (r + 1)] - (gAt l (l.length - (r + 1))).lo).toNat (by omega) ?_
   have e : (gAt l (l.length - (r + 1))).lo + ((sh[l.length - (r + 1)] - (gAt l (l.length - (r + 1))).lo).toNat : Int) = sh[l.length - (r + 1)] := by omega
   have e2 : sh.take (l.length - (r + 1)) ++ [sh[l.length - (r + 1)]] = sh.take (l.length - r) := by
     rw [← List.take_succ_eq_append_getElem hj]
     congr 1
     omega
   show (refX l d fs r (_ ++ [_])).isSome = true
   rw [e, e2]
   exact refX_hit ho hl hs r (by omega)
theorem expl_sig (hst : strE l = 0) (hsh : shE l sh = 0) (hW : 1 ≤ W ∧ W ≤ 64) : ∃ ys, refK l d (refS l d sh W) = (ys, 0) ∧ shE l ys = 0 ∧ ys.length = l.length ∧ refS l d ys W = refS l d sh W := by
 obtain ⟨ho, hl⟩ := ok_sh hsh
 obtain ⟨hg, h6⟩ := refS_good (d := d) (W := W) hst hsh
 have hself : sameF (refS l d sh (refS l d sh W).length) (refS l d sh W) = true := by
   rw [hit_sum hst hg (by rw [refS_len]; exact hW) ho hl, decide_eq_true_eq]
   intro j hj
   rw [refS_len] at hj
   rw [h6, sig_at hst hsh hj]
 have h1 := refX_hit ho hl hself l.length (Nat.le_refl _)
 rw [Nat.sub_self, List.take_zero] at h1
 obtain ⟨ys, hys⟩ := Option.isSome_iff_exists.1 h1
 obtain ⟨_, h3, h4, h5⟩ := refX_spec hst l.length [] ys (fun j hj => by simp at hj) (by simp) hys
 have hy := okSh_all h3 h4
 refine ⟨ys, by rw [refK, hys]; rfl, hy, h4, ?_⟩
 rw [hit_sum hst hg (by rw [refS_len]; exact hW) h3 h4, decide_eq_true_eq] at h5
 have : sigN l ys d W l.length = sigN l sh d W l.length := by
   refine List.ext_getElem (by simp) fun i h8 h9 => ?_
   have hi : i < W := by simpa using h8
   have e1 := sigN_get hst hy d hi l.length (Nat.le_refl _)
   have e2 := sigN_get hst hsh d hi l.length (Nat.le_refl _)
   rw [List.getElem?_eq_getElem h8] at e1
   rw [List.getElem?_eq_getElem h9] at e2
   injection e1 with e1
   injection e2 with e2
   rw [e1, e2]
   have h10 := h5 i (by rw [refS_len]; exact hi)
   rw [h6, sig_at hst hsh hi] at h10
   exact h10
 rw [refS, this]
 rfl
theorem wrong_sig (hst : strE l = 0) (hsh : shE l sh = 0) (hd : hasW d dirs = true) (hW : 1 ≤ W ∧ W ≤ 64) {i : Nat} (hi : i < W) {fs : List Nat} (hfs : fs = (refS l d sh W).set i (sampB ((encS l d i l.length).2 + 1))) : fs.length = W ∧ listE l d fs = 0 ∧ outI l d fs = ((i : Int), true) ∧ refK l d fs = ([], 18) := by
 have hlen : fs.length = W := by rw [hfs, List.length_set, refS_len]
 have hb := encS_bd (d := d) hst (i : Int) l.length (Nat.le_refl _)
 have hln := strE_len hst
 have hz : -4096 ≤ (encS l d i l.length).2 + 1 ∧ (encS l d i l.length).2 + 1 ≤ 4096 := by omega
 obtain ⟨hg, h6⟩ := refS_good (d := d) (W := W) hst hsh
 have hg' : ∀ b ∈ fs, good32 b = true := fun b hm => by
   rw [hfs] at hm
   rcases List.mem_or_eq_of_mem_set hm with h | h
   · exact hg b h
   · rw [h]; exact (good_samp hz.1 hz.2).1
 have h6' : fs.map six32 = (sigN l sh d W l.length).set i ((encS l d i l.length).2 + 1) := by
   rw [hfs, List.map_set, h6, (good_samp hz.1 hz.2).2]
 have hl0 : listE l d fs = 0 := good_list hst hd (by rw [hlen]; exact hW) hg'
 have hat : ∀ j, j < W → (fs.map six32).getD j 0 = if j = i then (encS l d i l.length).2 + 1 else sumP l sh d j l.length := fun j hj => by
   rw [h6', List.getD_eq_getElem?_getD]
   by_cases h : j = i
   · subst h
     rw [if_pos rfl, List.getElem?_set_self (by simpa using hj)]
     rfl
   · rw [if_neg h, List.getElem?_set_ne (fun e => h e.symm), ← List.getD_eq_getElem?_getD, sig_at hst hsh hj]
 have hlm : (fs.map six32).length = W := by rw [List.length_map, hlen]
 have hout : firstOut (fs.map six32) (encL l d fs.length) = some i := by
   rw [hlen]
   refine firstOut_hit (by rw [hlm]; exact hi) (fun j hj => ?_) ?_
   · rw [encL, outP_rl (by omega), hat j (by omega), if_neg (by omega)]
     have := sum_enc (d := d) hsh j
     simp only [Bool.or_eq_false_iff, decide_eq_false_iff_not]
     omega
   · rw [encL, outP_rl hi, hat i hi, if_pos rfl]
     simp only [Bool.or_eq_true, decide_eq_true_eq]
     omega
 refine ⟨hlen, hl0, by rw [outI, hout], ?_⟩
 rw [refK, expl_ref hst hg' (by rw [hlen]; exact hW)]
 have ho : outV (fs.map six32) (rl (encR l d l.length) fs.length) = i := by rw [encR_all, outV, hout]
 have : expl l d fs.length l.length (fs.map six32) = none := by
   cases hn : l.length with
   | zero => omega
   | succ r =>
     rw [hn] at ho
     rw [expl, if_pos (by rw [ho]; omega)]
 rw [this]
 rfl
end
def amn (P : Nat → Int) : Nat → Nat
 | 0 => 0
 | n + 1 => if P (n + 1) < mnF P n then n + 1 else amn P n
def amx (P : Nat → Int) : Nat → Nat
 | 0 => 0
 | n + 1 => if mxF P n < P (n + 1) then n + 1 else amx P n
theorem amn_ok {P : Nat → Int} : ∀ n, amn P n ≤ n ∧ P (amn P n) = mnF P n
 | 0 => ⟨Nat.le_refl _, rfl⟩
 | n + 1 => by
   obtain ⟨h1, h2⟩ := amn_ok (P := P) n
   rw [amn, mnF]
   split
   · exact ⟨Nat.le_refl _, by omega⟩
   · exact ⟨by omega, by omega⟩
theorem amx_ok {P : Nat → Int} : ∀ n, amx P n ≤ n ∧ P (amx P n) = mxF P n
 | 0 => ⟨Nat.le_refl _, rfl⟩
 | n + 1 => by
   obtain ⟨h1, h2⟩ := amx_ok (P := P) n
   rw [amx, mxF]
   split
   · exact ⟨Nat.le_refl _, by omega⟩
   · exact ⟨by omega, by omega⟩
def gPi (l : List Gun) (d : ByteArray) (i : Int) (k : Nat) : Nat → Int := gP (gAt l k) (i - (arrL d l).getD k 0)
def leastF (l : List Gun) (d : ByteArray) (i : Int) (k : Nat) : Int := (gAt l k).lo + amn (gPi l d i k) (gK (gAt l k))
def mostF (l : List Gun) (d : ByteArray) (i : Int) (k : Nat) : Int := (gAt l k).lo + amx (gPi l d i k) (gK (gAt l k))
def chosen (f : Nat → Int) (sh : List Int) (m : Nat) : List Int := rl (fun k => if k < m then f k else sh.getD k 0) sh.length
theorem chosen_zero (f : Nat → Int) (sh : List Int) : chosen f sh 0 = sh := by
 refine List.ext_getElem (by simp [chosen]) fun i h1 h2 => ?_
 simp only [chosen, rl_getElem, Nat.not_lt_zero, if_false]
 exact getD_at h2
theorem chosen_set {f : Nat → Int} {sh : List Int} {m : Nat} (_h : m < sh.length) : (chosen f sh m).set m (f m) = chosen f sh (m + 1) := by
 refine List.ext_getElem (by simp [chosen]) fun i h1 h2 => ?_
 rw [List.getElem_set]
 simp only [chosen, rl_getElem]
 by_cases h3 : m = i
 · subst h3
   rw [if_pos rfl, if_pos (by omega)]
 · rw [if_neg h3]
   by_cases h4 : i < m
   · rw [if_pos h4, if_pos (by omega)]
   · rw [if_neg h4, if_neg (by omega)]
section
variable {l : List Gun} {d : ByteArray} {sh : List Int}
theorem gun_lo (hst : strE l = 0) {k : Nat} (hk : k < l.length) : (gAt l k).lo ≤ (gAt l k).hi := by
 rw [gAt_at l hk]
 exact gun_order hst _ (List.getElem_mem hk)
theorem leastF_in (hst : strE l = 0) (i : Int) {k : Nat} (hk : k < l.length) : (gAt l k).lo ≤ leastF l d i k ∧ leastF l d i k ≤ (gAt l k).hi := by
 have := (amn_ok (P := gPi l d i k) (gK (gAt l k))).1
 have := gun_lo hst hk
 unfold leastF
 unfold gK at *
 omega
theorem mostF_in (hst : strE l = 0) (i : Int) {k : Nat} (hk : k < l.length) : (gAt l k).lo ≤ mostF l d i k ∧ mostF l d i k ≤ (gAt l k).hi := by
 have := (amx_ok (P := gPi l d i k) (gK (gAt l k))).1
 have := gun_lo hst hk
 unfold mostF
 unfold gK at *
 omega
theorem shE_of (hl : sh.length = l.length) (h : ∀ k, k < l.length → (gAt l k).lo ≤ sh.getD k 0 ∧ sh.getD k 0 ≤ (gAt l k).hi) : shE l sh = 0 := okSh_all (fun j hj => by
 have := h j (by omega)
 rw [getD_at hj] at this
 exact this) hl
theorem shE_at (h : shE l sh = 0) {k : Nat} (hk : k < l.length) : (gAt l k).lo ≤ sh.getD k 0 ∧ sh.getD k 0 ≤ (gAt l k).hi := by
 obtain ⟨h1, h2⟩ := ok_sh h
 have h3 : k < sh.length := by omega
 rw [getD_at h3]
 exact h1 k h3
theorem chosen_getD {f : Nat → Int} {m k : Nat} (hk : k < sh.length) : (chosen f sh m).getD k 0 = if k < m then f k else sh.getD k 0 := by
 rw [getD_at (by simpa [chosen] using hk)]
 simp only [chosen, rl_getElem]
theorem chosen_ok (hsh : shE l sh = 0) {f : Nat → Int} (hf : ∀ k, k < l.length → (gAt l k).lo ≤ f k ∧ f k ≤ (gAt l k).hi) (m : Nat) : shE l (chosen f sh m) = 0 := by
 have hl := (ok_sh hsh).2
 refine shE_of (by simp [chosen, hl]) fun k hk => ?_
 rw [chosen_getD (by omega)]
 split
 · exact hf k hk
 · exact shE_at hsh hk
theorem set_ok (hsh : shE l sh = 0) {m : Nat} {s : Int} (hm : m < l.length) (hs : (gAt l m).lo ≤ s ∧ s ≤ (gAt l m).hi) : shE l (sh.set m s) = 0 := by
 have hl := (ok_sh hsh).2
 refine shE_of (by simp [hl]) fun k hk => ?_
 rw [List.getD_eq_getElem?_getD]
 by_cases h : m = k
 · subst h
   rw [List.getElem?_set_self (by omega)]
   exact hs
 · rw [List.getElem?_set_ne h, ← List.getD_eq_getElem?_getD]
   exact shE_at hsh hk
theorem vAt_gAt (k : Nat) : vAt l k = (gAt l k).v := by
 unfold vAt gAt
 cases l[k]? <;> rfl
theorem sum_set (m : Nat) (s : Int) (i : Int) (hm : m < sh.length) : ∀ k, sumP l (sh.set m s) d i k = sumP l sh d i k + if m < k then pulseV (vAt l m) s (i - (arrL d l).getD m 0) - pulseV (vAt l m) (sh.getD m 0) (i - (arrL d l).getD m 0) else 0
 | 0 => by simp [sumP]
 | k + 1 => by
   rw [sumP, sumP, sum_set m s i hm k]
   by_cases h : m = k
   · subst h
     rw [if_neg (Nat.lt_irrefl _), if_pos (Nat.lt_succ_self _), List.getD_eq_getElem?_getD, List.getElem?_set_self hm, Option.getD_some]
     omega
   · have e : (sh.set m s).getD k 0 = sh.getD k 0 := by rw [List.getD_eq_getElem?_getD, List.getElem?_set_ne h, ← List.getD_eq_getElem?_getD]
     rw [e]
     by_cases h2 : m < k
     · rw [if_pos h2, if_pos (by omega)]; omega
     · rw [if_neg h2, if_neg (by omega)]; omega
def restP (l : List Gun) (sh : List Int) (d : ByteArray) (i : Int) (m : Nat) : Int := sumP l sh d i l.length - pulseV (vAt l m) (sh.getD m 0) (i - (arrL d l).getD m 0)
theorem sum_one {m : Nat} (hm : m < l.length) (hl : sh.length = l.length) (i : Int) (t : Nat) : sumP l (sh.set m ((gAt l m).lo + t)) d i l.length = restP l sh d i m + gPi l d i m t := by
 rw [sum_set m _ i (by omega), if_pos hm, restP, gPi, gP, vAt_gAt]
 omega
theorem rest_bd (hst : strE l = 0) {m : Nat} (hm : m < l.length) (i : Int) : -4096 ≤ restP l sh d i m ∧ restP l sh d i m ≤ 4096 := by
 have h1 := sum_bound (sh := sh) hst d i l.length (Nat.le_refl _)
 have h2 := strE_len hst
 obtain ⟨_, _, _, hv⟩ := strE_zero hst
 have h3 := hv l[m] (List.getElem_mem hm)
 have h4 := pulse256 (s := sh.getD m 0) (i := i - (arrL d l).getD m 0) h3
 rw [restP, vAt_at hm]
 omega
theorem gPi_bd (hst : strE l = 0) {m : Nat} (hm : m < l.length) (i : Int) (t : Nat) : -256 ≤ gPi l d i m t ∧ gPi l d i m t ≤ 256 := by
 obtain ⟨_, _, _, hv⟩ := strE_zero hst
 have h3 := hv l[m] (List.getElem_mem hm)
 rw [gPi, gAt_at l hm]
 exact gP_bd h3 _ t
theorem sum_least (hl : sh.length = l.length) (i : Int) : ∀ k, k ≤ l.length → sumP l (chosen (leastF l d i) sh l.length) d i k = (encS l d i k).1
 | 0, _ => rfl
 | k + 1, h => by
   have e : gMn (gAt l k) (i - (arrL d l).getD k 0) = pulseV (gAt l k).v (leastF l d i k) (i - (arrL d l).getD k 0) := (amn_ok (P := gPi l d i k) (gK (gAt l k))).2.symm
   rw [sumP, encS, sum_least hl i k (by omega), chosen_getD (by omega), if_pos (by omega), vAt_gAt, e]
theorem sum_most (hl : sh.length = l.length) (i : Int) : ∀ k, k ≤ l.length → sumP l (chosen (mostF l d i) sh l.length) d i k = (encS l d i k).2
 | 0, _ => rfl
 | k + 1, h => by
   have e : gMx (gAt l k) (i - (arrL d l).getD k 0) = pulseV (gAt l k).v (mostF l d i k) (i - (arrL d l).getD k 0) := (amx_ok (P := gPi l d i k) (gK (gAt l k))).2.symm
   rw [sumP, encS, sum_most hl i k (by omega), chosen_getD (by omega), if_pos (by omega), vAt_gAt, e]
end
end Go.Proofs.YtndlfijfjglkdaaGreatDoor

namespace Go.Proofs.YtndlfijfjglkdaaGreatDoor
open Go Go.Ab Go.Proofs Go.Soft Ieee
theorem E.seqP {P : Program} {n0 : Nat} {ro : Option Nat} {a b : Code} {st : St} {K : Ex → St → Prop} (Q : St → Prop) (h1 : E P n0 ro a st fun e st' => e = .normal ∧ Q st') (h2 : ∀ st', Q st' → E P n0 ro b st' K) : E P n0 ro (.seq a b) st K :=
 E.seq (h1.mono fun e st' hh => by
   obtain ⟨he, hq⟩ := hh
   subst he
   exact h2 st' hq)
theorem own_flt {H : Heap} {n : Nat} {u : Value} {fs : List Nat} (h : fltV H u = some fs) (hn : namesOk n H = true) (hp : plainH H = true) : ∃ x Y N, g78 [u] H n = some (x, Y, N) ∧ fltV Y x = some fs ∧ Sub H Y ∧ n ≤ N ∧ namesOk N Y = true ∧ plainH Y = true := by
 have hlt : fs.length < 2147483648 := by
   obtain ⟨_, _, _, h1, _⟩ := fltV_form h
   exact h1
 have e : g78 [u] H n = some (kF.val n fs, (n, kF.blk fs) :: H, n + 1) := by simp only [g78, h]; rfl
 refine ⟨_, _, _, e, kF.see _ n fs (by rw [hget_cons, if_pos rfl]) hlt, Sub.cons (namesOk_none hn _ (Nat.le_refl _)) (Sub.refl _), Nat.le_succ _, namesOk_put (by omega) (namesOk_mono (by omega) _ hn), ?_⟩
 rw [plainH, hp, Bool.and_true]
 show plainB2 (if fs.length = 0 then _ else _) = true
 split <;> rfl
end Go.Proofs.YtndlfijfjglkdaaGreatDoor

namespace Go.Proofs.YtndlfijfjglkdaaGreatDoor
open Go Go.Ab Go.Proofs Ieee
def MemOk (N : Nat) (X : Heap) : Prop := namesOk N X = true ∧ plainH X = true
theorem MemOk.none {N : Nat} {X : Heap} (h : MemOk N X) {k : Nat} (hk : N ≤ k) : hget X k = none := namesOk_none h.1 k hk
theorem MemOk.put {N : Nat} {X : Heap} (h : MemOk N X) {b : Blk} (hb : plainB2 b = true) : MemOk (N + 1) ((N, b) :: X) ∧ Sub X ((N, b) :: X) :=
 ⟨⟨namesOk_put (Nat.lt_succ_self _) (namesOk_mono (Nat.le_succ _) _ h.1), by rw [plainH, hb, h.2]; rfl⟩, Sub.cons (h.none (Nat.le_refl _)) (Sub.refl _)⟩
theorem MemOk.lt {N : Nat} {X : Heap} (h : MemOk N X) {k : Nat} {b : Blk} (hb : hget X k = some b) : k < N := by
 rcases Nat.lt_or_ge k N with h1 | h1
 · exact h1
 · rw [h.none h1] at hb; cases hb
theorem MemOk.own {X : Heap} {N : Nat} {v : Value} {l : List Gun} (hm : MemOk N X) (hs : strAt X (.agg ⟨[v]⟩) = some l) (hl : 1 ≤ l.length ∧ l.length ≤ 8) :
   ∃ x Y, g21 [.agg ⟨[v]⟩] X N = some (.agg ⟨[x]⟩, Y, N + 1) ∧ OwnG Y x l ∧ Sub X Y ∧ MemOk (N + 1) Y := by
 have hne : l ≠ [] := fun e => by rw [e] at hl; simp at hl
 obtain ⟨h1, h2⟩ := hm.put (b := .ext (gcs l) 95 7) rfl
 exact ⟨_, _, strAt_own hs hne (by omega), own_row hne (by omega), h2, h1⟩
theorem ints_call {X : Heap} {N : Nat} {u : Value} {sh : List Int} (hs : intsW X u = some sh) (hl : 1 ≤ sh.length ∧ sh.length ≤ 8) :
   g42 [u] X N = some (.slice (some ⟨N, 0, some 0⟩) sh.length 0, (N, .ext (sh.map iv) 3 1) :: X, N + 1) := by
 have hne : sh ≠ [] := fun e => by rw [e] at hl; simp at hl
 simp only [g42, hs]
 rw [if_neg hne, if_pos (by omega)]
theorem ints_ext {X : Heap} {b : Nat} {sh : List Int} {t c : Nat} (h : hget X b = some (.ext (sh.map iv) t 1)) (hl : sh.length ≤ 8) : intsW X (.slice (some ⟨b, 0, some 0⟩) sh.length c) = some sh :=
 intsAt_iv rfl (by rw [cellsA_eq, h]; simp only [Option.bind_some, cellsB]; rw [if_pos (by rw [List.length_map]; omega), List.drop_zero, List.take_of_length_le (by rw [List.length_map]; exact Nat.le_refl _)]) (by omega)
theorem OwnG.strR {X : Heap} {v : Value} {l : List Gun} (h : OwnG X v l) : strR X (.agg ⟨[v]⟩) = some l := by
 obtain ⟨b, rfl, h1, h2⟩ := h.rows
 simp only [Go.Proofs.YtndlfijfjglkdaaGreatDoor.strR, h1]
 rw [if_pos (by omega)]
section
variable {X : Heap} {N : Nat} {x : Value} {l : List Gun} {d : ByteArray} {W : Nat}
theorem sig_zero {sh : List Int} (hst : strE l = 0) (hsh : shE l sh = 0) (hd : hasW d dirs = true) (hW : 1 ≤ W ∧ W ≤ 64) : sigE l sh d W = 0 := by
 have h1 : dirE d = 0 := if_pos hd
 have h2 : withinV W 1 64 = 0 := (withinV_zero _ _ _).2 (by omega)
 rw [sigE, if_pos hst, hsh, h1, h2]
 rfl
theorem sig_call {b : Nat} {sh : List Int} (h0 : hget X 0 = some (.inp 0 names0)) (hx : OwnG X x l) (hi : intsAt X ⟨b, 0, some 0⟩ sh.length = some sh) (hst : strE l = 0) (hsh : shE l sh = 0) (hd : hasW d dirs = true) (hW : 1 ≤ W ∧ W ≤ 64) (c : Nat) :
   g41 [.agg ⟨[x]⟩, .slice (some ⟨b, 0, some 0⟩) sh.length c, sv d, iv W] X N = some (.tuple #[.slice (some ⟨N, 0, some 0⟩) W 0, iv 0], (N, .ext ((refS l d sh W).map fv) 98 1) :: X, N + 1) := by
 simp only [g41, hx.strR, hi]
 rw [if_pos h0, gSig, if_pos (sig_zero hst hsh hd hW), Int.toNat_natCast]
 rfl
theorem flt_ext {b t c : Nat} {fs : List Nat} (h : hget X b = some (.ext (fs.map fv) t 1)) (hl : fs.length ≤ 64) : fltV X (.slice (some ⟨b, 0, some 0⟩) fs.length c) = some fs := fltV_ext h (by omega)
theorem enc_call (h0 : hget X 0 = some (.inp 0 names0)) (hx : OwnG X x l) (hst : strE l = 0) (hd : hasW d dirs = true) (hW : 1 ≤ W ∧ W ≤ 64) :
   g43 [.agg ⟨[x]⟩, sv d, iv W] X N = some (.tuple #[.slice (some ⟨N, 0, some 0⟩) W 0, iv 0], (N, .ext (pcs (encL l d W)) 92 2) :: X, N + 1) := by
 have h1 : dirE d = 0 := if_pos hd
 have h2 : withinV W 1 64 = 0 := (withinV_zero _ _ _).2 (by omega)
 have h3 : encE l d W = 0 := by
   unfold encE
   rw [hst, h1, h2]
   rfl
 simp only [g43, hx.strR]
 rw [if_pos h0, gEnc, if_pos h3, Int.toNat_natCast]
theorem arr_call (h0 : hget X 0 = some (.inp 0 names0)) (hx : OwnG X x l) (hst : strE l = 0) (hd : hasW d dirs = true) {i : Nat} (hi : i < l.length) :
   g23 [.agg ⟨[x]⟩, iv i, sv d] X N = some (.tuple #[iv ((arrL d l).getD i 0), iv 0], X, N) := by
 obtain ⟨b, rfl, h1, h2⟩ := hx.rows
 have h3 : dirE d = 0 := if_pos hd
 have h4 : arrE l i d = 0 := by
   have h5 : (decide ((i : Int) < 0) || decide ((l.length : Int) ≤ i)) = false := by
     simp only [Bool.or_eq_false_iff, decide_eq_false_iff_not]
     omega
   unfold arrE
   rw [hst, h3, h5]
   rfl
 simp only [g23, h1]
 rw [if_pos h0, Option.map_some, arrR, if_pos h4, h4, Int.toNat_natCast]
theorem bub_call {v s : Int} (hv : 1 ≤ v ∧ v ≤ 64) (hs : 0 ≤ s ∧ s ≤ 4) (hW : 1 ≤ W ∧ W ≤ 64) :
   gBub [iv v, iv s, iv W] X N = some (.tuple #[.slice (some ⟨N, 0, some 0⟩) W 0, iv 0], (N, .ext (((bubR v s W).map sampB).map fv) 98 1) :: X, N + 1) := by
 have h1 : withinV v 1 64 = 0 := (withinV_zero _ _ _).2 (by omega)
 have h2 : withinV s 0 4 = 0 := (withinV_zero _ _ _).2 (by omega)
 have h3 : withinV W 1 64 = 0 := (withinV_zero _ _ _).2 (by omega)
 have h4 : bubE v s W = 0 := by
   unfold bubE
   rw [h1, h2, h3]
   rfl
 simp only [gBub]
 rw [if_pos h4, bub_eq hv hs, Int.toNat_natCast]
end
theorem u8W_form {H : Heap} {t : Value} {ns : List Int} (h : u8W H t = some ns) : ∃ oa c, t = .slice oa ns.length c := by
 unfold u8W at h
 split at h
 · injection h with h
   subst h
   exact ⟨_, _, rfl⟩
 · rename_i a len c
   obtain ⟨h1, h2, h3, _⟩ := u8At_ok h
   subst h3
   exact ⟨_, _, rfl⟩
 · cases h
theorem u8W_mono {H H' : Heap} (hs : Sub H H') {t : Value} {ns : List Int} (h : u8W H t = some ns) : u8W H' t = some ns := by
 unfold u8W at h ⊢
 split at h
 · exact h
 · split at h
   · rename_i hf
     rw [Option.bind_eq_some_iff] at h
     obtain ⟨cs, h1, h2⟩ := h
     show (if _ then _ else _) = _
     rw [if_pos hf, hs.cells h1]
     exact h2
   · cases h
 · cases h
theorem u8W_tidy {H : Heap} {n : Nat} (hl : ∀ k b, hget H k = some b → k < n) {t : Value} {ns : List Int} (h : u8W H t = some ns) : u8W (Ab.tidy n H) t = some ns := by
 unfold u8W at h ⊢
 split at h
 · exact h
 · split at h
   · rename_i hf
     rw [Option.bind_eq_some_iff] at h
     obtain ⟨cs, h1, h2⟩ := h
     show (if _ then _ else _) = _
     rw [if_pos hf, cellsA_tidy hl h1]
     exact h2
   · cases h
 · cases h
theorem shift_call {X : Heap} {N : Nat} {v t : Value} {l : List Gun} {ns : List Int} (hs : strAt X (.agg ⟨[v]⟩) = some l) (ht : u8W X t = some ns) (hst : strE l = 0) (hns : ∀ x ∈ ns, 0 ≤ x ∧ x ≤ 255) :
   g54 [.agg ⟨[v]⟩, t] X N = some (.slice (some ⟨N, 0, some 0⟩) (shL l ns).length 0, (N, .ext ((shL l ns).map iv) 3 1) :: X, N + 1) := by
 simp only [g54, hs, ht]
 rw [if_pos ⟨hst, hns⟩]
theorem valid_ok {l : List Gun} (h : validB l = true) : shortS l = true ∧ l.length ≤ 6 ∧ strE l = 0 := by
 unfold validB at h
 simp only [Bool.and_eq_true, decide_eq_true_eq] at h
 exact ⟨h.1.1, h.1.2, h.2⟩
end Go.Proofs.YtndlfijfjglkdaaGreatDoor

namespace Go.Proofs.YtndlfijfjglkdaaGreatDoor
open Go Go.Ab Go.Proofs Ieee
set_option maxRecDepth 20000 in
set_option maxHeartbeats 2000000 in
theorem w13e {H : Heap} {n m c : Nat} {v : Value} {oa : Option Addr} {l : List Gun} {nd nw : Int} (g0 : hget H 0 = some (.inp 0 names0)) (g3 : hget H 3 = some (.inp 0 tab3)) (hs : strAt H (.agg ⟨[v]⟩) = some l) (hno : ¬ (validB l = true ∧ l.length ≤ 4 ∧ m ≤ 8)) : AC Tryz.prog 13 [.agg ⟨[v]⟩, .agg ⟨[.slice oa m c, bv nd, bv nw]⟩] H n (.bool true) H n := by
 refine AC.given fun hold _ _ => AC.tidied (B := []) (by simp) ?_
 have hlt0 := fun k b h => (hold k b h).1
 replace g0 : hget (tidy n H) 0 = some (.inp 0 names0) := hget_tidy.2 ⟨g0, hlt0 _ _ g0, rfl⟩
 replace g3 : hget (tidy n H) 3 = some (.inp 0 tab3) := hget_tidy.2 ⟨g3, hlt0 _ _ g3, rfl⟩
 replace hs := strAt_tidy hlt0 hs
 have hr := recT_ok (P := Tryz.prog) (l := [(18, g18), (52, gStr fun l => .bool (validB l)), (76, g76)]) (by simp only [List.forall_mem_cons]; exact ⟨ok18, ok52, ok76, by simp⟩)
 have hM : MemOk n (tidy n H) := ⟨namesOk_tidy, by simp⟩
 obtain ⟨hM1, hS1⟩ := hM.put (b := Blk.cells [v] 24) rfl
 obtain ⟨hM2, hS2⟩ := hM1.put (b := Blk.cells [.slice oa m c, bv nd, bv nw] 86) rfl
 obtain ⟨X0, hX0⟩ : ∃ X0, (n + 1, Blk.cells [.slice oa m c, bv nd, bv nw] 86) :: (n, Blk.cells [v] 24) :: tidy n H = X0 := ⟨_, rfl⟩
 rw [hX0] at hM2 hS2
 have hS0 := hS1.trans hS2
 have hb0 : hget X0 n = some (.cells [v] 24) := hS2 _ _ (by rw [hget_cons, if_pos rfl])
 have hb1 : hget X0 (n + 1) = some (.cells [.slice oa m c, bv nd, bv nw] 86) := by rw [← hX0, hget_cons, if_pos rfl]
 have h18 : ∀ m, g18 [] X0 m = some (.bool true, X0, m) := fun m => by
   unfold g18
   rw [if_pos ⟨rfl, hS0 _ _ g3, hS0 _ _ g0⟩]
 have hc0 : cellsA X0 n 0 1 = some [v] := by rw [cellsA_eq, hb0]; rfl
 have hc1 : cellA X0 (n + 1) 0 = some (.slice oa m c) := by rw [cellA_eq, hb1]; rfl
 have hs0 := strAt_mono hS0 hs
 have h52 : ∀ m, gStr (fun l => .bool (validB l)) [.agg ⟨[v]⟩] X0 m = some (.bool (validB l), X0, m) := fun m => by
   simp only [gStr, hs0, Option.map_some]
 have h76 : ∀ m, g76 [.agg ⟨[v]⟩] X0 m = some (.bool (decide (l.length ≤ 4)), X0, m) := fun m => by
   simp only [g76, hs0, Option.map_some]
 obtain ⟨vb, hvb⟩ : ∃ z, validB l = z := ⟨_, rfl⟩
 obtain ⟨fb, hfb⟩ : ∃ z, decide (l.length ≤ 4) = z := ⟨_, rfl⟩
 rw [hvb] at h52 hno
 rw [hfb] at h76
 refine AC.pure Tryz.func13 rfl (by kernel_rfl) rfl [2, 3, 4, 68] rfl ?_
 refine E.seq ?_
 refine E.reg hr (by simp; rfl) ?_
 rw [hX0]
 refine E.seq ?_
 refine E.seq ?_
 cases vb with
 | false =>
   refine E.reg hr (by simp [-cellsA, h18, hc0, h52, undefV]; rfl) ?_
   refine E.cond (t := true) (by simp) (fun _ => ?_) (fun h => by cases h)
   refine E.seq ?_
   refine E.reg hr (by simp [h18]; rfl) ?_
   refine E.ret ?_
   exact pureK.ret rfl rfl (by simp) hS0
 | true =>
 cases fb with
 | false =>
   refine E.reg hr (by simp [-cellsA, h18, hc0, h52, h76, undefV]; rfl) ?_
   refine E.cond (t := true) (by simp) (fun _ => ?_) (fun h => by cases h)
   refine E.seq ?_
   refine E.reg hr (by simp [h18]; rfl) ?_
   refine E.ret ?_
   exact pureK.ret rfl rfl (by simp) hS0
 | true =>
   have hm : 8 < m := by
     have := of_decide_eq_true hfb
     rcases Nat.lt_or_ge 8 m with h | h
     · exact h
     · exact absurd ⟨rfl, this, h⟩ hno
   have hmI : (8 : Int) < m := by omega
   refine E.reg hr (by simp [-cellsA, -cellA, h18, hc0, hc1, h52, h76, hmI]; rfl) ?_
   refine E.cond (t := true) (by simp) (fun _ => ?_) (fun h => by cases h)
   refine E.seq ?_
   refine E.reg hr (by simp [h18]; rfl) ?_
   refine E.ret ?_
   exact pureK.ret rfl rfl (by simp) hS0
end Go.Proofs.YtndlfijfjglkdaaGreatDoor

namespace Go.Proofs.YtndlfijfjglkdaaGreatDoor
open Go Go.Ab Go.Proofs Ieee
theorem intsW_mono {H H' : Heap} (hs : Sub H H') {t : Value} {ns : List Int} (h : intsW H t = some ns) : intsW H' t = some ns := by
 unfold intsW at h ⊢
 split at h
 · exact h
 · unfold intsAt at h ⊢
   split at h
   · rename_i hf
     rw [Option.bind_eq_some_iff] at h
     obtain ⟨cs, h1, h2⟩ := h
     show (if _ then _ else _) = _
     rw [if_pos hf, hs.cells h1]
     exact h2
   · cases h
 · cases h
theorem plainH_hset {k : Nat} {b : Blk} (hb : plainB2 b = true) : ∀ {H : Heap}, plainH H = true → plainH (hset H k b) = true
 | [], _ => rfl
 | (j, c) :: H, h => by
   simp only [plainH, Bool.and_eq_true] at h
   unfold hset
   split
   · simp only [plainH, Bool.and_eq_true]
     exact ⟨hb, h.2⟩
   · simp only [plainH, Bool.and_eq_true]
     exact ⟨h.1, plainH_hset hb h.2⟩
theorem MemOk.set {N k : Nat} {Z : Heap} {b : Blk} (h : MemOk N Z) (hb : plainB2 b = true) : MemOk N (hset Z k b) := ⟨namesOk_hset h.1, plainH_hset hb h.2⟩
theorem store_ext {H : Heap} {b i : Nat} {t : TypeId} {sz : Nat} {cs : List Value} {v : Value} (h : hget H b = some (.ext cs t sz)) (hi : i < cs.length) : storeA H b i [v] = some (hset H b (.ext (cs.set i v) t sz)) := by
 unfold storeA
 rw [h]
 simp only [List.length_cons, List.length_nil, putL]
 rw [if_pos (by omega), put_at hi]
theorem rl_set {α : Type} {f : Nat → α} {W m : Nat} {x : α} : (rl f W).set m x = rl (fun j => if j = m then x else f j) W := by
 refine List.ext_getElem (by simp) fun i h1 h2 => ?_
 rw [List.getElem_set]
 simp only [rl_getElem]
 by_cases h : m = i
 · rw [if_pos h, if_pos h.symm]
 · rw [if_neg h, if_neg (fun e => h e.symm)]
theorem rl_at {f : Nat → Int} {W m : Nat} (h : m < W) : ((rl f W).map iv)[m]? = some (iv (f m)) := by
 rw [List.getElem?_map, List.getElem?_eq_getElem (by simpa using h), rl_getElem]
 rfl
section
variable {X : Heap} {N : Nat} {v u : Value} {l : List Gun} {sh : List Int} {d : ByteArray} {W : Nat} {fs : List Nat}
theorem ext_ints {b : Nat} {t : TypeId} (h : hget X b = some (.ext (sh.map iv) t 1)) (hl : sh.length ≤ 8) : intsAt X ⟨b, 0, some 0⟩ sh.length = some sh := ints_ext (c := 0) h hl
theorem sig_grp2 {b : Nat} (hM : MemOk N X) (h0 : hget X 0 = some (.inp 0 names0)) (hs : strAt X (.agg ⟨[v]⟩) = some l) (hi : hget X b = some (.ext (sh.map iv) 3 1)) (hst : strE l = 0) (hsh : shE l sh = 0) (hd : hasW d dirs = true) (hW : 1 ≤ W ∧ W ≤ 64) :
   ∃ x Y N1 c Y3 N3, g21 [.agg ⟨[v]⟩] X N = some (x, Y, N1) ∧ g41 [x, .slice (some ⟨b, 0, some 0⟩) l.length 0, sv d, iv W] Y N1 = some (.tuple #[.slice (some ⟨c, 0, some 0⟩) W 0, iv 0], Y3, N3) ∧
     hget Y3 c = some (.ext ((refS l d sh W).map fv) 98 1) ∧ N ≤ c ∧ c < N3 ∧ Sub X Y3 ∧ N ≤ N3 ∧ MemOk N3 Y3 := by
 have hln := strE_len hst
 have hl := (ok_sh hsh).2
 obtain ⟨x, Y, a1, a2, a3, a4⟩ := hM.own hs hln
 obtain ⟨hM3, hS3⟩ := a4.put (b := .ext ((refS l d sh W).map fv) 98 1) rfl
 have h41 := sig_call (N := N + 1) (d := d) (W := W) (a3 _ _ h0) a2 (ext_ints (a3 _ _ hi) (by omega)) hst hsh hd hW 0
 rw [hl] at h41
 exact ⟨_, Y, N + 1, N + 1, _, _, a1, h41, by rw [hget_cons, if_pos rfl], by omega, by omega, a3.trans hS3, by omega, hM3⟩
theorem sig_grp (hM : MemOk N X) (h0 : hget X 0 = some (.inp 0 names0)) (hs : strAt X (.agg ⟨[v]⟩) = some l) (hi : intsW X u = some sh) (hst : strE l = 0) (hsh : shE l sh = 0) (hd : hasW d dirs = true) (hW : 1 ≤ W ∧ W ≤ 64) :
   ∃ x Y N1 y Y2 N2 c Y3 N3, g21 [.agg ⟨[v]⟩] X N = some (x, Y, N1) ∧ g42 [u] Y N1 = some (y, Y2, N2) ∧ g41 [x, y, sv d, iv W] Y2 N2 = some (.tuple #[.slice (some ⟨c, 0, some 0⟩) W 0, iv 0], Y3, N3) ∧
     hget Y3 c = some (.ext ((refS l d sh W).map fv) 98 1) ∧ N ≤ c ∧ c < N3 ∧ Sub X Y3 ∧ N ≤ N3 ∧ MemOk N3 Y3 := by
 have hln := strE_len hst
 have hl := (ok_sh hsh).2
 obtain ⟨x, Y, a1, a2, a3, a4⟩ := hM.own hs hln
 obtain ⟨hM2, hS2⟩ := a4.put (b := .ext (sh.map iv) 3 1) rfl
 obtain ⟨hM3, hS3⟩ := hM2.put (b := .ext ((refS l d sh W).map fv) 98 1) rfl
 exact ⟨_, Y, N + 1, _, _, _, N + 1 + 1, _, _, a1, ints_call (intsW_mono a3 hi) (by omega), sig_call (hS2 _ _ (a3 _ _ h0)) (a2.mono hS2) (ext_ints (by rw [hget_cons, if_pos rfl]) (by omega)) hst hsh hd hW 0, by rw [hget_cons, if_pos rfl], by omega, by omega, a3.trans (hS2.trans hS3), by omega, hM3⟩
theorem enc_grp (hM : MemOk N X) (h0 : hget X 0 = some (.inp 0 names0)) (hs : strAt X (.agg ⟨[v]⟩) = some l) (hst : strE l = 0) (hd : hasW d dirs = true) (hW : 1 ≤ W ∧ W ≤ 64) :
   ∃ x Y N1 c Y3 N3, g21 [.agg ⟨[v]⟩] X N = some (x, Y, N1) ∧ g43 [x, sv d, iv W] Y N1 = some (.tuple #[.slice (some ⟨c, 0, some 0⟩) W 0, iv 0], Y3, N3) ∧
     hget Y3 c = some (.ext (pcs (encL l d W)) 92 2) ∧ N ≤ c ∧ c < N3 ∧ Sub X Y3 ∧ N ≤ N3 ∧ MemOk N3 Y3 := by
 have hln := strE_len hst
 obtain ⟨x, Y, a1, a2, a3, a4⟩ := hM.own hs hln
 obtain ⟨hM3, hS3⟩ := a4.put (b := .ext (pcs (encL l d W)) 92 2) rfl
 exact ⟨_, Y, N + 1, N + 1, _, _, a1, enc_call (a3 _ _ h0) a2 hst hd hW, by rw [hget_cons, if_pos rfl], by omega, by omega, a3.trans hS3, by omega, hM3⟩
theorem arr_grp (hM : MemOk N X) (h0 : hget X 0 = some (.inp 0 names0)) (hs : strAt X (.agg ⟨[v]⟩) = some l) (hst : strE l = 0) (hd : hasW d dirs = true) {i : Nat} (hi : i < l.length) :
   ∃ x Y N1, g21 [.agg ⟨[v]⟩] X N = some (x, Y, N1) ∧ g23 [x, iv i, sv d] Y N1 = some (.tuple #[iv ((arrL d l).getD i 0), iv 0], Y, N1) ∧ Sub X Y ∧ N ≤ N1 ∧ MemOk N1 Y := by
 have hln := strE_len hst
 obtain ⟨x, Y, a1, a2, a3, a4⟩ := hM.own hs hln
 exact ⟨_, Y, N + 1, a1, arr_call (a3 _ _ h0) a2 hst hd hi, a3, by omega, a4⟩
theorem out_grp2 (hM : MemOk N X) (h0 : hget X 0 = some (.inp 0 names0)) (hs : strAt X (.agg ⟨[v]⟩) = some l) (hf : fltV X u = some fs) (hst : strE l = 0) (hz : listE l d fs = 0) :
   ∃ x Y N1, g21 [.agg ⟨[v]⟩] X N = some (x, Y, N1) ∧ g77 [x, sv d, u] Y N1 = some (.tuple #[iv (outI l d fs).1, .bool (outI l d fs).2, iv 0], Y, N1) ∧ Sub X Y ∧ N ≤ N1 ∧ MemOk N1 Y := by
 have hln := strE_len hst
 obtain ⟨x, Y, a1, a2, a3, a4⟩ := hM.own hs hln
 exact ⟨_, Y, N + 1, a1, by rw [← outE_zero hz]; exact g77_at (a3 _ _ h0) (.inl ⟨_, rfl, a2⟩) (listV_mono decFl_mono a3 hf), a3, by omega, a4⟩
theorem out_grp (hM : MemOk N X) (h0 : hget X 0 = some (.inp 0 names0)) (hs : strAt X (.agg ⟨[v]⟩) = some l) (hf : fltV X u = some fs) (hst : strE l = 0) (hz : listE l d fs = 0) :
   ∃ x Y N1 y Y2 N2, g21 [.agg ⟨[v]⟩] X N = some (x, Y, N1) ∧ g78 [u] Y N1 = some (y, Y2, N2) ∧ g77 [x, sv d, y] Y2 N2 = some (.tuple #[iv (outI l d fs).1, .bool (outI l d fs).2, iv 0], Y2, N2) ∧ Sub X Y2 ∧ N ≤ N2 ∧ MemOk N2 Y2 := by
 have hln := strE_len hst
 obtain ⟨x, Y, a1, a2, a3, a4⟩ := hM.own hs hln
 obtain ⟨y, Y2, N2, b1, b2, b3, b4, b5, b6⟩ := own_flt (listV_mono decFl_mono a3 hf) a4.1 a4.2
 exact ⟨_, Y, N + 1, y, Y2, N2, a1, b1, by rw [← outE_zero hz]; exact g77_at (b3 _ _ (a3 _ _ h0)) (.inl ⟨_, rfl, a2.mono b3⟩) b2, a3.trans b3, by omega, b5, b6⟩
theorem expK_ok {N : Nat} {Y : Heap} {xs : List Int} (h : MemOk N Y) : Sub Y (exK N xs ++ Y) ∧ MemOk (N + 1) (exK N xs ++ Y) := by
 unfold exK
 split
 · exact ⟨Sub.refl _, namesOk_mono (Nat.le_succ _) _ h.1, h.2⟩
 · obtain ⟨h1, h2⟩ := h.put (b := exB xs) (exB_ok xs).2.2.2.2
   exact ⟨h2, h1⟩
theorem exp_grp2 (hM : MemOk N X) (h0 : hget X 0 = some (.inp 0 names0)) (hs : strAt X (.agg ⟨[v]⟩) = some l) (hf : fltV X u = some fs) (hst : strE l = 0) (hz : listE l d fs = 0) {xs : List Int} {e : Int} (hx : refK l d fs = (xs, e)) :
   ∃ x Y N1 Y3, g21 [.agg ⟨[v]⟩] X N = some (x, Y, N1) ∧ g79 [x, sv d, u] Y N1 = some (.tuple #[exV N1 xs.length, iv e], Y3, N1 + 1) ∧ (xs ≠ [] → hget Y3 N1 = some (exB xs)) ∧ Sub X Y3 ∧ N ≤ N1 ∧ MemOk (N1 + 1) Y3 := by
 have hln := strE_len hst
 obtain ⟨x, Y, a1, a2, a3, a4⟩ := hM.own hs hln
 obtain ⟨h1, h2⟩ := expK_ok (xs := xs) a4
 refine ⟨_, Y, N + 1, _, a1, ?_, fun h => ?_, a3.trans h1, by omega, h2⟩
 · have := g79_at (n := N + 1) (d := d) (a3 _ _ h0) (.inl ⟨_, rfl, a2⟩) (listV_mono decFl_mono a3 hf)
   rw [explE_zero hz, hx] at this
   exact this
 · rw [exK, if_neg h, List.cons_append, hget_cons, if_pos rfl]
theorem exp_grp (hM : MemOk N X) (h0 : hget X 0 = some (.inp 0 names0)) (hs : strAt X (.agg ⟨[v]⟩) = some l) (hf : fltV X u = some fs) (hst : strE l = 0) (hz : listE l d fs = 0) {xs : List Int} {e : Int} (hx : refK l d fs = (xs, e)) :
   ∃ x Y N1 y Y2 N2 Y3, g21 [.agg ⟨[v]⟩] X N = some (x, Y, N1) ∧ g78 [u] Y N1 = some (y, Y2, N2) ∧ g79 [x, sv d, y] Y2 N2 = some (.tuple #[exV N2 xs.length, iv e], Y3, N2 + 1) ∧ (xs ≠ [] → hget Y3 N2 = some (exB xs)) ∧ Sub X Y3 ∧ N ≤ N2 ∧ MemOk (N2 + 1) Y3 := by
 have hln := strE_len hst
 obtain ⟨x, Y, a1, a2, a3, a4⟩ := hM.own hs hln
 obtain ⟨y, Y2, N2, b1, b2, b3, b4, b5, b6⟩ := own_flt (listV_mono decFl_mono a3 hf) a4.1 a4.2
 obtain ⟨h1, h2⟩ := expK_ok (xs := xs) (⟨b5, b6⟩ : MemOk N2 Y2)
 refine ⟨_, Y, N + 1, y, Y2, N2, _, a1, b1, ?_, fun h => ?_, a3.trans (b3.trans h1), by omega, h2⟩
 · have := g79_at (n := N2) (d := d) (b3 _ _ (a3 _ _ h0)) (.inl ⟨_, rfl, a2.mono b3⟩) b2
   rw [explE_zero hz, hx] at this
   exact this
 · rw [exK, if_neg h, List.cons_append, hget_cons, if_pos rfl]
end
end Go.Proofs.YtndlfijfjglkdaaGreatDoor

namespace Go.Proofs.YtndlfijfjglkdaaGreatDoor
open Go Go.Ab Go.Proofs Go.Soft Ieee
abbrev vs13 : List Nat := [2, 3, 4, 5, 6, 7, 8, 10, 19, 20, 21, 22, 24, 26, 182, 183, 184, 253, 254, 255, 29, 30, 31, 32, 33, 34, 35, 36, 303, 304, 305]
abbrev F13 (n : Nat) (d : ByteArray) (W : Nat) (b7 L b8 b10 bs : Nat) : Fr := [(2, .pointer (some ⟨n, 0, none⟩)), (3, .pointer (some ⟨n + 1, 0, none⟩)), (4, .bool false), (5, sv d), (6, iv W), (7, .slice (some ⟨b7, 0, some 0⟩) L 0), (8, .slice (some ⟨b8, 0, some 0⟩) W 0), (10, .slice (some ⟨b10, 0, some 0⟩) W 0), (19, .slice (some ⟨bs, 0, none⟩) W W)]
structure M13 (T X : Heap) (n N : Nat) (ga : Addr) (c' : Nat) (t : Value) (nd nn : Int) (l : List Gun) (sh : List Int) (d : ByteArray) (W b7 b8 b10 bs : Nat) (fs : List Nat) : Prop where
 sub : Sub T X
 mem : MemOk N X
 g0 : hget X 0 = some (.inp 0 names0)
 box0 : hget X n = some (.cells [.slice (some ga) l.length c'] 24)
 box1 : hget X (n + 1) = some (.cells [t, bv nd, bv nn] 86)
 str : strAt X (.agg ⟨[.slice (some ga) l.length c']⟩) = some l
 gaf : flat ga = true
 gun : ∀ {i : Nat} (hi : i < l.length), cellsA X ga.block (ga.off + i * 7) 7 = some l[i].cells
 s7 : hget X b7 = some (.ext (sh.map iv) 3 1)
 s8 : hget X b8 = some (.ext (fs.map fv) 98 1)
 s10 : hget X b10 = some (.ext (pcs (encL l d W)) 92 2)
 s19 : hget X bs = some (.cells ((rl (fun j : Nat => sumP l sh d j l.length) W).map iv) 3)
theorem M13.more {T X Y : Heap} {n N M : Nat} {ga : Addr} {c' : Nat} {t : Value} {nd nn : Int} {l : List Gun} {sh : List Int} {d : ByteArray} {W b7 b8 b10 bs : Nat} {fs : List Nat} (h : M13 T X n N ga c' t nd nn l sh d W b7 b8 b10 bs fs) (hs : Sub X Y) (hm : MemOk M Y) : M13 T Y n M ga c' t nd nn l sh d W b7 b8 b10 bs fs :=
 ⟨h.sub.trans hs, hm, hs _ _ h.g0, hs _ _ h.box0, hs _ _ h.box1, strAt_mono hs h.str, h.gaf, fun hi => hs.cells (h.gun hi), hs _ _ h.s7, hs _ _ h.s8, hs _ _ h.s10, hs _ _ h.s19⟩
section
variable {T X : Heap} {n N : Nat} {ga : Addr} {c' : Nat} {t : Value} {nd nn : Int} {l : List Gun} {sh : List Int} {d : ByteArray} {W b7 b8 b10 bs : Nat} {fs : List Nat}
theorem M13.box (h : M13 T X n N ga c' t nd nn l sh d W b7 b8 b10 bs fs) : cellsA X n 0 1 = some [.slice (some ga) l.length c'] ∧ cellA X n 0 = some (.slice (some ga) l.length c') ∧ cellA X (n + 1) 2 = some (bv nn) := by
 refine ⟨?_, ?_, ?_⟩
 · rw [cellsA_eq, h.box0]; rfl
 · rw [cellA_eq, h.box0]; rfl
 · rw [cellA_eq, h.box1]; rfl
theorem M13.flt (h : M13 T X n N ga c' t nd nn l sh d W b7 b8 b10 bs fs) (_hl : fs.length = W) {j : Nat} (hj : j < fs.length) : cellA X b8 j = some (fv fs[j]) := by
 rw [cellA_eq, h.s8]
 simp [cellB, List.getElem?_map, List.getElem?_eq_getElem hj]
theorem M13.enc (h : M13 T X n N ga c' t nd nn l sh d W b7 b8 b10 bs fs) {j : Nat} (hj : j < W) : cellA X b10 (j * 2) = some (iv (encS l d j l.length).1) ∧ cellA X b10 (j * 2 + 1) = some (iv (encS l d j l.length).2) := by
 have hl : j < (encL l d W).length := by simpa using hj
 have h1 : j * 2 < (pcs (encL l d W)).length := by simp; omega
 have h2 : j * 2 + 1 < (pcs (encL l d W)).length := by simp; omega
 have e : (encL l d W)[j] = encS l d j l.length := by simp [encL]
 rw [cellA_eq, cellA_eq, h.s10]
 refine ⟨?_, ?_⟩
 · show (pcs (encL l d W))[j * 2]? = _
   rw [List.getElem?_eq_getElem h1, pcs_0E hl, e]
 · show (pcs (encL l d W))[j * 2 + 1]? = _
   rw [List.getElem?_eq_getElem h2, pcs_1E hl, e]
theorem M13.sum (h : M13 T X n N ga c' t nd nn l sh d W b7 b8 b10 bs fs) {j : Nat} (hj : j < W) : cellA X bs j = some (iv (sumP l sh d j l.length)) := by
 rw [cellA_eq, h.s19]
 exact rl_at hj
theorem M13.lt (h : M13 T X n N ga c' t nd nn l sh d W b7 b8 b10 bs fs) : n < N ∧ n + 1 < N ∧ b7 < N ∧ b8 < N ∧ b10 < N ∧ bs < N := ⟨h.mem.lt h.box0, h.mem.lt h.box1, h.mem.lt h.s7, h.mem.lt h.s8, h.mem.lt h.s10, h.mem.lt h.s19⟩
set_option maxRecDepth 20000 in
set_option maxHeartbeats 4000000 in
theorem w13b (hm : M13 T X n N ga c' t nd nn l sh d W b7 b8 b10 bs fs) (hst : strE l = 0) (_h4 : l.length ≤ 4) (hsh : shE l sh = 0) (_hd : hasW d dirs = true) (hW1 : 1 ≤ W ∧ W ≤ 64) (_hnn : 0 ≤ nn ∧ nn ≤ 255) (hfs : refS l d sh W = fs)
   (hK : E Tryz.prog n none (cFrom (bodyOf Tryz.f13) 14) { fr := F13 n d W b7 l.length b8 b10 bs, sz := 475, H := X, n := N, marks := [], vs := vs13 } (pureK Tryz.prog Tryz.f13 T (.bool true))) :
   E Tryz.prog n none (cFrom (bodyOf Tryz.f13) 13) { fr := F13 n d W b7 l.length b8 b10 bs, sz := 475, H := X, n := N, marks := [], vs := vs13 } (pureK Tryz.prog Tryz.f13 T (.bool true)) := by
 have hr := recT_ok (P := Tryz.prog) (l := [(85, gSix)]) (by simp only [List.forall_mem_cons]; exact ⟨ok85, by simp⟩)
 have hln := strE_len hst
 have hfl : fs.length = W := by rw [← hfs, refS_len]
 obtain ⟨hg, h6⟩ := refS_good (d := d) (W := W) hst hsh
 rw [hfs] at hg h6
 refine E.seq ?_
 refine E.seq ?_
 refine E.reg hr (by simp; rfl) ?_
 refine E.block ?_
 refine E.loop ?_
 refine EL.ind (fun j : Nat => { fr := F13 n d W b7 l.length b8 b10 bs ++ [(253, .slice (some ⟨b8, 0, some 0⟩) W 0), (254, iv W), (255, iv j)], sz := 475, H := X, n := N, marks := [], vs := vs13 }) (fun j => W - j) (fun j => j ≤ W) 0 (.keep rfl rfl rfl (by simp) (Sub.refl _)) (Nat.zero_le _) (fun _ => rfl) ?_
 intro j hj
 have hwj : IntKind.i64.wrap ((j : Int) + 1) = (j : Int) + 1 := W_in (by omega) (by omega)
 refine E.seq ?_
 refine E.reg hr (by simp; rfl) ?_
 refine E.seq ?_
 by_cases hjW : j < W
 · have hjI : (j : Int) < W := by omega
   have hjf : j < fs.length := by omega
   have hcf := hm.flt hfl hjf
   obtain ⟨hce0, hce1⟩ := hm.enc hjW
   have hcs := hm.sum hjW
   have hs6 : ∀ Y k, gSix [fv fs[j]] Y k = some (iv (six32 fs[j]), Y, k) := fun Y k => if_pos (List.all_eq_true.1 (allSm_of hg) _ (List.getElem_mem hjf))
   have h6j : six32 fs[j] = sumP l sh d j l.length := by
     have h1 := sig_at (d := d) hst hsh hjW
     rw [← h6, List.getD_eq_getElem?_getD, List.getElem?_map, List.getElem?_eq_getElem hjf] at h1
     exact h1
   rw [h6j] at hs6
   obtain ⟨q, hq⟩ : ∃ q, fs[j] = q := ⟨_, rfl⟩
   rw [hq] at hcf hs6
   have hin := sum_enc (d := d) hsh j
   obtain ⟨sj, hsj⟩ : ∃ z, sumP l sh d j l.length = z := ⟨_, rfl⟩
   obtain ⟨lo, hlo⟩ : ∃ z, (encS l d j l.length).1 = z := ⟨_, rfl⟩
   obtain ⟨hi, hhi⟩ : ∃ z, (encS l d j l.length).2 = z := ⟨_, rfl⟩
   rw [hsj] at hs6 hcs hin
   rw [hlo] at hce0 hin
   rw [hhi] at hce1 hin
   have hn1 : ¬ sj < lo := by omega
   have hn2 : ¬ hi < sj := by omega
   obtain ⟨_, _, _, x8, x10, xs⟩ := hm.lt
   refine E.cond (t := true) (by simp [hjW]) (fun _ => ?_) (fun h => by cases h)
   refine E.skip ?_
   refine E.seq ?_
   refine E.block ?_
   refine E.seq ?_
   refine E.reg hr (by simp [-cellA, hjW, hjI, hcf]; rfl) ?_
   refine E.seq ?_
   have hx3 := takeNew_frz hm.mem.1
   refine E.drawU mixed hr [] [] [1, 5, 11, 16, 23, 28] (by kernel_rfl) (by simp [-cellA, -readA, cellA_read, hm.mem.1, hm.mem.2, x10, xs, hx3, hs6, hcs, hce0, hce1, hjI, hn1, hn2]; rfl) ?_
   refine E.cond (t := false) (by simp) (fun h => by cases h) (fun _ => ?_)
   refine E.skip ?_
   refine E.reg hr (by simp [hwj]; rfl) ?_
   exact ⟨j + 1, .keep rfl rfl rfl (by simp) (Sub.refl _), hjW, by dsimp only; omega⟩
 · refine E.cond (t := false) (by simp [hjW]) (fun h => by cases h) (fun _ => ?_)
   refine E.exit ?_
   refine E.lead { fr := F13 n d W b7 l.length b8 b10 bs, sz := 475, H := X, n := N, marks := [], vs := vs13 } (.keep rfl rfl rfl (by simp) (Sub.refl _)) ?_
   exact hK
end
end Go.Proofs.YtndlfijfjglkdaaGreatDoor

namespace Go.Proofs.YtndlfijfjglkdaaGreatDoor
open Go Go.Ab Go.Proofs Go.Soft Ieee
def lowK (C : Int) (P : Nat → Int) : Nat → Int
 | 0 => 1000000
 | k + 1 => C + mnF P k
def highK (C : Int) (P : Nat → Int) : Nat → Int
 | 0 => -1000000
 | k + 1 => C + mxF P k
def atLow (s0 lo : Int) (P : Nat → Int) : Nat → Int
 | 0 => s0
 | k + 1 => lo + amn P k
def atHigh (s0 lo : Int) (P : Nat → Int) : Nat → Int
 | 0 => s0
 | k + 1 => lo + amx P k
theorem low_step {C s0 lo : Int} {P : Nat → Int} {k : Nat} (hC : -4096 ≤ C ∧ C ≤ 4096) (hP : ∀ t, -256 ≤ P t ∧ P t ≤ 256) : (C + P k < lowK C P k → lowK C P (k + 1) = C + P k ∧ atLow s0 lo P (k + 1) = lo + k) ∧ (¬ C + P k < lowK C P k → lowK C P (k + 1) = lowK C P k ∧ atLow s0 lo P (k + 1) = atLow s0 lo P k) := by
 have h0 := hP k
 cases k with
 | zero =>
   refine ⟨fun _ => ⟨rfl, rfl⟩, fun h => ?_⟩
   simp only [lowK] at h
   omega
 | succ k =>
   simp only [lowK, atLow, mnF, amn]
   refine ⟨fun h => ?_, fun h => ?_⟩
   · rw [if_pos (by omega)]
     exact ⟨by omega, rfl⟩
   · rw [if_neg (by omega)]
     exact ⟨by omega, rfl⟩
theorem high_step {C s0 lo : Int} {P : Nat → Int} {k : Nat} (hC : -4096 ≤ C ∧ C ≤ 4096) (hP : ∀ t, -256 ≤ P t ∧ P t ≤ 256) : (highK C P k < C + P k → highK C P (k + 1) = C + P k ∧ atHigh s0 lo P (k + 1) = lo + k) ∧ (¬ highK C P k < C + P k → highK C P (k + 1) = highK C P k ∧ atHigh s0 lo P (k + 1) = atHigh s0 lo P k) := by
 have h0 := hP k
 cases k with
 | zero =>
   refine ⟨fun _ => ⟨rfl, rfl⟩, fun h => ?_⟩
   simp only [highK] at h
   omega
 | succ k =>
   simp only [highK, atHigh, mxF, amx]
   refine ⟨fun h => ?_, fun h => ?_⟩
   · rw [if_pos (by omega)]
     exact ⟨by omega, rfl⟩
   · rw [if_neg (by omega)]
     exact ⟨by omega, rfl⟩
section
variable {T X : Heap} {n N : Nat} {ga : Addr} {c' : Nat} {t : Value} {nd nn : Int} {l : List Gun} {sh : List Int} {d : ByteArray} {W b7 b8 b10 bs : Nat} {fs : List Nat}
set_option maxRecDepth 20000 in
set_option maxHeartbeats 4000000 in
theorem w13c {I k : Nat} (hm : M13 T X n N ga c' t nd k l sh d W b7 b8 b10 bs fs) (hst : strE l = 0) (h4 : l.length ≤ 4) (hsh : shE l sh = 0) (hd : hasW d dirs = true) (hW1 : 1 ≤ W ∧ W ≤ 64) (hk : k ≤ 255) (hI : k / 32 % W = I)
   (hK : ∀ (Y : Heap) (M bl bm : Nat), M13 T Y n M ga c' t nd k l sh d W b7 b8 b10 bs fs → hget Y bl = some (.ext ((chosen (leastF l d I) sh l.length).map iv) 3 1) → hget Y bm = some (.ext ((chosen (mostF l d I) sh l.length).map iv) 3 1) → E Tryz.prog n none (cFrom (bodyOf Tryz.f13) 17) { fr := F13 n d W b7 l.length b8 b10 bs ++ [(29, iv I), (30, .slice (some ⟨bl, 0, some 0⟩) l.length 0), (31, .slice (some ⟨bm, 0, some 0⟩) l.length 0)], sz := 475, H := Y, n := M, marks := [], vs := vs13 } (pureK Tryz.prog Tryz.f13 T (.bool true))) :
   E Tryz.prog n none (cFrom (bodyOf Tryz.f13) 14) { fr := F13 n d W b7 l.length b8 b10 bs, sz := 475, H := X, n := N, marks := [], vs := vs13 } (pureK Tryz.prog Tryz.f13 T (.bool true)) := by
 have hr := recT_ok (P := Tryz.prog) (l := [(42, g42), (21, g21), (41, g41), (87, gErr fun l => firstV (l.map err32)), (85, gSix)]) (by simp only [List.forall_mem_cons]; exact ⟨ok42, ok21, ok41, ok87, ok85, by simp⟩)
 have hln := strE_len hst
 obtain ⟨hsok, hshl⟩ := ok_sh hsh
 obtain ⟨q1, q2, q3⟩ := hm.box
 have hIW : I < W := by rw [← hI]; exact Nat.mod_lt _ (by omega)
 have hwk : IntKind.i64.wrap (k : Int) = k := W_in (by omega) (by omega)
 have hquo : (k : Int).tdiv 32 = (k : Int) / 32 := Int.tdiv_eq_ediv_of_nonneg (by omega)
 have hwq : IntKind.i64.wrap ((k : Int) / 32) = (k : Int) / 32 := W_in (by omega) (by omega)
 have hrem : ((k : Int) / 32).tmod (W : Int) = (I : Int) := by
   rw [Int.tmod_eq_emod_of_nonneg (by omega), ← hI]
   simp
 have hwI : IntKind.i64.wrap (I : Int) = I := W_in (by omega) (by omega)
 have hW0 : (W : Int) ≠ 0 := by omega
 refine E.seq ?_
 refine E.reg hr (by simp [-cellA, q3, opConvert, cv53, hwk, bin_quo (show (32 : Int) ≠ 0 by decide), hquo, hwq, bin_rem hW0, hrem]; rfl) ?_
 -- two copies of the shifts
 have hi7 : intsW X (.slice (some ⟨b7, 0, some 0⟩) l.length 0) = some sh := by
   have := ints_ext (c := 0) hm.s7 (by omega)
   rwa [hshl] at this
 have hc1 := ints_call (N := N) hi7 (by omega)
 obtain ⟨hM1, hS1⟩ := hm.mem.put (b := .ext (sh.map iv) 3 1) rfl
 obtain ⟨X1, hX1⟩ : ∃ X1, (N, Blk.ext (sh.map iv) 3 1) :: X = X1 := ⟨_, rfl⟩
 have hb1 : hget X1 N = some (.ext (sh.map iv) 3 1) := by rw [← hX1, hget_cons, if_pos rfl]
 rw [hX1, hshl] at hc1
 rw [hX1] at hM1 hS1
 have hc2 := ints_call (N := N + 1) (intsW_mono hS1 hi7) (by omega)
 obtain ⟨hM2, hS2⟩ := hM1.put (b := .ext (sh.map iv) 3 1) rfl
 obtain ⟨X2, hX2⟩ : ∃ X2, (N + 1, Blk.ext (sh.map iv) 3 1) :: X1 = X2 := ⟨_, rfl⟩
 have hb2 : hget X2 (N + 1) = some (.ext (sh.map iv) 3 1) := by rw [← hX2, hget_cons, if_pos rfl]
 rw [hX2, hshl] at hc2
 rw [hX2] at hM2 hS2
 refine E.seq ?_
 refine E.reg hr (by simp [hc1, hc2]; rfl) ?_
 refine E.seq ?_
 refine E.seq ?_
 refine E.reg hr (by simp [-cellA, hS2.cell (hS1.cell q2)]; rfl) ?_
 refine E.block ?_
 refine E.loop ?_
 refine EL.ind (fun x : Nat × Heap × Nat => { fr := F13 n d W b7 l.length b8 b10 bs ++ [(29, iv I), (30, .slice (some ⟨N, 0, some 0⟩) l.length 0), (31, .slice (some ⟨N + 1, 0, some 0⟩) l.length 0), (303, .slice (some ga) l.length c'), (304, iv l.length), (305, iv x.1)], sz := 475, H := x.2.1, n := x.2.2, marks := [], vs := vs13 }) (fun x => l.length - x.1) (fun x => x.1 ≤ l.length ∧ Sub X x.2.1 ∧ N + 2 ≤ x.2.2 ∧ MemOk x.2.2 x.2.1 ∧ hget x.2.1 N = some (.ext ((chosen (leastF l d I) sh x.1).map iv) 3 1) ∧ hget x.2.1 (N + 1) = some (.ext ((chosen (mostF l d I) sh x.1).map iv) 3 1)) (0, X2, N + 1 + 1) (.keep rfl rfl rfl (by simp) (Sub.refl _)) ⟨Nat.zero_le _, hS1.trans hS2, Nat.le_refl _, hM2, by rw [chosen_zero]; exact hS2 _ _ hb1, by rw [chosen_zero]; exact hb2⟩ (fun _ => rfl) ?_
 rintro ⟨m, Z, M⟩ ⟨hmL, hSZ, hNM, hMZ, hbl, hbm⟩
 dsimp only at hmL hSZ hNM hMZ hbl hbm ⊢
 have hwm : IntKind.i64.wrap ((m : Int) + 1) = (m : Int) + 1 := W_in (by omega) (by omega)
 refine E.seq ?_
 refine E.reg hr (by simp; rfl) ?_
 refine E.seq ?_
 by_cases hml : m < l.length
 · have hmI : (m : Int) < l.length := by omega
   have hmZ := hm.more hSZ hMZ
   have hgun := hmZ.gun hml
   have hga := hmZ.gaf
   have hgA := gAt_at l hml
   obtain ⟨g, hg⟩ : ∃ g, l[m] = g := ⟨_, rfl⟩
   rw [hg] at hgun hgA
   have hgn := gun_nums hst g (by rw [← hg]; exact List.getElem_mem hml)
   have hgl : g.lo ≤ g.hi := by have := gun_lo hst hml; rwa [hgA] at this
   have hms : m < sh.length := by omega
   refine E.cond (t := true) (by simp [hml]) (fun _ => ?_) (fun h => by cases h)
   refine E.skip ?_
   refine E.seq ?_
   refine E.block ?_
   refine E.seq ?_
   refine E.reg hr (by simp [-cellA, -cellsA, -flat, hml, hmI, hga, hgun]; rfl) ?_
   obtain ⟨hMb, hSb⟩ := hMZ.put (b := .cells g.cells 94) rfl
   obtain ⟨Zb, hZb⟩ : ∃ Zb, (M, Blk.cells g.cells 94) :: Z = Zb := ⟨_, rfl⟩
   have hbb : hget Zb M = some (.cells g.cells 94) := by rw [← hZb, hget_cons, if_pos rfl]
   rw [hZb] at hMb hSb
   rw [hZb]
   refine E.seq ?_
   refine E.reg hr (by simp; rfl) ?_
   have hg5 : cellA Zb M 5 = some (iv g.lo) := by rw [cellA_eq, hbb]; rfl
   refine E.seq ?_
   refine E.reg hr (by simp [-cellA, hg5]; rfl) ?_
   obtain ⟨P, hP⟩ : ∃ P, gPi l d I m = P := ⟨_, rfl⟩
   obtain ⟨C, hC⟩ : ∃ C, restP l sh d I m = C := ⟨_, rfl⟩
   have hPb : ∀ t, -256 ≤ P t ∧ P t ≤ 256 := fun t => by rw [← hP]; exact gPi_bd hst hml I t
   have hCb : -4096 ≤ C ∧ C ≤ 4096 := by rw [← hC]; exact rest_bd hst hml I
   obtain ⟨cl, hcl⟩ : ∃ cl, chosen (leastF l d I) sh m = cl := ⟨_, rfl⟩
   obtain ⟨cm, hcm⟩ : ∃ cm, chosen (mostF l d I) sh m = cm := ⟨_, rfl⟩
   have hcll : cl.length = l.length := by rw [← hcl]; simp [chosen, hshl]
   have hcml : cm.length = l.length := by rw [← hcm]; simp [chosen, hshl]
   have hclm : cl.set m sh[m] = cl := by
     refine List.ext_getElem (by simp) fun i h1 h2 => ?_
     rw [List.getElem_set]
     split
     · rename_i e
       subst e
       simp only [← hcl, chosen, rl_getElem, Nat.lt_irrefl, if_false]
       exact (getD_at hms).symm
     · rfl
   have hcmm : cm.set m sh[m] = cm := by
     refine List.ext_getElem (by simp) fun i h1 h2 => ?_
     rw [List.getElem_set]
     split
     · rename_i e
       subst e
       simp only [← hcm, chosen, rl_getElem, Nat.lt_irrefl, if_false]
       exact (getD_at hms).symm
     · rfl
   rw [hcl] at hbl
   rw [hcm] at hbm
   obtain ⟨K, hKg⟩ : ∃ K, gK g = K := ⟨_, rfl⟩
   have hKe : g.hi = g.lo + K := by
     rw [← hKg]
     unfold gK
     omega
   have hSXb := hSZ.trans hSb
   refine E.block ?_
   refine E.loop ?_
   refine EL.ind (fun x : Nat × Heap × Nat => { fr := F13 n d W b7 l.length b8 b10 bs ++ [(29, iv I), (30, .slice (some ⟨N, 0, some 0⟩) l.length 0), (31, .slice (some ⟨N + 1, 0, some 0⟩) l.length 0), (32, iv m), (33, .pointer (some ⟨M, 0, none⟩)), (34, iv (lowK C P x.1)), (35, iv (highK C P x.1)), (36, iv (g.lo + x.1)), (303, .slice (some ga) l.length c'), (304, iv l.length), (305, iv m)], sz := 475, H := x.2.1, n := x.2.2, marks := [], vs := vs13 }) (fun x => K + 1 - x.1) (fun x => x.1 ≤ K + 1 ∧ Sub X x.2.1 ∧ M < x.2.2 ∧ MemOk x.2.2 x.2.1 ∧ hget x.2.1 M = some (.cells g.cells 94) ∧ hget x.2.1 N = some (.ext ((cl.set m (atLow sh[m] g.lo P x.1)).map iv) 3 1) ∧ hget x.2.1 (N + 1) = some (.ext ((cm.set m (atHigh sh[m] g.lo P x.1)).map iv) 3 1)) (0, Zb, M + 1) (.keep rfl rfl rfl (by simp [lowK, highK]) (Sub.refl _)) ⟨Nat.zero_le _, hSXb, Nat.lt_succ_self _, hMb, hbb, by rw [show atLow sh[m] g.lo P 0 = sh[m] from rfl, hclm]; exact hSb _ _ hbl, by rw [show atHigh sh[m] g.lo P 0 = sh[m] from rfl, hcmm]; exact hSb _ _ hbm⟩ (fun _ => rfl) ?_
   rintro ⟨k', Zx, Mx⟩ ⟨hkK, hSx, hMx, hmx, hbg, hbl', hbm'⟩
   dsimp only at hkK hSx hMx hmx hbg hbl' hbm' ⊢
   have hg6 : cellA Zx M 6 = some (iv g.hi) := by rw [cellA_eq, hbg]; rfl
   refine E.seq ?_
   refine E.seq ?_
   refine E.reg hr (by simp [-cellA, hg6]; rfl) ?_
   by_cases hkl : k' ≤ K
   · obtain ⟨s, hs⟩ : ∃ s : Int, g.lo + (k' : Int) = s := ⟨_, rfl⟩
     have hsb : (gAt l m).lo ≤ s ∧ s ≤ (gAt l m).hi := by rw [hgA]; omega
     have hs4 : 0 ≤ s ∧ s ≤ 4 := by
       have := hgn.2.2.2.2.1
       have := hgn.2.2.2.2.2
       omega
     have hws : IntKind.i64.wrap (s + 1) = s + 1 := W_in (by omega) (by omega)
     have hle : s ≤ g.hi := by omega
     have hmx' := hm.more hSx hmx
     rw [hs]
     refine E.cond (t := true) (by simp [hle]) (fun _ => ?_) (fun h => by cases h)
     refine E.skip ?_
     refine E.seq ?_
     refine E.block ?_
     -- shifts of which one is another
     have hc3 := ints_call (N := Mx) (intsW_mono hSx hi7) (by omega)
     rw [hshl] at hc3
     refine E.seq ?_
     refine E.reg hr (by simp [hc3]; rfl) ?_
     obtain ⟨one, hone⟩ : ∃ one, sh.set m s = one := ⟨_, rfl⟩
     have hoe : shE l one = 0 := by rw [← hone]; exact set_ok hsh hml hsb
     have hol := (ok_sh hoe).2
     obtain ⟨hMo, hSo⟩ := hmx.put (b := .ext (one.map iv) 3 1) rfl
     obtain ⟨Zo, hZo⟩ : ∃ Zo, (Mx, Blk.ext (one.map iv) 3 1) :: Zx = Zo := ⟨_, rfl⟩
     have hbo : hget Zo Mx = some (.ext (one.map iv) 3 1) := by rw [← hZo, hget_cons, if_pos rfl]
     have hsto : storeA ((Mx, Blk.ext (sh.map iv) 3 1) :: Zx) Mx m [iv s] = some Zo := by
       rw [store_ext (cs := sh.map iv) (t := 3) (sz := 1) (by rw [hget_cons, if_pos rfl]) (by simpa using hms), ← List.map_set, hone, ← hZo]
       simp [hset]
     rw [hZo] at hMo hSo
     refine E.seq ?_
     refine E.reg hr (by simp [-storeA, hmI, hsto]; rfl) ?_
     have hmo := hmx'.more hSo hMo
     obtain ⟨x44, Y44, N44, b38, X44, M44, p1, p2, hb38, _, _, hS44, hN44, hM44⟩ := sig_grp2 (d := d) (W := W) hMo hmo.g0 hmo.str hbo hst hoe hd hW1
     refine E.seq ?_
     refine E.reg hr (by simp [-cellsA, -cellA, hmo.box.1, p1, p2]; rfl) ?_
     obtain ⟨ys, hys⟩ : ∃ ys, refS l d one W = ys := ⟨_, rfl⟩
     obtain ⟨hyg, hy6⟩ := refS_good (d := d) (W := W) hst hoe
     rw [hys] at hyg hy6 hb38
     have hyl : ys.length = W := by rw [← hys, refS_len]
     have hyf : fltV X44 (.slice (some ⟨b38, 0, some 0⟩) W 0) = some ys := by
       have := flt_ext (c := 0) hb38 (by omega : ys.length ≤ 64)
       rwa [hyl] at this
     have h87 : ∀ q, gErr (fun l => firstV (l.map err32)) [.slice (some ⟨b38, 0, some 0⟩) W 0] X44 q = some (iv 0, X44, q) := fun q => by
       have h1 : firstV (ys.map err32) = 0 := (firstV_zero _).2 fun e he => by
         obtain ⟨b, hb, rfl⟩ := List.mem_map.1 he
         exact good_err (hyg b hb)
       simp only [gErr, hyf, Option.map_some, h1]
     refine E.seq ?_
     refine E.seq ?_
     refine E.reg hr (by simp [h87]; rfl) ?_
     refine E.cond (t := false) (by simp) (fun h => by cases h) (fun _ => ?_)
     refine E.skip ?_
     have hIy : I < ys.length := by omega
     have hII : (I : Int) < W := by omega
     have hcy : cellA X44 b38 I = some (fv ys[I]) := by
       rw [cellA_eq, hb38]
       simp [cellB, List.getElem?_map, List.getElem?_eq_getElem hIy]
     have hs6 : ∀ Y k, gSix [fv ys[I]] Y k = some (iv (six32 ys[I]), Y, k) := fun Y k => if_pos (List.all_eq_true.1 (allSm_of hyg) _ (List.getElem_mem hIy))
     have h6I : six32 ys[I] = C + P k' := by
       have h1 := sig_at (d := d) hst hoe hIW
       rw [← hy6, List.getD_eq_getElem?_getD, List.getElem?_map, List.getElem?_eq_getElem hIy] at h1
       have h2 := sum_one (d := d) hml hshl (I : Int) k'
       rw [hgA, hs, hone, hC, hP] at h2
       exact h1.trans h2
     rw [h6I] at hs6
     obtain ⟨q, hq⟩ : ∃ q, ys[I] = q := ⟨_, rfl⟩
     rw [hq] at hcy hs6
     refine E.seq ?_
     refine E.reg hr (by simp [-cellA, hII, hcy, hs6]; rfl) ?_
     obtain ⟨hlow1, hlow2⟩ := low_step (s0 := sh[m]) (lo := g.lo) (k := k') hCb hPb
     obtain ⟨hhigh1, hhigh2⟩ := high_step (s0 := sh[m]) (lo := g.lo) (k := k') hCb hPb
     rw [hs] at hlow1 hhigh1
     have hkeep44 : Sub Zx X44 := hSo.trans hS44
     have hblX := hkeep44 _ _ hbl'
     have hbmX := hkeep44 _ _ hbm'
     have hbgX := hkeep44 _ _ hbg
     have hXX := hSx.trans hkeep44
     refine E.seqP (fun st' => ∃ Z1, Leads Tryz.prog n st' { fr := F13 n d W b7 l.length b8 b10 bs ++ [(29, iv I), (30, .slice (some ⟨N, 0, some 0⟩) l.length 0), (31, .slice (some ⟨N + 1, 0, some 0⟩) l.length 0), (32, iv m), (33, .pointer (some ⟨M, 0, none⟩)), (34, iv (lowK C P (k' + 1))), (35, iv (highK C P k')), (36, iv s), (40, iv (C + P k')), (303, .slice (some ga) l.length c'), (304, iv l.length), (305, iv m)], sz := 475, H := Z1, n := M44, marks := [], vs := vs13 } ∧ Sub X Z1 ∧ MemOk M44 Z1 ∧ hget Z1 M = some (.cells g.cells 94) ∧ hget Z1 N = some (.ext ((cl.set m (atLow sh[m] g.lo P (k' + 1))).map iv) 3 1) ∧ hget Z1 (N + 1) = some (.ext ((cm.set m (atHigh sh[m] g.lo P k')).map iv) 3 1)) ?_ ?_
     · refine E.seq ?_
       refine E.reg hr (by simp; rfl) ?_
       by_cases hlt : C + P k' < lowK C P k'
       · obtain ⟨e1, e2⟩ := hlow1 hlt
         refine E.cond (t := true) (by simp [hlt]) (fun _ => ?_) (fun h => by cases h)
         obtain ⟨Z1, hZ1⟩ : ∃ Z1, hset X44 N (.ext ((cl.set m s).map iv) 3 1) = Z1 := ⟨_, rfl⟩
         have hst1 : storeA X44 N m [iv s] = some Z1 := by
           rw [store_ext hblX (by simp; omega), ← List.map_set, List.set_set, hZ1]
         refine E.reg hr (by simp [-storeA, hmI, hst1]; rfl) ?_
         refine ⟨rfl, Z1, .keep rfl rfl rfl (by simp [e1]) (Sub.refl _), fun k b hb => ?_, by rw [← hZ1]; exact hM44.set rfl, ?_, ?_, ?_⟩
         · rw [← hZ1, hget_set, if_neg (by have := hm.mem.lt hb; omega)]
           exact hXX _ _ hb
         · rw [← hZ1, hget_set, if_neg (by omega)]
           exact hbgX
         · rw [← hZ1, hget_set, if_pos rfl, hblX, e2]
           rfl
         · rw [← hZ1, hget_set, if_neg (by omega)]
           exact hbmX
       · obtain ⟨e1, e2⟩ := hlow2 hlt
         refine E.cond (t := false) (by simp [hlt]) (fun h => by cases h) (fun _ => ?_)
         refine E.skip ?_
         exact ⟨rfl, X44, .keep rfl rfl rfl (by simp [e1]) (Sub.refl _), hXX, hM44, hbgX, by rw [e2]; exact hblX, hbmX⟩
     rintro st' ⟨Z1, hlead, hX1', hM1', hbg1, hbl1, hbm1⟩
     refine E.lead _ hlead ?_
     refine E.seq ?_
     refine E.reg hr (by simp; rfl) ?_
     have hnext : s + 1 = g.lo + ((k' + 1 : Nat) : Int) := by omega
     by_cases hgt : highK C P k' < C + P k'
     · obtain ⟨e1, e2⟩ := hhigh1 hgt
       refine E.cond (t := true) (by simp [hgt]) (fun _ => ?_) (fun h => by cases h)
       obtain ⟨Z2, hZ2⟩ : ∃ Z2, hset Z1 (N + 1) (.ext ((cm.set m s).map iv) 3 1) = Z2 := ⟨_, rfl⟩
       have hst2 : storeA Z1 (N + 1) m [iv s] = some Z2 := by
         rw [store_ext hbm1 (by simp; omega), ← List.map_set, List.set_set, hZ2]
       refine E.reg hr (by simp [-storeA, hmI, hst2]; rfl) ?_
       refine E.reg hr (by simp [hws]; rfl) ?_
       refine ⟨(k' + 1, Z2, M44), .keep rfl rfl rfl (by simp [e1, hnext]) (Sub.refl _), ⟨by omega, fun k b hb => ?_, by dsimp only; omega, by rw [← hZ2]; exact hM1'.set rfl, ?_, ?_, ?_⟩, by dsimp only; omega⟩
       · rw [← hZ2, hget_set, if_neg (by have := hm.mem.lt hb; omega)]
         exact hX1' _ _ hb
       · rw [← hZ2, hget_set, if_neg (by omega)]
         exact hbg1
       · rw [← hZ2, hget_set, if_neg (by omega)]
         exact hbl1
       · rw [← hZ2, hget_set, if_pos rfl, hbm1, e2]
         rfl
     · obtain ⟨e1, e2⟩ := hhigh2 hgt
       refine E.cond (t := false) (by simp [hgt]) (fun h => by cases h) (fun _ => ?_)
       refine E.skip ?_
       refine E.reg hr (by simp [hws]; rfl) ?_
       exact ⟨(k' + 1, Z1, M44), .keep rfl rfl rfl (by simp [e1, hnext]) (Sub.refl _), ⟨by omega, hX1', by dsimp only; omega, hM1', hbg1, hbl1, by rw [e2]; exact hbm1⟩, by dsimp only; omega⟩
   · have e : k' = K + 1 := by omega
     subst e
     refine E.cond (t := false) (by simp; omega) (fun h => by cases h) (fun _ => ?_)
     refine E.exit ?_
     refine E.reg hr (by simp [hwm]; rfl) ?_
     have e1 : atLow sh[m] g.lo P (K + 1) = leastF l d I m := by rw [leastF, hgA, hKg, hP]; rfl
     have e2 : atHigh sh[m] g.lo P (K + 1) = mostF l d I m := by rw [mostF, hgA, hKg, hP]; rfl
     rw [e1, ← hcl, chosen_set hms] at hbl'
     rw [e2, ← hcm, chosen_set hms] at hbm'
     exact ⟨(m + 1, Zx, Mx), .keep rfl rfl rfl (by simp) (Sub.refl _), ⟨hml, hSx, by dsimp only; omega, hmx, hbl', hbm'⟩, by dsimp only; omega⟩
 · have e : m = l.length := by omega
   subst e
   refine E.cond (t := false) (by simp) (fun h => by cases h) (fun _ => ?_)
   refine E.exit ?_
   refine E.lead { fr := F13 n d W b7 l.length b8 b10 bs ++ [(29, iv I), (30, .slice (some ⟨N, 0, some 0⟩) l.length 0), (31, .slice (some ⟨N + 1, 0, some 0⟩) l.length 0)], sz := 475, H := Z, n := M, marks := [], vs := vs13 } (.keep rfl rfl rfl (by simp) (Sub.refl _)) ?_
   exact hK Z M N (N + 1) (hm.more hSZ hMZ) hbl hbm
end
end Go.Proofs.YtndlfijfjglkdaaGreatDoor

namespace Go.Proofs.YtndlfijfjglkdaaGreatDoor
open Go Go.Ab Go.Proofs Go.Soft Ieee
theorem flt_call {X : Heap} {N : Nat} {u : Value} {fs : List Nat} (h : fltV X u = some fs) (hl : 1 ≤ fs.length) : g78 [u] X N = some (.slice (some ⟨N, 0, some 0⟩) fs.length 0, (N, .ext (fs.map fv) 98 1) :: X, N + 1) := by
 have h0 : fs.length ≠ 0 := by omega
 have e : g78 [u] X N = some (kF.val N fs, (N, kF.blk fs) :: X, N + 1) := by simp only [g78, h]; rfl
 rw [e]
 show some ((if fs.length = 0 then _ else _), (N, (if fs.length = 0 then _ else _)) :: X, N + 1) = _
 rw [if_neg h0, if_neg h0]
 rfl
theorem refS_get {l : List Gun} {sh : List Int} {d : ByteArray} {W j : Nat} (hst : strE l = 0) (hsh : shE l sh = 0) (hj : j < W) : (refS l d sh W)[j]? = some (sampB (sumP l sh d j l.length)) := by
 rw [refS, List.getElem?_map, sigN_get hst hsh d hj l.length (Nat.le_refl _)]
 rfl
theorem samp_self {n : Int} (h1 : -4096 ≤ n) (h2 : n ≤ 4096) : (FloatKind.f32.format.order (sampB n) (sampB n) != some Ordering.eq) = false := by
 obtain ⟨h3, h4⟩ := good_samp h1 h2
 have := eqF_samp h1 h2 h3
 rw [h4, decide_eq_true rfl] at this
 unfold eqF at this
 simp only [bne, this, Bool.not_true]
section
variable {T X : Heap} {n N : Nat} {ga : Addr} {c' : Nat} {t : Value} {nd nn : Int} {l : List Gun} {sh : List Int} {d : ByteArray} {W b7 b8 b10 bs : Nat} {fs : List Nat}
set_option maxRecDepth 20000 in
set_option maxHeartbeats 4000000 in
theorem w13d {I bl bm : Nat} (hm : M13 T X n N ga c' t nd nn l sh d W b7 b8 b10 bs fs) (hst : strE l = 0) (h4 : l.length ≤ 4) (hsh : shE l sh = 0) (hd : hasW d dirs = true) (hW1 : 1 ≤ W ∧ W ≤ 64) (hI : I < W) (hfs : refS l d sh W = fs)
   (hbl : hget X bl = some (.ext ((chosen (leastF l d I) sh l.length).map iv) 3 1)) (hbm : hget X bm = some (.ext ((chosen (mostF l d I) sh l.length).map iv) 3 1)) :
   E Tryz.prog n none (cFrom (bodyOf Tryz.f13) 17) { fr := F13 n d W b7 l.length b8 b10 bs ++ [(29, iv I), (30, .slice (some ⟨bl, 0, some 0⟩) l.length 0), (31, .slice (some ⟨bm, 0, some 0⟩) l.length 0)], sz := 475, H := X, n := N, marks := [], vs := vs13 } (pureK Tryz.prog Tryz.f13 T (.bool true)) := by
 have hr := recT_ok (P := Tryz.prog) (l := [(21, g21), (41, g41), (88, gSamp), (78, g78), (77, g77), (79, g79)]) (by simp only [List.forall_mem_cons]; exact ⟨ok21, ok41, ok88, ok78, ok77, ok79, by simp⟩)
 have hln := strE_len hst
 obtain ⟨hsok, hshl⟩ := ok_sh hsh
 have hII : (I : Int) < W := by omega
 obtain ⟨lw, hlw⟩ : ∃ z, chosen (leastF l d I) sh l.length = z := ⟨_, rfl⟩
 obtain ⟨ms, hms⟩ : ∃ z, chosen (mostF l d I) sh l.length = z := ⟨_, rfl⟩
 have hlwe : shE l lw = 0 := by rw [← hlw]; exact chosen_ok hsh (fun k hk => leastF_in hst I hk) _
 have hmse : shE l ms = 0 := by rw [← hms]; exact chosen_ok hsh (fun k hk => mostF_in hst I hk) _
 have hsl : sumP l lw d I l.length = (encS l d I l.length).1 := by rw [← hlw]; exact sum_least hshl I _ (Nat.le_refl _)
 have hsm : sumP l ms d I l.length = (encS l d I l.length).2 := by rw [← hms]; exact sum_most hshl I _ (Nat.le_refl _)
 have hbd := encS_bd (d := d) hst (I : Int) l.length (Nat.le_refl _)
 obtain ⟨lo, hlo⟩ : ∃ z, (encS l d I l.length).1 = z := ⟨_, rfl⟩
 obtain ⟨hi, hhi⟩ : ∃ z, (encS l d I l.length).2 = z := ⟨_, rfl⟩
 rw [hlw] at hbl
 rw [hms] at hbm
 -- both signatures
 obtain ⟨x53, Y53, N53, b41, X53, M53, p1, p2, hb41, _, _, hS53, hN53, hM53⟩ := sig_grp2 (d := d) (W := W) hm.mem hm.g0 hm.str hbl hst hlwe hd hW1
 refine E.seq ?_
 refine E.reg hr (by simp [-cellsA, -cellA, hm.box.1, p1, p2]; rfl) ?_
 have hm3 := hm.more hS53 hM53
 obtain ⟨x54, Y54, N54, b43, X54, M54, r1, r2, hb43, _, _, hS54, hN54, hM54⟩ := sig_grp2 (d := d) (W := W) hM53 hm3.g0 hm3.str (hS53 _ _ hbm) hst hmse hd hW1
 refine E.seq ?_
 refine E.reg hr (by simp [-cellsA, -cellA, hm3.box.1, r1, r2]; rfl) ?_
 have hm4 := hm3.more hS54 hM54
 have hca : cellA X54 b41 I = some (fv (sampB lo)) := by
   rw [cellA_eq, hS54 _ _ hb41]
   show ((refS l d lw W).map fv)[I]? = _
   rw [List.getElem?_map, refS_get hst hlwe hI, hsl, hlo]
   rfl
 have hcb : cellA X54 b43 I = some (fv (sampB hi)) := by
   rw [cellA_eq, hb43]
   show ((refS l d ms W).map fv)[I]? = _
   rw [List.getElem?_map, refS_get hst hmse hI, hsm, hhi]
   rfl
 obtain ⟨hce0, hce1⟩ := hm4.enc hI
 rw [hlo] at hce0 hbd
 rw [hhi] at hce1 hbd
 have hlo1 : -4096 ≤ lo ∧ lo ≤ 4096 := by omega
 have hhi1 : -4096 ≤ hi ∧ hi ≤ 4096 := by omega
 have hhi2 : -4096 ≤ hi + 1 ∧ hi + 1 ≤ 4096 := by omega
 have h88l : ∀ Y k, gSamp [iv lo] Y k = some (fv (sampB lo), Y, k) := fun Y k => if_pos hlo1
 have h88h : ∀ Y k, gSamp [iv hi] Y k = some (fv (sampB hi), Y, k) := fun Y k => if_pos hhi1
 have h88w : ∀ Y k, gSamp [iv (hi + 1)] Y k = some (fv (sampB (hi + 1)), Y, k) := fun Y k => if_pos hhi2
 have ho1 := samp_self hlo1.1 hlo1.2
 have ho2 := samp_self hhi1.1 hhi1.2
 obtain ⟨ql, hql⟩ : ∃ z, sampB lo = z := ⟨_, rfl⟩
 obtain ⟨qh, hqh⟩ : ∃ z, sampB hi = z := ⟨_, rfl⟩
 rw [hql] at ho1 hca h88l
 rw [hqh] at ho2 hcb h88h
 have hx3 := takeNew_frz hm4.mem.1
 obtain ⟨_, _, _, x8, x10, xs⟩ := hm4.lt
 have x41 := hm4.mem.lt (hS54 _ _ hb41)
 have x43 := hm4.mem.lt hb43
 refine E.seq ?_
 refine E.seq ?_
 refine E.drawU mixed hr [] [28, 41] [22, 27, 28, 35, 40, 41] (by kernel_rfl) (by simp [-cellA, -readA, cellA_read, hm4.mem.1, hm4.mem.2, x10, x41, x43, hx3, hca, hcb, hce0, hce1, hII, h88l, h88h, bin_fneql, ho1, ho2]; rfl) ?_
 refine E.cond (t := false) (by simp) (fun h => by cases h) (fun _ => ?_)
 refine E.skip ?_
 -- one number too high
 have hfl : fs.length = W := by rw [← hfs, refS_len]
 have hf8 : fltV X54 (.slice (some ⟨b8, 0, some 0⟩) W 0) = some fs := by
   have := flt_ext (c := 0) hm4.s8 (by omega : fs.length ≤ 64)
   rwa [hfl] at this
 have h78 := flt_call (N := M54) hf8 (by omega)
 rw [hfl] at h78
 refine E.seq ?_
 refine E.reg hr (by simp [h78]; rfl) ?_
 obtain ⟨wr, hwr⟩ : ∃ wr, fs.set I (sampB (hi + 1)) = wr := ⟨_, rfl⟩
 obtain ⟨hw1, hw2, hw3, hw4⟩ := wrong_sig (d := d) hst hsh hd hW1 hI (fs := wr) (by rw [← hwr, hfs, hhi])
 obtain ⟨hMw, hSw⟩ := hM54.put (b := .ext (wr.map fv) 98 1) rfl
 obtain ⟨Xw, hXw⟩ : ∃ Xw, (M54, Blk.ext (wr.map fv) 98 1) :: X54 = Xw := ⟨_, rfl⟩
 have hbw : hget Xw M54 = some (.ext (wr.map fv) 98 1) := by rw [← hXw, hget_cons, if_pos rfl]
 have hsto : storeA ((M54, Blk.ext (fs.map fv) 98 1) :: X54) M54 I [fv (sampB (hi + 1))] = some Xw := by
   rw [store_ext (cs := fs.map fv) (t := 98) (sz := 1) (by rw [hget_cons, if_pos rfl]) (by simpa [hfl] using hI), ← List.map_set, hwr, ← hXw]
   simp [hset]
 rw [hXw] at hMw hSw
 obtain ⟨qw, hqw⟩ : ∃ z, sampB (hi + 1) = z := ⟨_, rfl⟩
 rw [hqw] at hsto h88w
 have hce1' : cellA ((M54, Blk.ext (fs.map fv) 98 1) :: X54) b10 (I * 2 + 1) = some (iv hi) := by rw [cellA_cons, if_neg (by omega)]; exact hce1
 have hwh : IntKind.i64.wrap (hi + 1) = hi + 1 := W_in (by omega) (by omega)
 refine E.seq ?_
 refine E.reg hr (by simp [-cellA, -storeA, hII, hce1', hwh, h88w, hsto]; rfl) ?_
 have hm5 := hm4.more hSw hMw
 have hfw : fltV Xw (.slice (some ⟨M54, 0, some 0⟩) W 0) = some wr := by
   have := flt_ext (c := 0) hbw (by omega : wr.length ≤ 64)
   rwa [hw1] at this
 obtain ⟨x59, Y59, N59, u1, u2, hS59, hN59, hM59⟩ := out_grp2 (d := d) hm5.mem hm5.g0 hm5.str hfw hst hw2
 rw [hw3] at u2
 refine E.seq ?_
 refine E.reg hr (by simp [-cellA, -cellsA, hm5.box.1, u1, u2]; rfl) ?_
 have hm6 := hm5.more hS59 hM59
 obtain ⟨x60, Y60, N60, X60, v1, v2, _, hS60, hN60, hM60⟩ := exp_grp2 (d := d) hm6.mem hm6.g0 hm6.str (listV_mono decFl_mono hS59 hfw) hst hw2 hw4
 refine E.seq ?_
 refine E.reg hr (by simp [-cellA, -cellsA, hm6.box.1, v1, v2]; rfl) ?_
 refine E.seq ?_
 refine E.reg hr (by simp; rfl) ?_
 refine E.ret ?_
 exact pureK.ret rfl rfl (by simp) (hm6.sub.trans hS60)
end
end Go.Proofs.YtndlfijfjglkdaaGreatDoor
