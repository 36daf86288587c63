/-
Contracts and plain reckonings behind the law GunTexts, part 5 of 6 (each under the conditions in its statement).
-/
import Derived.Deep.Slices
import Derived.Stop.LaidErr
import Derived.Test.YtndlfijfjglkdaaGreatDoorRd
import Derived.Test.YtndlfijfjglkdaaGreatDoorRc
import Derived.Test.YtndlfijfjglkdaaGreatDoorRb
import Derived.Test.YtndlfijfjglkdaaGreatDoorRa
import Derived.Test.YtndlfijfjglkdaaGreatDoorFa
import Derived.Test.YtndlfijfjglkdaaGreatDoorPa
namespace Go.Proofs.YtndlfijfjglkdaaGreatDoor
open Go Go.Ab Go.Proofs Go.Soft
abbrev fn179 : Value := .func (.func 179) #[] #[]
def glv (l : List Gun) : List Value := sls (l.map gl)
theorem glv_af (l : List Gun) : afL (glv l) = true := afL_sls _
theorem glv_snoc (l : List Gun) (g : Gun) : glv (l ++ [g]) = glv l ++ [sL (gl g)] := by simp [glv, sls]
theorem glv_len (l : List Gun) : (glv l).length = l.length := by simp [glv]
theorem seen3 {H : Heap} (h : hget H 3 = some (.tab tab3)) : Seen Tryz.prog H [(3, .tab tab3)] := by
 intro x hx
 rw [List.mem_singleton] at hx
 subst hx
 exact ⟨by rw [gsz]; omega, h, rfl, scL_af _ _ af_tab3⟩
open Classical in
noncomputable def g179 (args : List Value) (H : Heap) (n : Nat) : R := match args with
 | [.agg ⟨[.string s, .int .i64 v, .int .i64 x, .int .i64 y, .int .i64 d, .int .i64 lo, .int .i64 hi]⟩] => if LineOk ⟨s, v, x, y, d, lo, hi⟩ ∧ hget H 3 = some (.tab tab3) then some (sL (gl ⟨s, v, x, y, d, lo, hi⟩), H, n) else none
 | _ => none
theorem g179_at {g : Gun} {H : Heap} {n : Nat} (hg : LineOk g) (h3 : hget H 3 = some (.tab tab3)) : g179 [.agg ⟨[.string g.name, iv g.v, iv g.x, iv g.y, iv g.d, iv g.lo, iv g.hi]⟩] H n = some (sL (gl g), H, n) := by
 simp only [g179]
 rw [if_pos ⟨hg, h3⟩]
set_option maxRecDepth 100000 in
theorem ok179 : EntOk Tryz.prog (179, g179) := by
 intro args H n v H' n' hh
 simp only [g179] at hh
 split at hh
 · split at hh
   · rename_i hc
     injection hh with hh; injection hh with e1 e2; injection e2 with e2 e3; subst e1 e2 e3
     exact AC.liftP rfl (Part.plain (by simp) [(3, .tab tab3)] (seen3 hc.2) gsz ⟨_, _, w179 _ hc.1⟩)
   · cases hh
 · cases hh
set_option maxRecDepth 20000 in
theorem w146L {H : Heap} {n : Nat} {v : Value} {l : List Gun} (hG : GunsAt H v l) (hok : ∀ g ∈ l, LineOk g) (h3 : hget H 3 = some (.tab tab3)) : AC Tryz.prog 146 [v, fn179] H n (outC n (glv l)) (outCB n 9 (glv l) ++ H) (n + 1) := by
 have hne : glv l ≠ [] := fun e => by
   obtain ⟨_, _, _, _, _, hp, _⟩ := hG
   have := glv_len l
   rw [e] at this
   simp at this
   omega
 refine AC.given fun hold hsc hgn => AC.tidied (fun x hx => ?_) ?_
 · rw [outCB_ne hne, List.mem_singleton] at hx; subst hx; exact Nat.le_refl _
 replace hG := GunsAt.tidy (fun k b h => (hold k b h).1) hG
 replace h3 : hget (tidy n H) 3 = some (.tab tab3) := hget_tidy.2 ⟨h3, (hold _ _ h3).1, rfl⟩
 replace hold := tidy_old hold
 have hr := recT_ok (P := Tryz.prog) (l := [(179, g179)]) (by simp [ok179])
 obtain ⟨a, c, rfl, hf, hc, hp, hlt⟩ := hG
 have hsc : sc (· < n) (.slice (some a) l.length c) := hsc.1
 have hS : Sub (tidy n H) (tidy n H) := Sub.refl _
 refine AC.outList Tryz.func146 rfl (by kernel_rfl) rfl [0, 1, 4, 5, 7, 8, 9, 10, 11] hne ?_
 refine E.seq ?_
 refine E.reg hr (by simp; rfl) ?_
 refine E.seq ?_
 refine E.reg hr (by simp; rfl) ?_
 refine E.seq ?_
 refine E.seq ?_
 refine E.reg hr (by simp; rfl) ?_
 refine E.block ?_
 refine E.loop ?_
 refine EL.ind (fun i : Nat => { fr := [(1, fn179), (5, outC n (glv (l.take i))), (8, .slice (some a) l.length c), (9, iv l.length), (10, iv i)], sz := 22, H := outCB n 9 (glv (l.take i)) ++ tidy n H, n := n + 1, marks := [], vs := [0, 1, 4, 5, 7, 8, 9, 10, 11] }) (fun i => l.length - i) (fun i => i ≤ l.length) 0 (Leads.outC0 hold hS rfl rfl rfl ⟨rfl, rfl⟩ (by simp [-sc, hsc, glv, sls]; simp [sc, scL])) (Nat.zero_le _) (fun _ => rfl) ?_
 intro i hi
 have hw : IntKind.i64.wrap ((i : Int) + 1) = (i : Int) + 1 := W_in (by omega) (by omega)
 refine E.seq ?_
 refine E.reg hr (by simp; rfl) ?_
 refine E.seq ?_
 by_cases hil : i < l.length
 · obtain ⟨cs, hcs⟩ : ∃ cs, glv (l.take i) = cs := ⟨_, rfl⟩
   have haf : afL cs = true := by rw [← hcs]; exact glv_af _
   have hcl : cs.length = i := by rw [← hcs, glv_len, List.length_take]; omega
   have hts : glv (l.take (i + 1)) = cs ++ [sL (gl l[i])] := by rw [List.take_succ_eq_append_getElem hil, glv_snoc, hcs]
   rw [hcs]
   obtain ⟨HX, hHX⟩ : ∃ HX, outCB n 9 cs ++ tidy n H = HX := ⟨_, rfl⟩
   rw [hHX]
   have hSX : Sub (tidy n H) HX := by rw [← hHX]; exact sub_outC (by simp)
   have hc1 := cells_part (sz := 7) (i := i) hc hil
   rw [gcs_atB hil] at hc1
   have hld := load95 (s := none) (hSX.cells hc1)
   have hoX : cs ≠ [] → hget HX n = some (.ext cs 9 1) := fun h => by rw [← hHX, outCB_ne h, List.singleton_append, hget_cons, if_pos rfl]
   obtain ⟨g, hg⟩ : ∃ g, l[i] = g := ⟨_, rfl⟩
   have hgok := hok _ (List.getElem_mem hil)
   rw [hg] at hld hts hgok
   have hgn : 10 ≤ n := by have := hgn; rw [gsz] at this; exact this
   obtain ⟨Hb, hHb⟩ : ∃ Hb, ((n + 1 + 1, Blk.cells [sL (gl g)] 9) :: (n + 1, .cells [.string g.name, iv g.v, iv g.x, iv g.y, iv g.d, iv g.lo, iv g.hi] 95) :: HX) = Hb := ⟨_, rfl⟩
   have happ := app102 (H := Hb) (o := n) (k := n + 1 + 1) (m := n + 1 + 1 + 1) (cs := cs) (x := bA (gl g)) (by rw [cellsA_eq, ← hHb, hget_cons, if_pos rfl]; rfl) (fun h => by rw [← hHb, hget_cons, if_neg (by omega), hget_cons, if_neg (by omega)]; exact hoX h) (by omega)
   have hg145 : ∀ m, g179 [gAgg g] ((n + 1, .cells [.string g.name, iv g.v, iv g.x, iv g.y, iv g.d, iv g.lo, iv g.hi] 95) :: HX) m = some (sL (gl g), (n + 1, .cells [.string g.name, iv g.v, iv g.x, iv g.y, iv g.d, iv g.lo, iv g.hi] 95) :: HX, m) := fun m => g179_at hgok (by rw [hget_cons, if_neg (by have := hgn; omega)]; exact hSX _ _ h3)
   obtain ⟨Hd, hHd⟩ : ∃ Hd, (if cs = [] then Hb else hdel Hb n) = Hd := ⟨_, rfl⟩
   rw [hHd] at happ
   have hSd : Sub (tidy n H) Hd := fun k b hk => by
     have h1 := tidy_lt k b hk
     have h2 : hget Hb k = some b := by rw [← hHb, hget_cons, if_neg (by omega), hget_cons, if_neg (by omega)]; exact hSX k b hk
     rw [← hHd]
     split
     · exact h2
     · rw [hget_hdel, if_neg (by omega)]; exact h2
   refine E.cond (t := true) (by simp [hil]) (fun _ => ?_) (fun h => by cases h)
   refine E.skip ?_
   refine E.seq ?_
   refine E.block ?_
   refine E.seq ?_
   refine E.reg hr (by simp [-loadA, -flat, hil, hf, hld]; rfl) ?_
   refine E.reg hr (by simp [-builtinA, run_vcall_tmp, vcallF, target, hg145, hHb, happ]; rfl) ?_
   refine E.reg hr (by simp [hw]; rfl) ?_
   refine ⟨i + 1, Leads.outC1 (m := n + 1 + 1 + 1) (l := glv (l.take (i + 1))) (t := 9) (glv_af _) hold ?_ (by rw [hts]; simp) rfl (by omega) ?_ rfl rfl ⟨rfl, rfl⟩ (by simp [-sc, hsc, hts]; simp [sc, scL]), by omega, by dsimp only; omega⟩
   · intro k b hk
     have := tidy_lt k b hk
     dsimp only
     rw [hget_cons, if_neg (by omega)]
     exact hSd k b hk
   · dsimp only
     rw [hget_cons, if_pos rfl, hts]
 · refine E.cond (t := false) (by simp [hil]) (fun h => by cases h) (fun _ => ?_)
   have hti : l.take i = l := List.take_of_length_le (by omega)
   rw [hti]
   refine E.exit ?_
   refine E.seq ?_
   refine E.reg hr (by simp; rfl) ?_
   refine E.ret ?_
   refine outK.ret rfl rfl (outK_outC (m := n) (glv_af _) rfl (Nat.le_refl _) (fun h => ?_) (sub_outC tidy_new))
   dsimp only
   rw [outCB_ne h, List.singleton_append, hget_cons, if_pos rfl]
open Classical in
noncomputable def g146L (args : List Value) (H : Heap) (n : Nat) : R := match args with
 | [v, f] => if h : ∃ l, GunsAt H v l then (if f = fn179 ∧ (∀ g ∈ Classical.choose h, LineOk g) ∧ hget H 3 = some (.tab tab3) then some (outC n (glv (Classical.choose h)), outCB n 9 (glv (Classical.choose h)) ++ H, n + 1) else none) else none
 | _ => none
theorem g146L_at {H : Heap} {n : Nat} {v : Value} {l : List Gun} (hG : GunsAt H v l) (hok : ∀ g ∈ l, LineOk g) (h3 : hget H 3 = some (.tab tab3)) : g146L [v, fn179] H n = some (outC n (glv l), outCB n 9 (glv l) ++ H, n + 1) := by
 have he : ∃ l, GunsAt H v l := ⟨l, hG⟩
 have e := (Classical.choose_spec he).one hG
 simp only [g146L]
 rw [dif_pos he, if_pos ⟨rfl, by rw [e]; exact hok, h3⟩, e]
theorem ok146L : EntOk Tryz.prog (146, g146L) := by
 intro args H n v H' n' h
 simp only [g146L] at h
 split at h
 · split at h
   · rename_i he
     split at h
     · rename_i hc
       obtain ⟨rfl, hok, h3⟩ := hc
       injection h with h; injection h with e1 e2; injection e2 with e2 e3; subst e1 e2 e3
       exact w146L (Classical.choose_spec he) hok h3
     · cases h
   · cases h
 · cases h
def prV (l : List Gun) : List UInt8 := if strE l = 0 then prG l else []
abbrev tupT (s : List UInt8) (e : Int) : Value := .tuple #[sL s, iv e]
theorem glv_join {l : List Gun} {n m : Nat} {H : Heap} (hne : l ≠ []) (hb : hget H n = some (.ext (glv l) 9 1)) (hl : l.length ≤ 140737488355328) (hlen : (prG l).length ≤ 140737488355328) : g178 [outC n (glv l), sL []] H m = some (sL (prG l), H, m) := by
 have hg : glv l ≠ [] := fun e => hne (by have := congrArg List.length e; rw [glv_len] at this; exact List.length_eq_zero_iff.1 this)
 have hj : Lib.join (l.map gl) [] = prG l := by rw [join_flat, prG, List.flatMap_def]
 rw [outC_ne hg, glv_len]
 have := g178_row (l := l.map gl) (sep := []) (n := m) hb (by rw [List.length_map]; exact hl) (by rw [hj]; exact hlen)
 rw [List.length_map, hj] at this
 exact this
set_option maxRecDepth 20000 in
theorem w103 {H : Heap} {n : Nat} {u : Value} {l : List Gun} (hO : OwnS H (.agg ⟨[u]⟩) l) (h3 : hget H 3 = some (.tab tab3)) : AC Tryz.prog 103 [.agg ⟨[u]⟩] H n (tupT (prV l) (strE l)) H n := by
 refine AC.given fun hold hsc hgn => AC.tidied (B := []) (by simp) ?_
 have hlt0 := fun k b h => (hold k b h).1
 replace h3 : hget (tidy n H) 3 = some (.tab tab3) := hget_tidy.2 ⟨h3, (hold _ _ h3).1, rfl⟩
 have hr := recT_ok (P := Tryz.prog) (l := [(31, g31), (146, g146L), (178, g178)]) (by simp only [List.forall_mem_cons]; exact ⟨ok31, ok146L, ok178, by simp⟩)
 have hM : MemOk n (tidy n H) := ⟨namesOk_tidy, by simp⟩
 obtain ⟨hM1, hS1⟩ := hM.put (b := Blk.cells [u] 32) rfl
 obtain ⟨X0, hX0⟩ : ∃ X0, (n, Blk.cells [u] 32) :: tidy n H = X0 := ⟨_, rfl⟩
 rw [hX0] at hM1 hS1
 have hb0 : hget X0 n = some (.cells [u] 32) := by rw [← hX0, hget_cons, if_pos rfl]
 have hc0 : cellsA X0 n 0 1 = some [u] := by rw [cellsA_eq, hb0]; rfl
 have hc1 : cellA X0 n 0 = some u := by rw [cellA_eq, hb0]; rfl
 have h3x := hS1 _ _ h3
 have hlow : l.length < 2147483648 := by
   rcases hO with ⟨v, e, hv⟩ | ⟨_, rfl⟩
   · obtain ⟨_, _, _, _, h⟩ := hv; exact h
   · decide
 rcases hO with ⟨v, e, hv⟩ | ⟨e, rfl⟩
 · obtain rfl : u = v := by injection e with e; injection e with e; injection e with e _
   have hv' : OwnG X0 u l := (hv.tidy hlt0).mono hS1
   have h31 := fun m => hv'.check m
   have hG := hv'.guns
   obtain ⟨b, hub, _, hpos, _⟩ := hv'
   have hne : l ≠ [] := fun e => by rw [e] at hpos; exact absurd hpos (by decide)
   refine AC.pure Tryz.func103 rfl (by kernel_rfl) rfl [] rfl ?_
   refine E.seq ?_
   refine E.reg hr (by simp; rfl) ?_
   rw [hX0]
   refine E.seq ?_
   refine E.seq ?_
   by_cases hst : strE l = 0
   · have hpr : prV l = prG l := if_pos hst
     have hpl := prG_len hst l.length (Nat.le_refl _)
     rw [List.take_length] at hpl
     have hl6 := strE_len hst
     rw [hst] at h31
     rw [hst, hpr]
     have h146 := fun m => g146L_at (n := m) hG (fun g hg => line_ok hst hg) h3x
     obtain ⟨Y, hY⟩ : ∃ Y, outCB (n + 1) 9 (glv l) ++ X0 = Y := ⟨_, rfl⟩
     have hgne : glv l ≠ [] := fun e => hne (by have := congrArg List.length e; rw [glv_len] at this; exact List.length_eq_zero_iff.1 this)
     have hYb : hget Y (n + 1) = some (.ext (glv l) 9 1) := by rw [← hY, outCB_ne hgne, List.singleton_append, hget_cons, if_pos rfl]
     have hSY : Sub X0 Y := by
       rw [← hY, outCB_ne hgne]
       exact (hM1.put (b := .ext (glv l) 9 1) (by rfl)).2
     have hj := fun m => glv_join (m := m) hne hYb (by omega) (by omega)
     have h146' := h146 (n + 1)
     rw [hY] at h146'
     obtain ⟨o, ho⟩ : ∃ o, outC (n + 1) (glv l) = o := ⟨_, rfl⟩
     rw [ho] at h146' hj
     refine E.reg hr (by simp [-cellsA, hc0, h31]; rfl) ?_
     refine E.seq ?_
     refine E.reg hr (by simp; rfl) ?_
     refine E.cond (t := false) (by simp) (fun h => by cases h) (fun _ => ?_)
     refine E.skip ?_
     refine E.seq ?_
     refine E.reg hr (by simp [-cellA, hc1, h146', hj]; rfl) ?_
     refine E.ret ?_
     exact pureK.ret rfl rfl (by simp) (hS1.trans hSY)
   · have hpr : prV l = [] := if_neg hst
     obtain ⟨e, he⟩ : ∃ e, strE l = e := ⟨_, rfl⟩
     rw [he] at hst h31
     rw [he, hpr]
     refine E.reg hr (by simp [-cellsA, hc0, h31]; rfl) ?_
     refine E.seq ?_
     refine E.reg hr (by simp; rfl) ?_
     refine E.cond (t := true) (by simp [hst]) (fun _ => ?_) (fun h => by cases h)
     refine E.seq ?_
     refine E.reg hr (by simp; rfl) ?_
     refine E.ret ?_
     exact pureK.ret rfl rfl (by simp) hS1
 · obtain rfl : u = .slice none 0 0 := by injection e with e; injection e with e; injection e with e _
   have h31 : ∀ m, g31 [.agg ⟨[.slice none 0 0]⟩] X0 m = some (iv 12, X0, m) := fun m => rfl
   have hpr : prV [] = [] := if_neg (by decide)
   rw [hpr, show strE [] = 12 from rfl]
   refine AC.pure Tryz.func103 rfl (by kernel_rfl) rfl [] rfl ?_
   refine E.seq ?_
   refine E.reg hr (by simp; rfl) ?_
   rw [hX0]
   refine E.seq ?_
   refine E.seq ?_
   refine E.reg hr (by simp [-cellsA, hc0, h31]; rfl) ?_
   refine E.seq ?_
   refine E.reg hr (by simp; rfl) ?_
   refine E.cond (t := true) (by simp) (fun _ => ?_) (fun h => by cases h)
   refine E.seq ?_
   refine E.reg hr (by simp; rfl) ?_
   refine E.ret ?_
   exact pureK.ret rfl rfl (by simp) hS1
open Classical in
noncomputable def g103 (args : List Value) (H : Heap) (n : Nat) : R := match args with
 | [.agg ⟨[u]⟩] => if h : ∃ l, OwnS H (.agg ⟨[u]⟩) l ∧ hget H 3 = some (.tab tab3) then some (tupT (prV (Classical.choose h)) (strE (Classical.choose h)), H, n) else none
 | _ => none
theorem OwnS.str {H : Heap} {u : Value} {l : List Gun} (h : OwnS H u l) : strAt H u = some l := by
 rcases h with ⟨v, rfl, h⟩ | ⟨rfl, rfl⟩
 · obtain ⟨a, c, rfl, hf, hc, _, hlt⟩ := h.guns
   show gunsAt H a l.length = some l
   unfold gunsAt
   rw [hc, if_pos (by rw [hf, Bool.true_and, Nat.blt_eq]; omega), Option.bind_some, gunsOf_gcs]
 · rfl
theorem g103_at {H : Heap} {n : Nat} {u : Value} {l : List Gun} (hO : OwnS H (.agg ⟨[u]⟩) l) (h3 : hget H 3 = some (.tab tab3)) : g103 [.agg ⟨[u]⟩] H n = some (tupT (prV l) (strE l), H, n) := by
 have he : ∃ l, OwnS H (.agg ⟨[u]⟩) l ∧ hget H 3 = some (.tab tab3) := ⟨l, hO, h3⟩
 have e : Classical.choose he = l := Option.some.inj ((Classical.choose_spec he).1.str.symm.trans hO.str)
 simp only [g103]
 rw [dif_pos he, e]
theorem ok103 : EntOk Tryz.prog (103, g103) := by
 intro args H n v H' n' h
 simp only [g103] at h
 split at h
 · split at h
   · rename_i he
     injection h with h; injection h with e1 e2; injection e2 with e2 e3; subst e1 e2 e3
     exact w103 (Classical.choose_spec he).1 (Classical.choose_spec he).2
   · cases h
 · cases h
end Go.Proofs.YtndlfijfjglkdaaGreatDoor

namespace Go.Proofs.YtndlfijfjglkdaaGreatDoor
open Go Go.Ab Go.Proofs
end Go.Proofs.YtndlfijfjglkdaaGreatDoor

namespace Go.Ab
open Go
end Go.Ab

namespace Go.Proofs.YtndlfijfjglkdaaGreatDoor
open Go Go.Ab Go.Proofs
end Go.Proofs.YtndlfijfjglkdaaGreatDoor

namespace Go.Proofs.YtndlfijfjglkdaaGreatDoor
open Go Go.Ab Go.Proofs
end Go.Proofs.YtndlfijfjglkdaaGreatDoor

namespace Go.Proofs.YtndlfijfjglkdaaGreatDoor
open Go Go.Ab Go.Proofs
end Go.Proofs.YtndlfijfjglkdaaGreatDoor

namespace Go.Proofs.YtndlfijfjglkdaaGreatDoor
open Go Go.Ab Go.Proofs
end Go.Proofs.YtndlfijfjglkdaaGreatDoor

namespace Go.Proofs.YtndlfijfjglkdaaGreatDoor
open Go Go.Ab Go.Proofs
end Go.Proofs.YtndlfijfjglkdaaGreatDoor

namespace Go.Proofs.YtndlfijfjglkdaaGreatDoor
open Go Go.Ab Go.Proofs
end Go.Proofs.YtndlfijfjglkdaaGreatDoor

namespace Go.Proofs.YtndlfijfjglkdaaGreatDoor
open Go Go.Ab Go.Proofs
end Go.Proofs.YtndlfijfjglkdaaGreatDoor

namespace Go.Proofs.YtndlfijfjglkdaaGreatDoor
open Go Go.Ab Go.Proofs
end Go.Proofs.YtndlfijfjglkdaaGreatDoor

namespace Go.Proofs.YtndlfijfjglkdaaGreatDoor
open Go Go.Ab Go.Proofs
theorem strAt_outS {H : Heap} {l : List Gun} {N : Nat} (h : strAt H (.agg ⟨[outS N l.length]⟩) = some l) (h0 : l.length ≠ 0) : gunsAt H ⟨N, 0, some 0⟩ l.length = some l := by
 rw [outS_ne h0] at h
 exact h
theorem g66_at {H : Heap} {n N M : Nat} {l : List Gun} (h1 : strAt H (.agg ⟨[outS N l.length]⟩) = some l) (h2 : strAt H (.agg ⟨[outS M l.length]⟩) = some l) : g66 [.agg ⟨[outS N l.length]⟩, .agg ⟨[outS M l.length]⟩] H n = some (.bool true, H, n) := by
 by_cases h0 : l.length = 0
 · rw [h0]; rfl
 · have a1 := strAt_outS h1 h0
   have a2 := strAt_outS h2 h0
   rw [outS_ne h0, outS_ne h0]
   simp only [g66, a1, a2]
   simp
theorem strAt_pre {H : Heap} {N : Nat} {l Z : List Gun} {t : Nat} (h0 : l.length ≠ 0) (hlt : l.length < 2147483648) (h : hget H N = some (.ext (gcs (l ++ Z)) t 7)) : strAt H (.agg ⟨[outS N l.length]⟩) = some l := by
 rw [outS_ne h0]
 show gunsAt H ⟨N, 0, some 0⟩ l.length = some l
 unfold gunsAt
 have h1 := gcs_length l
 have h2 := gcs_length Z
 have hc : cellsA H N 0 (l.length * 7) = some (gcs l) := by
   rw [cellsA_eq, h, Option.bind_some]
   simp only [cellsB]
   rw [if_pos (by rw [gcs_app, List.length_append]; omega), gcs_app, List.drop_zero, ← h1, List.take_left]
 rw [hc, if_pos (by simp [flat]; omega), Option.bind_some, gunsOf_gcs]
theorem strAt_sb {H : Heap} {N : Nat} {l Z : List Gun} {t : Nat} (hlt : l.length < 2147483648) : strAt (outSB N t 7 l.length (gcs (l ++ Z)) ++ H) (.agg ⟨[outS N l.length]⟩) = some l := by
 by_cases h0 : l.length = 0
 · rw [h0, List.length_eq_zero_iff.1 h0]; rfl
 · refine strAt_pre h0 hlt ?_ (Z := Z) (t := t)
   rw [outSB, if_neg h0]
   show hget ((N, _) :: H) N = _
   rw [hget_cons, if_pos rfl]
end Go.Proofs.YtndlfijfjglkdaaGreatDoor

namespace Go.Proofs.YtndlfijfjglkdaaGreatDoor
open Go Go.Ab Go.Proofs
theorem GL.moreK {L Hx Hy : Heap} {n t sz k N M o : Nat} {cs : List Value} (h : GL L n t sz cs k Hx N o) (hs : Sub Hx Hy) (hm : MemOk M Hy) (hl : N ≤ M) : GL L n t sz cs k Hy M o := by
 have hb := h.big
 exact ⟨h.len, fun hk => ⟨hs _ _ (h.out hk).1, by have := (h.out hk).2; omega⟩, h.sub.trans hs, hm.1, by omega, h.low, hm.2⟩
theorem fld_at {w : List UInt8} {k : Nat} (h : k < (spl 32 w).length) : (spl 32 w)[k] = fld w k := by
 unfold fld
 rw [List.getD_eq_getElem?_getD, List.getElem?_eq_getElem h]
 rfl
def sixG (w : List UInt8) (k : Nat) : List Int := (List.range k).map fun i => (sgI (fld w (2 + i))).1
theorem sixG_succ (w : List UInt8) (k : Nat) : sixG w (k + 1) = sixG w k ++ [(sgI (fld w (2 + k))).1] := by
 simp [sixG, List.range_succ]
theorem sixG_len (w : List UInt8) (k : Nat) : (sixG w k).length = k := by simp [sixG]
noncomputable def g107A (args : List Value) (H : Heap) (n : Nat) : R := match args with
 | [.string s, .int .u8 x] => g107 (UInt8.ofNat x.toNat) [.string s, .int .u8 x] H n
 | _ => none
theorem ok107A : EntOk Tryz.prog (107, g107A) := by
 intro args H n v H' n' h
 simp only [g107A] at h
 split at h
 · exact ok107 _ _ _ _ _ _ _ h
 · cases h
theorem g107A_10 {s : List UInt8} {H : Heap} {n : Nat} (hl : s.length < 2147483648) : g107A [sL s, .int .u8 10] H n = some (spV n 10 s, (n, spB 10 s) :: H, n + 1) := g107_at (c := 10) rfl hl
theorem g107A_32 {s : List UInt8} {H : Heap} {n : Nat} (hl : s.length < 2147483648) : g107A [sL s, .int .u8 32] H n = some (spV n 32 s, (n, spB 32 s) :: H, n + 1) := g107_at (c := 32) rfl hl
theorem build24a {fr : Fr} {H : Heap} {n : Nat} : opBuild Tryz.prog 24 #[] fr H n = some (.agg ⟨[.slice none 0 0]⟩, H, n) := by kernel_rfl
theorem build94 {fr : Fr} {H : Heap} {n : Nat} {x y z p q : Operand} {s : List UInt8} {a b c d e f : Int} (hx : evO Tryz.prog fr x = some (sL s)) (hy : evO Tryz.prog fr y = some (iv a)) (hz : evO Tryz.prog fr z = some (.agg #[iv b, iv c])) (hp : evO Tryz.prog fr p = some (iv d)) (hq : evO Tryz.prog fr q = some (.agg #[iv e, iv f])) : opBuild Tryz.prog 94 #[(0, x), (1, y), (2, z), (3, p), (4, q)] fr H n = some (.agg #[sL s, iv a, iv b, iv c, iv d, iv e, iv f], H, n) := by
 unfold opBuild
 simp only [evPs, hx, hy, hz, hp, hq]
 kernel_rfl
theorem build92K {fr : Fr} {H : Heap} {n : Nat} {x y : Operand} {a b : Int} (hx : evO Tryz.prog fr x = some (iv a)) (hy : evO Tryz.prog fr y = some (iv b)) : opBuild Tryz.prog 92 #[(0, x), (1, y)] fr H n = some (.agg #[iv a, iv b], H, n) := by
 unfold opBuild
 simp only [evPs, hx, hy]
 kernel_rfl
theorem build90K {fr : Fr} {H : Heap} {n : Nat} {x y : Operand} {a b : Int} (hx : evO Tryz.prog fr x = some (iv a)) (hy : evO Tryz.prog fr y = some (iv b)) : opBuild Tryz.prog 90 #[(0, x), (1, y)] fr H n = some (.agg #[iv a, iv b], H, n) := by
 unfold opBuild
 simp only [evPs, hx, hy]
 kernel_rfl
set_option maxRecDepth 20000 in
set_option maxHeartbeats 4000000 in
theorem w106 {H : Heap} {n : Nat} {s : List UInt8} (h4 : s.length ≤ 4096) :
   AC Tryz.prog 106 [sL s] H n (.tuple #[.agg ⟨[outS n (parG s).guns.length]⟩, iv (parG s).at', iv (parG s).err]) (outSB n 94 7 (parG s).guns.length (gcs (parG s).guns) ++ H) (n + 1) := by
 refine AC.given fun hold hsc hgn => AC.tidied (fun x hx => outSB_ge x hx) ?_
 have hr := recT_ok (P := Tryz.prog) (l := [(107, g107A), (184, g184), (24, gStr fun l => iv (strE l))]) (by simp only [List.forall_mem_cons]; exact ⟨ok107A, ok184, ok24, by simp⟩)
 have hM : MemOk n (tidy n H) := ⟨namesOk_tidy, by simp⟩
 obtain ⟨hM1, hS1⟩ := hM.put (b := Blk.cells [.slice none 0 0] 24) rfl
 obtain ⟨hM2, hS2⟩ := hM1.put (b := spB 10 s) (spB_pl _ _)
 obtain ⟨L, hL⟩ : ∃ L, (n + 1, spB 10 s) :: (n, Blk.cells [.slice none 0 0] 24) :: tidy n H = L := ⟨_, rfl⟩
 rw [hL] at hM2 hS2
 have hSL := hS1.trans hS2
 obtain ⟨hM3, hS3⟩ := hM2.put (b := Blk.cells [.slice none 0 0] 24) rfl
 obtain ⟨X0, hX0⟩ : ∃ X0, (n + 1 + 1, Blk.cells [.slice none 0 0] 24) :: L = X0 := ⟨_, rfl⟩
 rw [hX0] at hM3 hS3
 have hb0 : hget L n = some (.cells [.slice none 0 0] 24) := hS2 _ _ (by rw [hget_cons, if_pos rfl])
 have hb1 : hget L (n + 1) = some (spB 10 s) := by rw [← hL, hget_cons, if_pos rfl]
 have hb2 : hget X0 (n + 1 + 1) = some (.cells [.slice none 0 0] 24) := by rw [← hX0, hget_cons, if_pos rfl]
 have h107 : ∀ X m, g107A [sL s, .int .u8 10] X m = some (spV m 10 s, (m, spB 10 s) :: X, m + 1) := fun X m => g107A_10 (by omega)
 have hlen : ¬ (4096 : Int) < s.length := by omega
 have hlenN : ¬ 4096 < s.length := by omega
 obtain ⟨A, hA⟩ : ∃ A, spA (n + 1) 10 s = A := ⟨_, rfl⟩
 have hAb : A.block = n + 1 := by rw [← hA]; simp
 have hAo : A.off = 0 := by rw [← hA]; simp
 have hAf : flat A = true := by rw [← hA]; exact spA_flat _ _ _
 have hsl := spl_len 10 s
 obtain ⟨D, hD⟩ : ∃ D, spD 10 s = D := ⟨_, rfl⟩
 rw [hD] at hsl
 have hres : Tryz.f106.results.toList = [.cell 2 24, .tmp 3, .tmp 4] := by kernel_rfl
 refine AC.grownA3 Tryz.func106 rfl (by kernel_rfl) rfl [2, 3, 4, 5, 6, 7, 8, 9, 10, 11, 12, 13] ?_
 refine E.seq ?_
 refine E.reg hr (by simp; rfl) ?_
 refine E.seq ?_
 refine E.seq ?_
 refine E.reg hr (by simp [hlen]; rfl) ?_
 refine E.cond (t := false) (by simp) (fun h => by cases h) (fun _ => ?_)
 refine E.skip ?_
 refine E.seq ?_
 refine E.reg hr (by simp [h107]; rfl) ?_
 rw [hL]
 refine E.seq ?_
 refine E.reg hr (by simp; rfl) ?_
 rw [hX0]
 refine E.lead { fr := [(2, .pointer (some ⟨n, 0, none⟩)), (3, iv 0), (4, iv 0), (5, .slice (some A) (D.length + 1) (spC 10 s)), (6, .pointer (some ⟨n + 1 + 1, 0, none⟩))], sz := 119, H := X0, n := n + 1 + 1 + 1, marks := [], vs := [2, 3, 4, 5, 6, 7, 8, 9, 10, 11, 12, 13] } (.keep rfl rfl rfl (by simp [hA, hsl]) (Sub.refl _)) ?_
 refine E.seq ?_
 refine E.seq ?_
 refine E.reg hr (by simp; rfl) ?_
 refine E.block ?_
 refine E.loop ?_
 have hlt1 : ∀ k b, hget L k = some b → k < n + 1 + 1 + 1 := fun k b hb => by have := hM2.lt hb; omega
 have hLn : hget L (n + 1 + 1) = none := hM2.none (Nat.le_refl _)
 have hT1 : hget (tidy n H) n = none := namesOk_none namesOk_tidy _ (by omega)
 have hDl : D.length ≤ 4096 := by
   rw [← hD]
   have := spF_len 10 s [] []
   show (spF 10 s [] []).1.length ≤ _
   simp at this
   omega
 have hwd : ∀ j (hj : j < D.length), (spl 10 s)[j]? = some D[j] := fun j hj => by
   have hj' : j < (spD 10 s).length := by rw [hD]; exact hj
   rw [spl, List.getElem?_append_left hj', List.getElem?_eq_getElem hj']
   congr 1
   simp only [hD]
 have hwl : ∀ j (hj : j < D.length), D[j].length ≤ 4096 := fun j hj => by
   have := spD_len 10 s D[j] (by rw [hD]; exact List.getElem_mem hj)
   omega
 have hAcell : ∀ {X : Heap}, Sub L X → ∀ j (hj : j < D.length), cellA X (n + 1) j = some (sL D[j]) := fun h j hj => by
   have hj' : j < (spl 10 s).length := by omega
   rw [spB_cell (h _ _ hb1) hj']
   have := hwd j hj
   rw [List.getElem?_eq_getElem hj'] at this
   injection this with this
   rw [this]
 refine EL.ind (fun x : Nat × Heap × Nat × Nat => { fr := [(2, .pointer (some ⟨n, 0, none⟩)), (3, iv 0), (4, iv 0), (5, .slice (some A) (D.length + 1) (spC 10 s)), (6, .pointer (some ⟨n + 1 + 1, 0, none⟩)), (7, iv x.1)], sz := 119, H := x.2.1, n := x.2.2.1, marks := [], vs := [2, 3, 4, 5, 6, 7, 8, 9, 10, 11, 12, 13] }) (fun x => D.length - x.1) (fun x => x.1 ≤ D.length ∧ GL L (n + 1 + 1 + 1) 94 7 (gcs (gunsD (D.take x.1))) x.1 x.2.1 x.2.2.1 x.2.2.2 ∧ hget x.2.1 (n + 1 + 1) = some (.cells [outS x.2.2.2 x.1] 24) ∧ ∀ j (hj : j < D.length), j < x.1 → linB D[j] = true) (0, X0, n + 1 + 1 + 1, n + 1 + 1 + 1) (.keep rfl rfl rfl (by simp) (Sub.refl _)) ⟨Nat.zero_le _, by simpa [gunsD, gcs] using GL.start (t := 94) (sz := 7) hS3 hM3.1 (Nat.le_refl _) hM3.2, by simpa using hb2, fun j _ hj => by omega⟩ (fun _ => rfl) ?_
 rintro ⟨i, Hx, N, o⟩ ⟨hi, hG, hbx, hgood⟩
 dsimp only at hi hG hbx hgood ⊢
 have hw : IntKind.i64.wrap ((i : Int) + 1) = (i : Int) + 1 := W_in (by omega) (by omega)
 have hwD : IntKind.i64.wrap (D.length : Int) = D.length := W_in (by omega) (by omega)
 have hSx := hG.sub
 refine E.seq ?_
 refine E.seq ?_
 refine E.reg hr (by simp [hwD]; rfl) ?_
 by_cases hil : i < D.length
 case neg =>
   have hiD' : i = D.length := by omega
   subst hiD'
   rw [List.take_length] at hG
   have hgl : goodL D = D.length := goodL_all fun j hj => hgood j hj hj
   have hlast : cellA Hx (n + 1) D.length = some (sL (spW 10 s)) := by
     have hj' : D.length < (spl 10 s).length := by omega
     rw [spB_cell (hSx _ _ hb1) hj']
     congr 2
     have : (spl 10 s)[D.length]? = some (spW 10 s) := by
       rw [spl, List.getElem?_append_right (by rw [hD]; exact Nat.le_refl _), hD, Nat.sub_self]
       rfl
     rw [List.getElem?_eq_getElem hj'] at this
     injection this
   obtain ⟨W, hW⟩ : ∃ W, spW 10 s = W := ⟨_, rfl⟩
   rw [hW] at hlast
   have hgn : (gunsD D).length = D.length := gunsD_len D
   have hst : strAt Hx (.agg ⟨[outS o D.length]⟩) = some (gunsD D) := by
     by_cases h0 : D.length = 0
     · rw [h0]
       have : gunsD D = [] := List.length_eq_zero_iff.1 (by omega)
       rw [this]
       rfl
     · have := strAt_pre (H := Hx) (N := o) (l := gunsD D) (Z := []) (t := 94) (by omega) (by omega) (by rw [List.append_nil]; exact (hG.out h0).1)
       rw [hgn] at this
       exact this
   have hpar : parG s = if W ≠ [] then ⟨[], D.length, 25⟩ else if strE (gunsD D) ≠ 0 then ⟨[], D.length, strE (gunsD D)⟩ else ⟨gunsD D, 0, 0⟩ := by
     unfold parG
     rw [if_neg hlenN, hD, hgl, if_neg (Nat.lt_irrefl _), hW]
   have hend : ∀ {Z : Heap} {cs : List Value} (a e : Int), Sub L Z → Fresh n (n + 1) (tidy n H) (.tuple #[.agg ⟨[outS n 0]⟩, iv a, iv e]) (outSB n 94 7 0 cs) (.tuple #[.agg ⟨[.slice none 0 0]⟩, iv a, iv e]) (hset Z n (.cells [.slice none 0 0] 24)) := fun {Z cs} a e h => by
     refine Fresh.pairA3 (fresh_none ?_) a e
     intro k c hk
     rw [hget_set]
     split
     · rename_i e; subst e; rw [hT1] at hk; cases hk
     · exact h _ _ (hSL _ _ hk)
   have hbn := hSx _ _ hb0
   have hsto : storeA Hx n 0 [.slice none 0 0] = some (hset Hx n (.cells [.slice none 0 0] 24)) := store_at hbn (by simp)
   obtain ⟨Hw, hHw⟩ : ∃ Hw, hset Hx n (.cells [.slice none 0 0] 24) = Hw := ⟨_, rfl⟩
   have hbw : cellsA Hw n 0 1 = some [.slice none 0 0] := by rw [cellsA_eq, ← hHw, hget_set, if_pos rfl, hbn]; rfl
   rw [hHw] at hsto
   refine E.cond (t := false) (by simp) (fun h => by cases h) (fun _ => ?_)
   refine E.exit ?_
   refine E.seq ?_
   refine E.seq ?_
   refine E.reg hr (by simp [-cellA, -flat, hwD, hAb, hAo, hAf, hlast]; rfl) ?_
   by_cases hW0 : W = []
   case neg =>
     rw [hpar, if_pos hW0]
     refine E.cond (t := true) (by simp [hW0]) (fun _ => ?_) (fun h => by cases h)
     refine E.seq ?_
     refine E.reg hr (by simp [-storeA, build24a, hwD, hsto]; rfl) ?_
     refine E.ret ?_
     refine outK.ret (vs := [.agg ⟨[.slice none 0 0]⟩, iv D.length, iv 25]) rfl (by show resultsA _ _ _ Tryz.f106.results.toList = _; rw [hres]; simp [-cellsA, resultsA, resultA, hbw]) ?_
     rw [← hHw]
     exact hend D.length 25 hSx
   rw [hpar, if_neg (fun h => h hW0)]
   have hcx : cellsA Hx (n + 1 + 1) 0 1 = some [outS o D.length] := by rw [cellsA_eq, hbx]; rfl
   obtain ⟨e, he⟩ : ∃ e, strE (gunsD D) = e := ⟨_, rfl⟩
   have h24 : ∀ m, gStr (fun l => iv (strE l)) [.agg ⟨[outS o D.length]⟩] Hx m = some (iv e, Hx, m) := fun m => by
     simp only [gStr, hst, Option.map_some, he]
   rw [he]
   obtain ⟨u, hu⟩ : ∃ u, outS o D.length = u := ⟨_, rfl⟩
   obtain ⟨oa, oc, hov⟩ : ∃ oa oc, u = .slice oa D.length oc := by
     rw [← hu]
     by_cases h : D.length = 0
     · rw [h]; exact ⟨none, 0, rfl⟩
     · rw [outS_ne h]; exact ⟨_, _, rfl⟩
   rw [hu] at hcx h24
   refine E.cond (t := false) (by simp [hW0]) (fun h => by cases h) (fun _ => ?_)
   refine E.skip ?_
   refine E.seq ?_
   refine E.seq ?_
   refine E.reg hr (by simp [-cellsA, hcx, h24]; rfl) ?_
   refine E.seq ?_
   refine E.reg hr (by simp; rfl) ?_
   by_cases he0 : e = 0
   case neg =>
     rw [if_pos he0]
     refine E.cond (t := true) (by simp [he0]) (fun _ => ?_) (fun h => by cases h)
     refine E.seq ?_
     refine E.reg hr (by simp [-storeA, build24a, hwD, hsto]; rfl) ?_
     refine E.ret ?_
     refine outK.ret (vs := [.agg ⟨[.slice none 0 0]⟩, iv D.length, iv e]) rfl (by show resultsA _ _ _ Tryz.f106.results.toList = _; rw [hres]; simp [-cellsA, resultsA, resultA, hbw]) ?_
     rw [← hHw]
     exact hend D.length e hSx
   rw [if_neg (fun h => h he0)]
   have hsto2 : storeA Hx n 0 [u] = some (hset Hx n (.cells [u] 24)) := store_at hbn (by simp)
   have hF := (hG.lowerL hSL).set (j := n) (by omega) hT1 (b := .cells [u] 24) (by rw [hov]; rfl)
   obtain ⟨Hv, hHv⟩ : ∃ Hv, hset Hx n (.cells [u] 24) = Hv := ⟨_, rfl⟩
   have hbv : cellsA Hv n 0 1 = some [u] := by rw [cellsA_eq, ← hHv, hget_set, if_pos rfl, hbn]; rfl
   rw [hHv] at hsto2 hF
   refine E.cond (t := false) (by simp [he0]) (fun h => by cases h) (fun _ => ?_)
   refine E.skip ?_
   refine E.seq ?_
   subst hov
   refine E.reg hr (by simp [-storeA, -cellsA, hcx, hsto2]; rfl) ?_
   refine E.ret ?_
   refine outK.ret (vs := [.agg ⟨[.slice oa D.length oc]⟩, iv 0, iv 0]) rfl (by show resultsA _ _ _ Tryz.f106.results.toList = _; rw [hres]; simp [-cellsA, resultsA, resultA, hbv]) ?_
   rw [← hu]
   have := Fresh.pairA3 (hF.fresh (n0 := n) (by omega) (afL_gcs _) fun ρ => renL_gcs ρ _) 0 0
   rw [hgn]
   exact this
 have hilI : (i : Int) < D.length := by omega
 have hcw := hAcell hSx i hil
 have hww := hwl i hil
 obtain ⟨w, hw'⟩ : ∃ w, D[i] = w := ⟨_, rfl⟩
 rw [hw'] at hcw hww
 have h32 : ∀ X m, g107A [sL w, .int .u8 32] X m = some (spV m 32 w, (m, spB 32 w) :: X, m + 1) := fun X m => g107A_32 (by omega)
 have hG1 := hG.skip hlt1 (spB 32 w) (spB_pl _ _)
 have hiD : i < D.length + 1 := by omega
 have hiDI : (i : Int) < (D.length : Int) + 1 := by omega
 refine E.cond (t := true) (by simp [hil]) (fun _ => ?_) (fun h => by cases h)
 refine E.skip ?_
 refine E.seq ?_
 refine E.block ?_
 refine E.seq ?_
 refine E.reg hr (by simp [-cellA, -flat, hiDI, hAb, hAo, hAf, hcw, h32]; rfl) ?_
 obtain ⟨Hy, hHy⟩ : ∃ Hy, (N, spB 32 w) :: Hx = Hy := ⟨_, rfl⟩
 rw [hHy] at hG1 ⊢
 have hyb : hget Hy N = some (spB 32 w) := by rw [← hHy, hget_cons, if_pos rfl]
 obtain ⟨F, hF⟩ : ∃ F, spA N 32 w = F := ⟨_, rfl⟩
 have hFb : F.block = N := by rw [← hF]; simp
 have hFo : F.off = 0 := by rw [← hF]; simp
 have hFf : flat F = true := by rw [← hF]; exact spA_flat _ _ _
 have hfc : ∀ {X : Heap}, Sub Hy X → ∀ k, k < (spl 32 w).length → cellA X N k = some (sL (fld w k)) := fun h k hk => by
   rw [spB_cell (h _ _ hyb) hk, fld_at hk]
 have hm1 : MemOk (N + 1) Hy := ⟨hG1.nm, hG1.pl⟩
 have hSy : Sub L Hy := hG1.sub
 have hby : hget Hy (n + 1 + 1) = some (.cells [outS o i] 24) := by
   have : n + 1 + 1 < N := by have := hG.big; omega
   rw [← hHy, hget_cons, if_neg (by omega)]
   exact hbx
 have hpar : linB w = false → parG s = ⟨[], i, 25⟩ := fun h => by
   have hg : goodL D = i := goodL_bad hil hgood (by rw [hw']; exact h)
   unfold parG
   rw [if_neg hlenN, hD, hg, if_pos hil]
 have hend : ∀ {Z : Heap} {cs : List Value} (a e : Int), Sub L Z → Fresh n (n + 1) (tidy n H) (.tuple #[.agg ⟨[outS n 0]⟩, iv a, iv e]) (outSB n 94 7 0 cs) (.tuple #[.agg ⟨[.slice none 0 0]⟩, iv a, iv e]) (hset Z n (.cells [.slice none 0 0] 24)) := fun {Z cs} a e h => by
   refine Fresh.pairA3 (fresh_none ?_) a e
   intro k c hk
   rw [hget_set]
   split
   · rename_i e; subst e; rw [hT1] at hk; cases hk
   · exact h _ _ (hSL _ _ hk)
 obtain ⟨m, hml⟩ : ∃ m, (spl 32 w).length = m := ⟨_, rfl⟩
 rw [hml] at hfc
 refine E.lead { fr := [(2, .pointer (some ⟨n, 0, none⟩)), (3, iv 0), (4, iv 0), (5, .slice (some A) (D.length + 1) (spC 10 s)), (6, .pointer (some ⟨n + 1 + 1, 0, none⟩)), (7, iv i), (8, .slice (some F) m (spC 32 w))], sz := 119, H := Hy, n := N + 1, marks := [], vs := [2, 3, 4, 5, 6, 7, 8, 9, 10, 11, 12, 13] } (.keep rfl rfl rfl (by simp [hF, hml]) (Sub.refl _)) ?_
 have hhd : headG w = (decide (m = 8) && decide (fld w 0 = gunW) && !decide (fld w 1 = [])) := by rw [headG, hml]
 refine E.seq ?_
 refine E.seq ?_
 by_cases hh : headG w = true
 case neg =>
   have hlb : linB w = false := by rw [linB, Bool.eq_false_iff.2 hh]; rfl
   have hst : storeA Hy n 0 [.slice none 0 0] = some (hset Hy n (.cells [.slice none 0 0] 24)) := store_at (hSy _ _ hb0) (by simp)
   rw [hpar hlb]
   obtain ⟨Hw, hHw⟩ : ∃ Hw, hset Hy n (.cells [.slice none 0 0] 24) = Hw := ⟨_, rfl⟩
   have hbw : cellsA Hw n 0 1 = some [.slice none 0 0] := by rw [cellsA_eq, ← hHw, hget_set, if_pos rfl, hSy _ _ hb0]; rfl
   rw [hHw] at hst
   by_cases hm8 : m = 8
   case neg =>
     have hm8I : ¬ (m : Int) = 8 := by omega
     refine E.reg hr (by simp [-cellA, -flat, hm8I, undefV]; rfl) ?_
     refine E.cond (t := true) (by simp) (fun _ => ?_) (fun h => by cases h)
     refine E.seq ?_
     refine E.reg hr (by simp [-storeA, build24a, hst]; rfl) ?_
     refine E.ret ?_
     refine outK.ret (vs := [.agg ⟨[.slice none 0 0]⟩, iv i, iv 25]) rfl (by show resultsA _ _ _ Tryz.f106.results.toList = _; rw [hres]; simp [-cellsA, resultsA, resultA, hbw]) ?_
     rw [← hHw]
     exact hend i 25 hSy
   subst hm8
   have c0 := hfc (Sub.refl Hy) 0 (by omega)
   have c1 := hfc (Sub.refl Hy) 1 (by omega)
   by_cases hf0 : fld w 0 = gunW
   case neg =>
     have hf0' : ¬ fld w 0 = [103, 117, 110] := hf0
     have hf0b : ¬ bA (fld w 0) = bA [103, 117, 110] := fun e => hf0' (bA_inj.1 e)
     refine E.reg hr (by simp [-cellA, -flat, hFb, hFo, hFf, c0, hf0b, undefV]; rfl) ?_
     refine E.cond (t := true) (by simp) (fun _ => ?_) (fun h => by cases h)
     refine E.seq ?_
     refine E.reg hr (by simp [-storeA, build24a, hst]; rfl) ?_
     refine E.ret ?_
     refine outK.ret (vs := [.agg ⟨[.slice none 0 0]⟩, iv i, iv 25]) rfl (by show resultsA _ _ _ Tryz.f106.results.toList = _; rw [hres]; simp [-cellsA, resultsA, resultA, hbw]) ?_
     rw [← hHw]
     exact hend i 25 hSy
   · rw [hf0, gunW] at c0
     have hf1 : fld w 1 = [] := Classical.byContradiction fun h => hh (by rw [hhd, hf0]; simp [h])
     rw [hf1] at c1
     refine E.reg hr (by simp [-cellA, -flat, hFb, hFo, hFf, c0, c1]; rfl) ?_
     refine E.cond (t := true) (by simp) (fun _ => ?_) (fun h => by cases h)
     refine E.seq ?_
     refine E.reg hr (by simp [-storeA, build24a, hst]; rfl) ?_
     refine E.ret ?_
     refine outK.ret (vs := [.agg ⟨[.slice none 0 0]⟩, iv i, iv 25]) rfl (by show resultsA _ _ _ Tryz.f106.results.toList = _; rw [hres]; simp [-cellsA, resultsA, resultA, hbw]) ?_
     rw [← hHw]
     exact hend i 25 hSy
 rw [hhd] at hh
 simp only [Bool.and_eq_true, decide_eq_true_eq, Bool.not_eq_true'] at hh
 obtain ⟨⟨hm8, hf0⟩, hf1⟩ := hh
 rw [decide_eq_false_iff_not] at hf1
 subst hm8
 have c0 := hfc (Sub.refl Hy) 0 (by omega)
 have c1 := hfc (Sub.refl Hy) 1 (by omega)
 rw [hf0, gunW] at c0
 refine E.reg hr (by simp [-cellA, -flat, hFb, hFo, hFf, c0, c1, hf1]; rfl) ?_
 refine E.cond (t := false) (by simp) (fun h => by cases h) (fun _ => ?_)
 refine E.skip ?_
 refine E.seq ?_
 refine E.reg hr (by simp; rfl) ?_
 refine E.seq ?_
 refine E.seq ?_
 refine E.reg hr (by simp; rfl) ?_
 refine E.block ?_
 refine E.loop ?_
 have hltY : ∀ k b, hget Hy k = some b → k < N + 1 := fun k b hb => hm1.lt hb
 refine EL.ind (fun x : Nat × Heap × Nat × Nat => { fr := [(2, .pointer (some ⟨n, 0, none⟩)), (3, iv 0), (4, iv 0), (5, .slice (some A) (D.length + 1) (spC 10 s)), (6, .pointer (some ⟨n + 1 + 1, 0, none⟩)), (7, iv i), (8, .slice (some F) 8 (spC 32 w)), (9, outS x.2.2.2 (x.1 - 2)), (10, iv x.1)], sz := 119, H := x.2.1, n := x.2.2.1, marks := [], vs := [2, 3, 4, 5, 6, 7, 8, 9, 10, 11, 12, 13] }) (fun x => 8 - x.1) (fun x => 2 ≤ x.1 ∧ x.1 ≤ 8 ∧ GL Hy (N + 1) 3 1 ((sixG w (x.1 - 2)).map iv) (x.1 - 2) x.2.1 x.2.2.1 x.2.2.2 ∧ numG w (x.1 - 2) = true) (2, Hy, N + 1, N + 1) (.keep rfl rfl rfl (by simp) (Sub.refl _)) ⟨by omega, by omega, by simpa [sixG] using GL.start (t := 3) (sz := 1) (Sub.refl Hy) hm1.1 (Nat.le_refl _) hm1.2, by simp [numG]⟩ (fun _ => rfl) ?_
 rintro ⟨j, Hz, M, q⟩ ⟨hj2, hj8, hGz, hnum⟩
 dsimp only at hj2 hj8 hGz hnum ⊢
 have hwj : IntKind.i64.wrap ((j : Int) + 1) = (j : Int) + 1 := W_in (by omega) (by omega)
 refine E.seq ?_
 refine E.seq ?_
 refine E.reg hr (by simp; rfl) ?_
 by_cases hj : j < 8
 · have hjI : (j : Int) < 8 := by omega
   obtain ⟨k, rfl⟩ : ∃ k, j = 2 + k := ⟨j - 2, by omega⟩
   rw [Nat.add_sub_cancel_left] at hGz hnum ⊢
   have hcz := hfc hGz.sub (2 + k) (by omega)
   have hnx := numG_succ w k
   have hsx := sixG_succ w k
   obtain ⟨r, hrr⟩ : ∃ r, fld w (2 + k) = r := ⟨_, rfl⟩
   rw [hrr] at hcz hnx hsx
   obtain ⟨p, hp⟩ : ∃ p, sgI r = p := ⟨_, rfl⟩
   obtain ⟨x, b⟩ := p
   rw [hp] at hnx hsx
   have h184 : ∀ X m, g184 [sL r] X m = some (tupI (x, b), X, m) := fun X m => by rw [g184, gSS_eq, hp]
   obtain ⟨jj, hjj⟩ : ∃ jj, 2 + k = jj := ⟨_, rfl⟩
   rw [hjj] at hcz hj hjI hwj ⊢
   have hSz : Sub L Hz := hSy.trans hGz.sub
   refine E.cond (t := true) (by simp [hjI]) (fun _ => ?_) (fun h => by cases h)
   refine E.skip ?_
   refine E.seq ?_
   refine E.block ?_
   refine E.seq ?_
   refine E.reg hr (by simp [-cellA, -flat, hjI, hFb, hFo, hFf, hcz, h184]; rfl) ?_
   refine E.seq ?_
   refine E.seq ?_
   refine E.reg hr (by simp; rfl) ?_
   cases b with
   | false =>
     have hk6 : k < 6 := by omega
     have hlb : linB w = false := by rw [linB, numG_bad (by rw [hrr, hp]) hk6, Bool.and_false]
     have hst : storeA Hz n 0 [.slice none 0 0] = some (hset Hz n (.cells [.slice none 0 0] 24)) := store_at (hSz _ _ hb0) (by simp)
     rw [hpar hlb]
     obtain ⟨Hw, hHw⟩ : ∃ Hw, hset Hz n (.cells [.slice none 0 0] 24) = Hw := ⟨_, rfl⟩
     have hbw : cellsA Hw n 0 1 = some [.slice none 0 0] := by rw [cellsA_eq, ← hHw, hget_set, if_pos rfl, hSz _ _ hb0]; rfl
     rw [hHw] at hst
     refine E.cond (t := true) (by simp) (fun _ => ?_) (fun h => by cases h)
     refine E.seq ?_
     refine E.reg hr (by simp [-storeA, build24a, hst]; rfl) ?_
     refine E.ret ?_
     refine outK.ret (vs := [.agg ⟨[.slice none 0 0]⟩, iv i, iv 25]) rfl (by show resultsA _ _ _ Tryz.f106.results.toList = _; rw [hres]; simp [-cellsA, resultsA, resultA, hbw]) ?_
     rw [← hHw]
     exact hend i 25 hSz
   | true =>
     obtain ⟨Hv, happ, hGv⟩ := hGz.app (P := Tryz.prog) (st := 45) (i := Tryz.t3) (new := [iv x]) hltY Tryz.underlying45 inf3 sz3i zo3 by3 (by omega) rfl (by omega) rfl rfl
     refine E.cond (t := false) (by simp) (fun h => by cases h) (fun _ => ?_)
     refine E.skip ?_
     refine E.reg hr (by simp [-builtinA, happ]; rfl) ?_
     refine E.reg hr (by simp [hwj]; rfl) ?_
     refine ⟨(jj + 1, Hv, M + 1 + 1, M + 1), .keep rfl rfl rfl (by simp [show jj - 1 = k + 1 by omega]) (Sub.refl _), ⟨by dsimp only; omega, by dsimp only; omega, ?_, ?_⟩, by dsimp only; omega⟩
     · dsimp only
       rw [show jj + 1 - 2 = k + 1 by omega, hsx, List.map_append]
       exact hGv
     · dsimp only
       rw [show jj + 1 - 2 = k + 1 by omega, hnx, hnum]
       rfl
 · have hj' : j = 8 := by omega
   subst hj'
   refine E.cond (t := false) (by simp) (fun h => by cases h) (fun _ => ?_)
   refine E.exit ?_
   have hbig := hGz.big
   have hG2 := GL.moreK hG1 hGz.sub ⟨hGz.nm, hGz.pl⟩ hGz.big
   have hbz0 := hGz.sub _ _ hby
   have hlb : linB w = true := by rw [linB, hhd, hf0, hnum]; simp [hf1]
   have c1z := hfc hGz.sub 1 (by omega)
   have hql : (sixG w 6).length = 6 := sixG_len w 6
   obtain ⟨hqo, hqM⟩ := hGz.out (by decide)
   have hcq : ∀ a (ha : a < 6), cellA Hz q a = some (iv (sgI (fld w (2 + a))).1) := fun a ha => by
     rw [cellA_eq, hqo]
     show ((sixG w 6).map iv)[a]? = _
     simp [sixG, ha]
   have y0 := hcq 0 (by omega)
   have y1 := hcq 1 (by omega)
   have y2 := hcq 2 (by omega)
   have y3 := hcq 3 (by omega)
   have y4 := hcq 4 (by omega)
   have y5 := hcq 5 (by omega)
   have hgs := gunsD_succ hil
   rw [hw'] at hgs
   obtain ⟨g, hg⟩ : ∃ g, linG w = g := ⟨_, rfl⟩
   have hgc : g.cells = [sL (fld w 1), iv (sgI (fld w 2)).1, iv (sgI (fld w 3)).1, iv (sgI (fld w 4)).1, iv (sgI (fld w 5)).1, iv (sgI (fld w 6)).1, iv (sgI (fld w 7)).1] := by rw [← hg]; rfl
   rw [hg] at hgs
   have hnm : gcs (gunsD (D.take (i + 1))) = gcs (gunsD (D.take i)) ++ g.cells := by rw [hgs, gcs_app]; rfl
   have hGz' : GL L (n + 1 + 1 + 1) 94 7 (gcs (gunsD (D.take i))) i Hz M o := hG2
   obtain ⟨Hv, happ, hGv, hkeep⟩ := hGz'.appX (P := Tryz.prog) (st := 22) (i := Tryz.t94) (new := g.cells) hlt1 Tryz.underlying22 info94 sz94i zo94 by94 (by omega) rfl (by omega) rfl rfl
   have hbv := hkeep _ _ (by omega) hbz0
   have hG3 := hGv.set (j := n + 1 + 1) (by omega) hLn (b := .cells [outS (M + 1) (i + 1)] 24) rfl
   have hsto : storeA Hv (n + 1 + 1) 0 [outS (M + 1) (i + 1)] = some (hset Hv (n + 1 + 1) (.cells [outS (M + 1) (i + 1)] 24)) := store_at hbv (by simp)
   obtain ⟨Hw, hHw⟩ : ∃ Hw, hset Hv (n + 1 + 1) (.cells [outS (M + 1) (i + 1)] 24) = Hw := ⟨_, rfl⟩
   rw [hHw] at hsto hG3
   have hbw : hget Hw (n + 1 + 1) = some (.cells [outS (M + 1) (i + 1)] 24) := by rw [← hHw, hget_set, if_pos rfl, hbv]; rfl
   have hn1 := hGz.nm
   have hn2 := namesOk_mono (Nat.le_succ M) _ hGz.nm
   have hn3 := hGv.nm
   have hn4 := hG3.nm
   have htk := takeNew_frz hGz.nm
   have x2 : n + 1 + 1 < M := by have := hG2.big; omega
   have x3 : N < M := by omega
   have hcx : cellA Hz (n + 1 + 1) 0 = some (outS o i) := by rw [cellA_eq, hbz0]; rfl
   obtain ⟨oa, oc, hov⟩ : ∃ oa oc, outS o i = .slice oa i oc := by
     by_cases h : i = 0
     · rw [h]; exact ⟨none, 0, rfl⟩
     · rw [outS_ne h]; exact ⟨_, _, rfl⟩
   rw [hov] at happ hcx
   have hov2 := outS_ne (o := M + 1) (Nat.succ_ne_zero i)
   rw [hov2] at happ hsto hbw
   rw [show 8 - 2 = 6 from rfl, outS_ne (by decide : 6 ≠ 0)]
   obtain ⟨nm, hnm1⟩ : ∃ z, fld w 1 = z := ⟨_, rfl⟩
   obtain ⟨z0, hz0⟩ : ∃ z, (sgI (fld w 2)).1 = z := ⟨_, rfl⟩
   obtain ⟨z1, hz1⟩ : ∃ z, (sgI (fld w 3)).1 = z := ⟨_, rfl⟩
   obtain ⟨z2, hz2⟩ : ∃ z, (sgI (fld w 4)).1 = z := ⟨_, rfl⟩
   obtain ⟨z3, hz3⟩ : ∃ z, (sgI (fld w 5)).1 = z := ⟨_, rfl⟩
   obtain ⟨z4, hz4⟩ : ∃ z, (sgI (fld w 6)).1 = z := ⟨_, rfl⟩
   obtain ⟨z5, hz5⟩ : ∃ z, (sgI (fld w 7)).1 = z := ⟨_, rfl⟩
   rw [hnm1, hz0, hz1, hz2, hz3, hz4, hz5] at hgc
   rw [hnm1] at c1z
   rw [hz0] at y0
   rw [hz1] at y1
   rw [hz2] at y2
   rw [hz3] at y3
   rw [hz4] at y4
   rw [hz5] at y5
   rw [hgc] at happ
   have flq : flat (⟨q, 0, some 0⟩ : Addr) = true := rfl
   have bd := fun {fr X m} => build94 (fr := fr) (H := X) (n := m) (x := .tmp 73) (y := .tmp 76) (z := .tmp 83) (p := .tmp 86) (q := .tmp 93) (s := nm) (a := z0) (b := z1) (c := z2) (d := z3) (e := z4) (f := z5)
   have b9 := fun {fr X m} => build90K (fr := fr) (H := X) (n := m) (x := .tmp 79) (y := .tmp 82) (a := z1) (b := z2)
   have b2 := fun {fr X m} => build92K (fr := fr) (H := X) (n := m) (x := .tmp 89) (y := .tmp 92) (a := z4) (b := z5)
   refine E.drawU mixed hr [27, 29] [26, 27, 29] [1, 4, 7, 10, 13, 17, 20, 23, 26, 27, 29] (by kernel_rfl) (by simp [-cellA, -cellsA, -flat, -readA, -builtinA, -storeA, cellA_read, hn1, hn3, hn4, handA_nil, x2, x3, hqM, hcx, hFb, hFo, hFf, c1z, flq, y0, y1, y2, y3, y4, y5, bd, b9, b2, happ, hsto]; rfl) ?_
   refine E.reg hr (by simp [hw]; rfl) ?_
   refine ⟨(i + 1, Hw, M + 1 + 1, M + 1), .keep rfl rfl rfl (by simp) (Sub.refl _), ⟨hil, by dsimp only; rw [hnm]; exact hG3, by dsimp only; rw [hov2]; exact hbw, fun a ha hai => ?_⟩, by dsimp only; omega⟩
   dsimp only at hai
   by_cases e : a = i
   · subst e
     rw [hw']
     exact hlb
   · exact hgood a ha (by omega)
end Go.Proofs.YtndlfijfjglkdaaGreatDoor

namespace Go.Proofs.YtndlfijfjglkdaaGreatDoor
open Go Go.Ab Go.Proofs Go.RowKit
theorem names_s3 (k : Nat) : Names1 fun m => tupS3 (.slice (some ⟨m, 0, some 0⟩) k 0) 0 0 := ⟨fun φ ψ m n h1 h2 => by simp [den, denL, h1, h2], fun p n h => by simp [sc, scL, h]⟩
open Classical in
noncomputable def g104 (args : List Value) (H : Heap) (n : Nat) : R := match args with
 | [.string s] => if s.size < 2147483648 ∧ LibOk H then some (tupS3 (outS n (parG s.data.toList).guns.length) (parG s.data.toList).at' (parG s.data.toList).err, outSB n 95 7 (parG s.data.toList).guns.length (gcs (parG s.data.toList).guns) ++ H, n + 1) else none
 | _ => none
theorem g104_at {s : List UInt8} {H : Heap} {n : Nat} (hs : s.length < 2147483648) (h : LibOk H) : g104 [sL s] H n = some (tupS3 (outS n (parG s).guns.length) (parG s).at' (parG s).err, outSB n 95 7 (parG s).guns.length (gcs (parG s).guns) ++ H, n + 1) := by
 simp only [g104]
 rw [if_pos ⟨by rw [bA_size]; exact hs, h⟩]
theorem parG_zero {s : List UInt8} (h : (parG s).guns ≠ []) : (parG s).at' = 0 ∧ (parG s).err = 0 := by
 unfold parG at h ⊢
 split
 · rename_i h1; rw [if_pos h1] at h; exact absurd rfl h
 rename_i h1
 rw [if_neg h1] at h
 split
 · rename_i h2; rw [if_pos h2] at h; exact absurd rfl h
 rename_i h2
 rw [if_neg h2] at h
 split
 · rename_i h3; rw [if_pos h3] at h; exact absurd rfl h
 rename_i h3
 rw [if_neg h3] at h
 split
 · rename_i h4; rw [if_pos h4] at h; exact absurd rfl h
 exact ⟨rfl, rfl⟩
theorem ok104 : EntOk Tryz.prog (104, g104) := by
 intro args H n v H' n' hh
 simp only [g104] at hh
 split at hh
 · rename_i s
   split at hh
   · rename_i hc
     injection hh with hh; injection hh with e1 e2; injection e2 with e2 e3; subst e1 e2 e3
     have hw := fun t6 t7 => w104 t6 t7 s.data.toList (by rw [← Lib.size_eq]; exact hc.1)
     rw [show sL s.data.toList = .string s from congrArg Value.string (bA_data s)] at hw
     by_cases hg : (parG s.data.toList).guns = []
     · have e0 : (parG s.data.toList).guns.length = 0 := by rw [hg]; rfl
       rw [e0]
       have : AC Tryz.prog 104 [.string s] H n (tupS3 (.slice none 0 0) (parG s.data.toList).at' (parG s.data.toList).err) H n := AC.liftP rfl (Part.lib rfl hc.2 fun t6 t7 => by
         obtain ⟨v, H', n', hAC, hq⟩ := hw t6 t7
         unfold q104 at hq
         rw [hg] at hq
         subst hq
         exact ⟨_, _, hAC⟩)
       exact this.wider rfl ⟨⟨trivial, trivial⟩, trivial, trivial, trivial⟩
     · obtain ⟨z1, z2⟩ := parG_zero hg
       have hlen : (parG s.data.toList).guns.length ≠ 0 := fun e => hg (List.length_eq_zero_iff.1 e)
       rw [z1, z2, outS_ne hlen, outSB, if_neg hlen]
       refine AC.liftF (names_s3 _) (.inr ⟨_, _, _, rfl, afL_gcs _⟩) (Part.lib rfl hc.2 fun t6 t7 => ?_)
       obtain ⟨v, H', n', hAC, hq⟩ := hw t6 t7
       unfold q104 at hq
       split at hq
       · rename_i h; exact absurd h hg
       · rename_i p l hp
         obtain ⟨m, hv, hm, hle⟩ := hq
         subst hv
         rw [hp]
         exact ⟨m, _, _, hle, hm, hAC⟩
   · cases hh
 · cases hh
set_option maxRecDepth 20000 in
theorem w106l {H : Heap} {n : Nat} {s : List UInt8} (h4 : 4096 < s.length) (hl : s.length < 2147483648) : AC Tryz.prog 106 [sL s] H n (tupS3 (.slice none 0 0) 0 26) H n := by
 have hr := recT_ok (P := Tryz.prog) (l := []) (by simp)
 have hlI : (4096 : Int) < s.length := by omega
 have hres : Tryz.f106.results.toList = [.cell 2 24, .tmp 3, .tmp 4] := by kernel_rfl
 refine AC.given fun hold _ _ => AC.tidied (B := []) (by simp) ?_
 refine AC.pure Tryz.func106 rfl (by kernel_rfl) rfl [2, 3, 4, 5, 6, 7, 8, 9, 10, 11, 12, 13] rfl ?_
 refine E.seq ?_
 refine E.reg hr (by simp; rfl) ?_
 refine E.seq ?_
 refine E.seq ?_
 refine E.reg hr (by simp [hlI]; rfl) ?_
 refine E.cond (t := true) (by simp) (fun _ => ?_) (fun h => by cases h)
 refine E.seq ?_
 refine E.reg hr (by simp [build24a]; rfl) ?_
 refine E.ret ?_
 refine pureK.ret (vs := [.agg ⟨[.slice none 0 0]⟩, iv 0, iv 26]) rfl (by show resultsA _ _ _ Tryz.f106.results.toList = _; rw [hres]; simp [resultsA, resultA]) rfl ?_
 intro k b hk
 have := tidy_lt k b hk
 rw [hget_cons, if_neg (by omega)]
 exact hk
noncomputable def g106 (args : List Value) (H : Heap) (n : Nat) : R := match args with
 | [.string s] => if s.size < 2147483648 then some (tupS3 (outS n (parG s.data.toList).guns.length) (parG s.data.toList).at' (parG s.data.toList).err, outSB n 94 7 (parG s.data.toList).guns.length (gcs (parG s.data.toList).guns) ++ H, n + 1) else none
 | _ => none
theorem g106_at {s : List UInt8} {H : Heap} {n : Nat} (hs : s.length < 2147483648) : g106 [sL s] H n = some (tupS3 (outS n (parG s).guns.length) (parG s).at' (parG s).err, outSB n 94 7 (parG s).guns.length (gcs (parG s).guns) ++ H, n + 1) := by
 simp only [g106]
 rw [if_pos (by rw [bA_size]; exact hs)]
theorem ok106 : EntOk Tryz.prog (106, g106) := by
 intro args H n v H' n' hh
 simp only [g106] at hh
 split at hh
 · rename_i s
   split at hh
   · rename_i hc
     injection hh with hh; injection hh with e1 e2; injection e2 with e2 e3; subst e1 e2 e3
     have hsz : s.data.toList.length < 2147483648 := by rw [← Lib.size_eq]; exact hc
     have he : (.string s : Value) = sL s.data.toList := (congrArg Value.string (bA_data s)).symm
     rw [he]
     by_cases h4 : s.data.toList.length ≤ 4096
     · exact w106 h4
     · rw [parG_long (by omega)]
       exact (w106l (by omega) hsz).wider rfl ⟨⟨trivial, trivial⟩, trivial, trivial, trivial⟩
   · cases hh
 · cases hh
end Go.Proofs.YtndlfijfjglkdaaGreatDoor

namespace Go.Proofs.YtndlfijfjglkdaaGreatDoor
open Go Go.Ab Go.Proofs
end Go.Proofs.YtndlfijfjglkdaaGreatDoor

namespace Go.Proofs.YtndlfijfjglkdaaGreatDoor
open Go Go.Ab Go.Proofs
theorem take_app {X : Heap} {N N' : Nat} (hm : MemOk N X) : ∀ {B : Heap}, (∀ x ∈ B, N ≤ x.1 ∧ x.1 < N') → takeNew N (B ++ frzH X) = B ∧ namesOk N' B = true
 | [], _ => ⟨takeNew_frz hm.1, rfl⟩
 | (k, b) :: B, h => by
   obtain ⟨h1, h2⟩ := take_app hm (B := B) fun x hx => h x (List.mem_cons_of_mem _ hx)
   obtain ⟨h3, h4⟩ := h (k, b) (List.mem_cons_self ..)
   constructor
   · show takeNew N ((k, b) :: (B ++ frzH X)) = _
     rw [takeNew, Nat.ble_eq_true_of_le h3, h1]
   · rw [namesOk, show Nat.blt k N' = true from by rw [Nat.blt_eq]; exact h4]
     exact h2
end Go.Proofs.YtndlfijfjglkdaaGreatDoor

namespace Go.Proofs.YtndlfijfjglkdaaGreatDoor
open Go Go.Ab Go.Proofs
def OutG (X : Heap) (u : Value) (l : List Gun) : Prop := ∃ M, u = outS M l.length ∧ strAt X (.agg ⟨[u]⟩) = some l
section
variable {X : Heap} {N : Nat}
theorem MemOk.toldF (hm : MemOk N X) {u : Value} {l : List Gun} (hs : strAt X (.agg ⟨[u]⟩) = some l) (hl : l.length ≤ 4096) :
   ∃ x Z B Y N', g55 [.agg ⟨[u]⟩] (frzH X) N = some (.agg ⟨[x]⟩, Z, N') ∧ takeNew N Z = B ∧ namesOk N' B = true ∧ B ++ X = Y ∧ OutG Y x l ∧ Sub X Y ∧ MemOk N' Y ∧ N ≤ N' := by
 have hf := strAt_frz hs
 by_cases h0 : l = []
 · subst h0
   have e : g55 [.agg ⟨[u]⟩] (frzH X) N = some (nilV, frzH X, N) := by simp only [g55, hf, if_true]
   exact ⟨_, _, _, _, _, e, takeNew_frz hm.1, rfl, rfl, ⟨N, rfl, rfl⟩, Sub.refl _, hm, Nat.le_refl _⟩
 · obtain ⟨h3, h4⟩ := hm.put (b := .ext (gcs l) 94 7) rfl
   obtain ⟨h1, h2⟩ := take_app (N' := N + 1) hm (B := [(N, .ext (gcs l) 94 7)]) fun x hx => by
     rw [List.mem_singleton] at hx
     subst hx
     exact ⟨Nat.le_refl _, Nat.lt_succ_self _⟩
   have e : g55 [.agg ⟨[u]⟩] (frzH X) N = some (.agg ⟨[.slice (some ⟨N, 0, some 0⟩) l.length 0]⟩, [(N, .ext (gcs l) 94 7)] ++ frzH X, N + 1) := by
     simp only [g55, hf]
     rw [if_neg h0, if_pos hl]
     rfl
   have hn : l.length ≠ 0 := fun h => h0 (List.length_eq_zero_iff.1 h)
   refine ⟨_, _, _, _, _, e, h1, h2, rfl, ⟨N, by rw [outS_ne hn], ?_⟩, h4, h3, Nat.le_succ _⟩
   have := strAt_sb (H := X) (N := N) (l := l) (Z := []) (t := 94) (by omega)
   rw [outSB, if_neg hn, outS_ne hn, List.append_nil] at this
   exact this
end
end Go.Proofs.YtndlfijfjglkdaaGreatDoor

namespace Go.Proofs.YtndlfijfjglkdaaGreatDoor
open Go Go.Ab Go.Proofs
abbrev vs16 : List Nat := [1, 2, 4, 5, 6, 7, 8, 9, 10, 11, 12, 13, 14]
structure M16 (T X : Heap) (n N : Nat) (v : Value) (l : List Gun) : Prop where
 sub : Sub T X
 mem : MemOk N X
 g0 : hget X 0 = some (.inp 0 names0)
 lib : LibOk X
 box0 : hget X n = some (.cells [v] 24)
 str : strAt X (.agg ⟨[v]⟩) = some l
theorem ErrOk.mono {X Y : Heap} (hs : Sub X Y) {g : Nat} (h : ErrOk X g) : ErrOk Y g := by
 obtain ⟨a, b, c, h⟩ := h
 exact ⟨a, b, c, hs _ _ h⟩
theorem LibOk.more {X Y : Heap} (hs : Sub X Y) (h : LibOk X) : LibOk Y := ⟨hs _ _ h.tab, h.e6.mono hs, h.e7.mono hs⟩
theorem LibOk.tidied {X : Heap} {n : Nat} (hl : ∀ k b, hget X k = some b → k < n) (h : LibOk X) : LibOk (tidy n X) := by
 obtain ⟨h3, ⟨t6, k6, o6, h6⟩, t7, k7, o7, h7⟩ := h
 exact ⟨hget_tidy.2 ⟨h3, hl _ _ h3, rfl⟩, ⟨t6, k6, o6, hget_tidy.2 ⟨h6, hl _ _ h6, rfl⟩⟩, t7, k7, o7, hget_tidy.2 ⟨h7, hl _ _ h7, rfl⟩⟩
theorem M16.more {T X Y : Heap} {n N M : Nat} {v : Value} {l : List Gun} (h : M16 T X n N v l) (hs : Sub X Y) (hm : MemOk M Y) : M16 T Y n M v l :=
 ⟨h.sub.trans hs, hm, hs _ _ h.g0, h.lib.more hs, hs _ _ h.box0, strAt_mono hs h.str⟩
theorem M16.read {T X : Heap} {n N : Nat} {v : Value} {l : List Gun} (h : M16 T X n N v l) : cellsA X n 0 1 = some [v] := by rw [cellsA_eq, h.box0]; rfl
theorem MemOk.ownN {X : Heap} {N : Nat} (hm : MemOk N X) {v : Value} {l : List Gun} (hs : strAt X (.agg ⟨[v]⟩) = some l) (hl : l.length ≤ 4096) :
   ∃ x Y N', g21 [.agg ⟨[v]⟩] X N = some (.agg ⟨[x]⟩, Y, N') ∧ OwnS Y (.agg ⟨[x]⟩) l ∧ Sub X Y ∧ MemOk N' Y := by
 by_cases h0 : l = []
 · subst h0
   exact ⟨_, _, _, strAt_nil hs, .inr ⟨rfl, rfl⟩, Sub.refl _, hm⟩
 · obtain ⟨h3, h4⟩ := hm.put (b := .ext (gcs l) 95 7) rfl
   exact ⟨_, _, _, strAt_own hs h0 hl, .inl ⟨_, rfl, own_row h0 hl⟩, h4, h3⟩
theorem shortS_nine {l : List Gun} (h : shortS l = true) : l.length ≤ 9 := by
 unfold shortS at h
 simp only [Bool.and_eq_true, Bool.or_eq_true, decide_eq_true_eq] at h
 omega
theorem parG_short {s : List UInt8} (h : s.length < 2147483648) : (parG s).guns.length ≤ 4096 := by
 by_cases hg : (parG s).guns = []
 · rw [hg]; exact Nat.zero_le _
 · obtain ⟨_, he⟩ := parG_zero hg
   unfold parG at hg he ⊢
   split
   · exact Nat.zero_le _
   split
   · exact Nat.zero_le _
   split
   · exact Nat.zero_le _
   split
   · exact Nat.zero_le _
   rename_i h1 _ _ _
   show (gunsD (spD 10 s)).length ≤ 4096
   rw [gunsD_len]
   have := spF_len 10 s [] []
   rw [show (spF 10 s [] []).1 = spD 10 s from rfl] at this
   simp at this
   omega
set_option maxRecDepth 20000 in
set_option maxHeartbeats 4000000 in
theorem w16z {T X : Heap} {n N p q : Nat} {v u7 u12 : Value} {l Q : List Gun} {s t : List UInt8} {e a b : Int} (hM : M16 T X n N v l) (hp : hget X p = some (.cells [u7] 32)) (hs7 : strAt X (.agg ⟨[u7]⟩) = some Q) (hq : hget X q = some (.cells [u12] 24)) (hG : OutG X u12 Q) (hQ : Q.length ≤ 4096) :
   E Tryz.prog n none (cFrom (bodyOf Tryz.f16) 8) { fr := [(1, sL s), (2, .pointer (some ⟨n, 0, none⟩)), (4, .bool false), (5, sL t), (6, iv e), (7, .pointer (some ⟨p, 0, none⟩)), (8, iv a), (9, iv b), (10, iv e), (11, sL t), (12, .pointer (some ⟨q, 0, none⟩)), (13, iv a), (14, iv b)], sz := 81, H := X, n := N, marks := [], vs := vs16 } (pureK Tryz.prog Tryz.f16 T (.bool true)) := by
 have hr := recT_ok (P := Tryz.prog) (l := [(55, g55), (66, g66)]) (by simp only [List.forall_mem_cons]; exact ⟨ok55, ok66, by simp⟩)
 have hm := hM.mem
 obtain ⟨x, Z, B, Y, N2, b1, b2, b3, b4, ⟨M7, b5, b6⟩, s2, m2, b9⟩ := hm.toldF hs7 hQ
 obtain ⟨M8, c1, c2⟩ := hG
 have c2' := strAt_mono s2 c2
 rw [c1] at c2'
 rw [b5] at b6
 have h66 : ∀ m, g66 [.agg ⟨[x]⟩, .agg ⟨[u12]⟩] Y m = some (.bool true, Y, m) := fun m => by
   rw [b5, c1]
   exact g66_at b6 c2'
 have hpN : p < N := hm.lt hp
 have hqN : q < N := hm.lt hq
 have c7 : cellsA X p 0 1 = some [u7] := by rw [cellsA_eq, hp]; rfl
 have c8 : cellsA Y q 0 1 = some [u12] := by rw [cellsA_eq, s2 _ _ hq]; rfl
 have c8x : cellsA X q 0 1 = some [u12] := by rw [cellsA_eq, hq]; rfl
 have htk := takeNew_frz hm.1
 refine E.seq ?_
 refine E.drawU mixed hr [12] [10, 12] [9, 10, 12] (by kernel_rfl) (by simp [-cellsA, -cellA, -readA, cellsA_read, hm.1, hm.2, m2.1, hpN, hqN, c7, c8, b1, b2, b3, b4, b9, h66]; rfl) ?_
 refine E.ret ?_
 exact pureK.ret rfl rfl (by simp) (hM.sub.trans s2)
set_option maxRecDepth 20000 in
set_option maxHeartbeats 4000000 in
theorem w16y {T X : Heap} {n N p : Nat} {v u7 : Value} {l : List Gun} {s t : List UInt8} {e : Int} (hM : M16 T X n N v l) (hs : s.length < 2147483648) (hp : hget X p = some (.cells [u7] 32)) (hs7 : strAt X (.agg ⟨[u7]⟩) = some (parG s).guns) :
   E Tryz.prog n none (cFrom (bodyOf Tryz.f16) 7) { fr := [(1, sL s), (2, .pointer (some ⟨n, 0, none⟩)), (4, .bool false), (5, sL t), (6, iv e), (7, .pointer (some ⟨p, 0, none⟩)), (8, iv (parG s).at'), (9, iv (parG s).err), (10, iv e), (11, sL t)], sz := 81, H := X, n := N, marks := [], vs := vs16 } (pureK Tryz.prog Tryz.f16 T (.bool true)) := by
 have hr := recT_ok (P := Tryz.prog) (l := [(106, g106)]) (by simp only [List.forall_mem_cons]; exact ⟨ok106, by simp⟩)
 have hm := hM.mem
 have h106 := g106_at (H := X) (n := N) hs
 have hQ := parG_short hs
 obtain ⟨m1, s1⟩ := hm.sb (t := 94) (sz := 7) (k := (parG s).guns.length) (cs := gcs (parG s).guns) rfl
 have hat := strAt_sb (H := X) (N := N) (l := (parG s).guns) (Z := []) (t := 94) (by omega)
 rw [List.append_nil] at hat
 obtain ⟨Y, hY⟩ : ∃ Y, outSB N 94 7 (parG s).guns.length (gcs (parG s).guns) ++ X = Y := ⟨_, rfl⟩
 rw [hY] at h106 m1 s1 hat
 obtain ⟨u, hu⟩ : ∃ u, outS N (parG s).guns.length = u := ⟨_, rfl⟩
 have hG : OutG Y u (parG s).guns := ⟨N, hu.symm, by rw [← hu]; exact hat⟩
 rw [hu] at h106
 obtain ⟨oa, k, c, e7⟩ : ∃ oa k c, u = .slice oa k c := by
   rw [← hu]
   by_cases h : (parG s).guns.length = 0
   · rw [h]; exact ⟨none, 0, 0, rfl⟩
   · rw [outS_ne h]; exact ⟨_, _, _, rfl⟩
 obtain ⟨m2, s2⟩ := m1.put (b := Blk.cells [u] 24) rfl
 have hS := s1.trans s2
 have hG2 : OutG ((N + 1, Blk.cells [u] 24) :: Y) u (parG s).guns := by
   obtain ⟨M, a, b⟩ := hG
   exact ⟨M, a, strAt_mono s2 b⟩
 have key := w16z (t := t) (e := e) (s := s) (a := (parG s).at') (b := (parG s).err) (hM.more hS m2) (hS _ _ hp) (strAt_mono hS hs7) (q := N + 1) (by rw [hget_cons, if_pos rfl]) hG2 hQ
 obtain ⟨a, ha⟩ : ∃ a, (parG s).at' = a := ⟨_, rfl⟩
 obtain ⟨b, hb⟩ : ∃ b, (parG s).err = b := ⟨_, rfl⟩
 rw [ha, hb] at h106 key ⊢
 subst e7
 refine E.seq ?_
 refine E.reg hr (by simp [h106]; rfl) ?_
 refine E.lead _ ?_ key
 exact .keep rfl rfl rfl (by simp) (Sub.refl _)
set_option maxRecDepth 20000 in
set_option maxHeartbeats 4000000 in
theorem w16x {T X : Heap} {n N p : Nat} {v u7 : Value} {l : List Gun} {s : List UInt8} (hM : M16 T X n N v l) (hs : s.length < 2147483648) (hp : hget X p = some (.cells [u7] 32)) (hs7 : strAt X (.agg ⟨[u7]⟩) = some (parG s).guns) :
   E Tryz.prog n none (cFrom (bodyOf Tryz.f16) 4) { fr := [(1, sL s), (2, .pointer (some ⟨n, 0, none⟩)), (4, .bool false), (5, sL (prV l)), (6, iv (strE l)), (7, .pointer (some ⟨p, 0, none⟩)), (8, iv (parG s).at'), (9, iv (parG s).err)], sz := 81, H := X, n := N, marks := [], vs := vs16 } (pureK Tryz.prog Tryz.f16 T (.bool true)) := by
 have hr := recT_ok (P := Tryz.prog) (l := [(24, gStr fun l => iv (strE l)), (105, g105)]) (by simp only [List.forall_mem_cons]; exact ⟨ok24, ok105, by simp⟩)
 have hm := hM.mem
 have r1 := hM.read
 have h24 : ∀ m, gStr (fun l => iv (strE l)) [.agg ⟨[v]⟩] X m = some (iv (strE l), X, m) := fun m => by simp only [gStr, hM.str, Option.map_some]
 obtain ⟨a, ha⟩ : ∃ a, (parG s).at' = a := ⟨_, rfl⟩
 obtain ⟨b, hb⟩ : ∃ b, (parG s).err = b := ⟨_, rfl⟩
 have key := w16y (t := prV l) (e := strE l) hM hs hp hs7
 rw [ha, hb] at key ⊢
 by_cases hst : strE l = 0
 · have h105 : ∀ m, g105 [.agg ⟨[v]⟩] X m = some (sL (prG l), X, m) := fun m => by simp only [g105, hM.str]; rw [if_pos hst]
   have hpr : prV l = prG l := if_pos hst
   rw [hpr] at key ⊢
   rw [hst] at key h24 ⊢
   refine E.seq ?_
   refine E.reg hr (by simp [-cellsA, r1, h24]; rfl) ?_
   refine E.seq ?_
   refine E.reg hr (by simp; rfl) ?_
   refine E.seq ?_
   refine E.seq ?_
   refine E.reg hr (by simp; rfl) ?_
   refine E.cond (t := true) (by simp) (fun _ => ?_) (fun h => by cases h)
   refine E.reg hr (by simp [-cellsA, r1, h105]; rfl) ?_
   refine E.lead _ ?_ key
   exact .keep rfl rfl rfl (by simp) (Sub.refl _)
 · have hpr : prV l = [] := if_neg hst
   rw [hpr] at key ⊢
   obtain ⟨e, he⟩ : ∃ e, strE l = e := ⟨_, rfl⟩
   rw [he] at key h24 hst ⊢
   refine E.seq ?_
   refine E.reg hr (by simp [-cellsA, r1, h24]; rfl) ?_
   refine E.seq ?_
   refine E.reg hr (by simp; rfl) ?_
   refine E.seq ?_
   refine E.seq ?_
   refine E.reg hr (by simp; rfl) ?_
   refine E.cond (t := false) (by simp [hst]) (fun h => by cases h) (fun _ => ?_)
   refine E.skip ?_
   refine E.lead _ ?_ key
   exact .keep rfl rfl rfl (by simp) (Sub.refl _)
set_option maxRecDepth 20000 in
set_option maxHeartbeats 4000000 in
theorem w16w {T X : Heap} {n N : Nat} {v : Value} {l : List Gun} {s : List UInt8} (hM : M16 T X n N v l) (hs : s.length < 2147483648) (hl : l.length ≤ 4096) :
   E Tryz.prog n none (cFrom (bodyOf Tryz.f16) 2) { fr := [(1, sL s), (2, .pointer (some ⟨n, 0, none⟩)), (4, .bool false)], sz := 81, H := X, n := N, marks := [], vs := vs16 } (pureK Tryz.prog Tryz.f16 T (.bool true)) := by
 have hr := recT_ok (P := Tryz.prog) (l := [(21, g21), (103, g103), (104, g104)]) (by simp only [List.forall_mem_cons]; exact ⟨ok21, ok103, ok104, by simp⟩)
 have hm := hM.mem
 have r1 := hM.read
 obtain ⟨x, Y1, N1, a1, a2, s1, m1⟩ := hm.ownN hM.str hl
 have h103 := fun m => g103_at (n := m) a2 (hM.lib.more s1).tab
 have hQ := parG_short hs
 have h104 := g104_at (H := Y1) (n := N1) hs (hM.lib.more s1)
 obtain ⟨m2, s2⟩ := m1.sb (t := 95) (sz := 7) (k := (parG s).guns.length) (cs := gcs (parG s).guns) rfl
 have hat := strAt_sb (H := Y1) (N := N1) (l := (parG s).guns) (Z := []) (t := 95) (by omega)
 rw [List.append_nil] at hat
 obtain ⟨Y2, hY2⟩ : ∃ Y, outSB N1 95 7 (parG s).guns.length (gcs (parG s).guns) ++ Y1 = Y := ⟨_, rfl⟩
 rw [hY2] at h104 m2 s2 hat
 obtain ⟨u, hu⟩ : ∃ u, outS N1 (parG s).guns.length = u := ⟨_, rfl⟩
 rw [hu] at h104 hat
 obtain ⟨oa, k, c, e7⟩ : ∃ oa k c, u = .slice oa k c := by
   rw [← hu]
   by_cases h : (parG s).guns.length = 0
   · rw [h]; exact ⟨none, 0, 0, rfl⟩
   · rw [outS_ne h]; exact ⟨_, _, _, rfl⟩
 obtain ⟨m3, s3⟩ := m2.put (b := Blk.cells [u] 32) rfl
 have hS := s1.trans (s2.trans s3)
 have key := w16x (s := s) (hM.more hS m3) hs (p := N1 + 1) (u7 := u) (by rw [hget_cons, if_pos rfl]) (strAt_mono s3 hat)
 obtain ⟨a, ha⟩ : ∃ a, (parG s).at' = a := ⟨_, rfl⟩
 obtain ⟨b, hb⟩ : ∃ b, (parG s).err = b := ⟨_, rfl⟩
 obtain ⟨e, he⟩ : ∃ e, strE l = e := ⟨_, rfl⟩
 obtain ⟨t, ht⟩ : ∃ t, prV l = t := ⟨_, rfl⟩
 rw [ha, hb] at h104 key
 rw [he, ht] at h103 key
 subst e7
 refine E.seq ?_
 refine E.reg hr (by simp [-cellsA, r1, a1, h103]; rfl) ?_
 refine E.seq ?_
 refine E.reg hr (by simp [h104]; rfl) ?_
 refine E.lead _ ?_ key
 exact .keep rfl rfl rfl (by simp) (Sub.refl _)
set_option maxRecDepth 20000 in
set_option maxHeartbeats 4000000 in
theorem w16 {H : Heap} {n : Nat} {v : Value} {l : List Gun} {s : List UInt8} (g0 : hget H 0 = some (.inp 0 names0)) (hL : LibOk H) (hs : strAt H (.agg ⟨[v]⟩) = some l) : AC Tryz.prog 16 [.agg ⟨[v]⟩, sL s] H n (.bool true) H n := by
 refine AC.given fun hold _ _ => AC.tidied (B := []) (by simp) ?_
 have hlt0 := fun k b h => (hold k b h).1
 replace g0 : hget (tidy n H) 0 = some (.inp 0 names0) := hget_tidy.2 ⟨g0, hlt0 _ _ g0, rfl⟩
 replace hL := hL.tidied hlt0
 replace hs := strAt_tidy hlt0 hs
 have hr := recT_ok (P := Tryz.prog) (l := [(18, g18T), (19, gStr fun l => .bool (shortS l))]) (by simp only [List.forall_mem_cons]; exact ⟨ok18T, ok19, by simp⟩)
 have hM : MemOk n (tidy n H) := ⟨namesOk_tidy, by simp⟩
 obtain ⟨hM1, hS0⟩ := hM.put (b := Blk.cells [v] 24) rfl
 obtain ⟨X0, hX0⟩ : ∃ X0, (n, Blk.cells [v] 24) :: tidy n H = X0 := ⟨_, rfl⟩
 rw [hX0] at hM1 hS0
 have hb0 : hget X0 n = some (.cells [v] 24) := by rw [← hX0, hget_cons, if_pos rfl]
 have h18 : ∀ m, g18T [] X0 m = some (.bool true, X0, m) := fun m => g18T_at (hS0 _ _ g0) (hS0 _ _ hL.tab)
 have r1 : cellsA X0 n 0 1 = some [v] := by rw [cellsA_eq, hb0]; rfl
 have hs0 := strAt_mono hS0 hs
 have h19 : ∀ m, gStr (fun l => .bool (shortS l)) [.agg ⟨[v]⟩] X0 m = some (.bool (shortS l), X0, m) := fun m => by
   simp only [gStr, hs0, Option.map_some]
 refine AC.pure Tryz.func16 rfl (by kernel_rfl) rfl vs16 rfl ?_
 refine E.seq ?_
 refine E.reg hr (by simp; rfl) ?_
 rw [hX0]
 refine E.seq ?_
 refine E.seq ?_
 cases hsb : shortS l with
 | false =>
   rw [hsb] at h19
   refine E.reg hr (by simp [-cellsA, h18, r1, h19, undefV]; rfl) ?_
   refine E.cond (t := true) (by simp) (fun _ => ?_) (fun h => by cases h)
   refine E.seq ?_
   refine E.reg hr (by simp [h18]; rfl) ?_
   refine E.ret ?_
   exact pureK.ret rfl rfl (by simp) hS0
 | true =>
   rw [hsb] at h19
   have h9 := shortS_nine hsb
   have hM16 : M16 (tidy n H) X0 n (n + 1) v l := ⟨hS0, hM1, hS0 _ _ g0, hL.more hS0, hb0, hs0⟩
   by_cases h3 : s.length ≤ 300
   · have h3I : ¬ (300 : Int) < s.length := by omega
     have key := w16w (s := s) hM16 (by omega) (by omega)
     refine E.reg hr (by simp [-cellsA, h18, r1, h19, h3I, undefV]; rfl) ?_
     refine E.cond (t := false) (by simp) (fun h => by cases h) (fun _ => ?_)
     refine E.skip ?_
     refine E.lead _ ?_ key
     exact .keep rfl rfl rfl (by simp) (Sub.refl _)
   · have h3I : (300 : Int) < s.length := by omega
     by_cases h4 : s.length = 4097
     · have h4I : (s.length : Int) = 4097 := by omega
       have key := w16w (s := s) hM16 (by omega) (by omega)
       refine E.reg hr (by simp [-cellsA, h18, r1, h19, h4I]; rfl) ?_
       refine E.cond (t := false) (by simp) (fun h => by cases h) (fun _ => ?_)
       refine E.skip ?_
       refine E.lead _ ?_ key
       exact .keep rfl rfl rfl (by simp) (Sub.refl _)
     · have h4I : ¬ (s.length : Int) = 4097 := by omega
       refine E.reg hr (by simp [-cellsA, h18, r1, h19, h3I, h4I]; rfl) ?_
       refine E.cond (t := true) (by simp) (fun _ => ?_) (fun h => by cases h)
       refine E.seq ?_
       refine E.reg hr (by simp [h18]; rfl) ?_
       refine E.ret ?_
       exact pureK.ret rfl rfl (by simp) hS0
end Go.Proofs.YtndlfijfjglkdaaGreatDoor

namespace Go.Ab
open Go Go.ChangeShapes Go.WideShapes
structure RD where
 A : Option Addr
 L : Nat
 C : Nat
 Z : List Value
def RD.ok (w : World) (r : RD) : Prop := r.L ≤ r.C ∧ r.Z.length = r.C ∧ (r.A = none → r.C = 0) ∧ afL r.Z = true ∧ ∀ a, r.A = some a → ∀ (c : Nat) v, r.Z[c]? = some v → w.cell? (a.add c) = some v
end Go.Ab

namespace Go.Ab
open Go
end Go.Ab

namespace Go.Proofs.YtndlfijfjglkdaaGreatDoor
open Go Go.Ab Go.Proofs Go.ChangeShapes Go.WideShapes Go.ChangeAt Go.RowKit
namespace gunLines
end gunLines
end Go.Proofs.YtndlfijfjglkdaaGreatDoor

namespace Go.Proofs.YtndlfijfjglkdaaGreatDoor
open Go Go.Ab Go.Proofs Go.ChangeShapes Go.WideShapes Go.ChangeAt Go.RowKit
theorem leafs94 : leafs Tryz.prog 6 94 = some [.str, .int .i64, .int .i64, .int .i64, .int .i64, .int .i64, .int .i64] := by kernel_rfl
theorem fits_cons {a : Leaf} {bs : List Leaf} {r : List Value} (h : fitsL (a :: bs) r) : ∃ v vs, r = v :: vs ∧ a.fits v ∧ fitsL bs vs := by
 cases r with
 | nil => exact h.elim
 | cons v vs => exact ⟨v, vs, rfl, h.1, h.2⟩
theorem fits_nil {r : List Value} (h : fitsL [] r) : r = [] := by
 cases r with
 | nil => rfl
 | cons v vs => exact h.elim
theorem fits_gun {r : List Value} (h : fitsL [.str, .int .i64, .int .i64, .int .i64, .int .i64, .int .i64, .int .i64] r) : ∃ g : Gun, r = g.cells := by
 obtain ⟨_, _, rfl, ⟨s, rfl, _⟩, h1⟩ := fits_cons h
 obtain ⟨_, _, rfl, ⟨v, rfl, _⟩, h2⟩ := fits_cons h1
 obtain ⟨_, _, rfl, ⟨x, rfl, _⟩, h3⟩ := fits_cons h2
 obtain ⟨_, _, rfl, ⟨y, rfl, _⟩, h4⟩ := fits_cons h3
 obtain ⟨_, _, rfl, ⟨t, rfl, _⟩, h5⟩ := fits_cons h4
 obtain ⟨_, _, rfl, ⟨lo, rfl, _⟩, h6⟩ := fits_cons h5
 obtain ⟨_, _, rfl, ⟨hi, rfl, _⟩, h7⟩ := fits_cons h6
 obtain rfl := fits_nil h7
 exact ⟨⟨s, v, x, y, t, lo, hi⟩, rfl⟩
theorem fits_guns : ∀ rows : List (List Value), (∀ r ∈ rows, fitsL [.str, .int .i64, .int .i64, .int .i64, .int .i64, .int .i64, .int .i64] r) → ∃ l : List Gun, rows.flatten = gcs l ∧ l.length = rows.length
 | [], _ => ⟨[], rfl, rfl⟩
 | r :: rows, h => by
   obtain ⟨g, rfl⟩ := fits_gun (h r (List.mem_cons_self ..))
   obtain ⟨l, h1, h2⟩ := fits_guns rows fun r hr => h r (List.mem_cons_of_mem _ hr)
   exact ⟨g :: l, by rw [List.flatten_cons, h1]; rfl, by simp [h2]⟩
set_option maxRecDepth 100000 in
theorem open_str {H : Type} {enc : TypeId × Value → H} {W : World} {base : Nat} {v : Value} {d : DataW H} {p : List MemPlace} (hv : Value.okWide Tryz.prog W .any base 24 v) (h : DataW.Trod enc Tryz.prog W 0 (fun _ => true) true 24 v d p) :
   v = nilV ∨ ∃ (b o c : Nat) (l : List Gun), v = .agg ⟨[.slice (some ⟨b, o, none⟩) l.length c]⟩ ∧ l.length < 2 ^ 63 ∧ ∃ cs t fz, W.heap[b]? = some (.cells cs t fz) ∧ ∀ i, i < (gcs l).length → cs[o + i]? = (gcs l)[i]? := by
 rcases handed_str (d := 6) Tryz.underlying24 (f := ⟨"Guns", 22, 0, false, "", "", 0⟩) rfl rfl rfl (by kernel_rfl) (by kernel_rfl) (by kernel_rfl) Tryz.underlying22 leafs94 (by kernel_rfl) (by simp) hv h with rfl | ⟨b, o, len, cap, rows, rfl, h1, h2, h3, h4, cs, t, fz, hw, hc⟩
 · exact .inl rfl
 · obtain ⟨l, e1, e2⟩ := fits_guns rows h4
   have : len = l.length := by omega
   subst this
   rw [e1] at hc
   refine .inr ⟨b, o, cap, l, rfl, ?_, cs, t, fz, hw, hc⟩
   have : maxLen < 2 ^ 63 := by decide
   omega
end Go.Proofs.YtndlfijfjglkdaaGreatDoor

namespace Go.Proofs.YtndlfijfjglkdaaGreatDoor
open Go Go.Ab Go.Proofs Go.ChangeShapes Go.WideShapes Go.ChangeAt Go.RowKit
theorem repG {W : World} (h0 : Lies W 0 names0) {v : Value} (h : v = nilV ∨ ∃ (b o c : Nat) (l : List Gun), v = .agg ⟨[.slice (some ⟨b, o, none⟩) l.length c]⟩ ∧ l.length < 2 ^ 63 ∧ ∃ cs t fz, W.heap[b]? = some (.cells cs t fz) ∧ ∀ i, i < (gcs l).length → cs[o + i]? = (gcs l)[i]?) :
   ∃ (b o : Nat) (cs : List Value) (sl : Value) (l : List Gun), afL cs = true ∧ (∃ c t fz, W.heap[b]? = some (.cells c t fz) ∧ ∀ i, i < cs.length → c[o + i]? = cs[i]?) ∧ (∀ φ : Vl, φ.loc 10 = b → den φ (.agg ⟨[sl]⟩) = v) ∧
     (∀ G : Heap, hget G 10 = some (.inp o cs) → strAt G (.agg ⟨[sl]⟩) = some l) ∧ (∀ p : Nat → Prop, p 10 → sc p sl) := by
 rcases h with rfl | ⟨b, o, c, l, rfl, hl, cs, t, fz, hw, hc⟩
 · obtain ⟨c, t, fz, e1, _⟩ := h0
   exact ⟨0, 0, [], .slice none 0 0, [], rfl, ⟨c, t, fz, e1, fun i hi => by simp at hi⟩, fun φ _ => by simp [den, denL], fun G _ => rfl, fun _ _ => trivial⟩
 · refine ⟨b, o, gcs l, .slice (some ⟨10, o, none⟩) l.length c, l, afL_gcs l, ⟨cs, t, fz, hw, hc⟩, fun φ hφ => by simp [den, denL, hφ], fun G hG => ?_, fun p hp => hp⟩
   unfold strAt gunsAt
   simp [hG, List.take_of_length_le, gunsOf_gcs, show l.length < 9223372036854775808 by omega]
end Go.Proofs.YtndlfijfjglkdaaGreatDoor

namespace Go.Proofs.YtndlfijfjglkdaaGreatDoor
open Go Go.Ab Go.Proofs Go.ChangeShapes Go.WideShapes Go.ChangeAt Go.RowKit
abbrev laidTx : List (String × DataW Unit) := Rows.gunTextsRow.laid
theorem lies0T {W : World} (h : laidMetH Tryz.prog laidTx W) : Lies W 0 names0 := by
 have h1 : laidMet Tryz.prog [("moveout/gun.names", Rows.laid_moveout_gun_names)] W := laidMetH.filter (fun x => x.1 == "moveout/gun.names") h
 obtain ⟨ps, ⟨g', t', cs, fuel, p, q, hg', ht', hvar, hd, _, _⟩, _⟩ := h1
 obtain rfl := Option.some.inj (gNames.symm.trans hg')
 obtain rfl := Option.some.inj (gNamesT.symm.trans ht')
 have hc := cells_of_strs (zs := [[100, 111, 119, 110], [102, 111, 114, 101], [97, 102, 116], [112, 111, 114, 116], [115, 116, 97, 114, 98, 111, 97, 114, 100]]) Tryz.underlying256 Tryz.underlying9 (by kernel_rfl) (by kernel_rfl) hd
 have hn : names0 = [[100, 111, 119, 110], [102, 111, 114, 101], [97, 102, 116], [112, 111, 114, 116], [115, 116, 97, 114, 98, 111, 97, 114, 100]].map fun z => Value.string ⟨(z : List UInt8).toArray⟩ := by kernel_rfl
 exact lies_of (by simp [names0]) fun i hi => by
   rw [World.var?_cell gNames hvar i, ← Array.getElem?_toList, hc, hn]
theorem tab3T {W : World} (h : laidMetH Tryz.prog laidTx W) : ∃ t fz, W.heap[3]? = some (.cells tab3.toArray t fz) := by
 have h1 := laidMetH.filter (fun x => x.1 == "internal/strconv.uint64pow10") h
 have h2 : Lib.TabIs Tryz.prog W "internal/strconv.uint64pow10" .u64 ((List.range 20).map fun (i : Nat) => (10 : Int) ^ i) := Lib.tabIs_of_head (name := "internal/strconv.uint64pow10") (k := .u64) (zs := (List.range 20).map fun (i : Nat) => (10 : Int) ^ i) (rest := []) gTab3 gTab3T Tryz.underlying368 Tryz.underlying330 (by kernel_rfl) (by kernel_rfl) h1
 unfold Lib.TabIs World.var? at h2
 rw [gTab3] at h2
 simp only [Option.bind_some] at h2
 split at h2
 · rename_i c t fz hc
   injection h2 with h2
   refine ⟨t, fz, ?_⟩
   rw [hc, h2]
   congr 3
 · cases h2
theorem gErrS : Tryz.prog.globalNamed "strconv.ErrSyntax" = some 6 := by kernel_rfl
theorem gErrST : (Tryz.prog.globals[6]?).map (·.type) = some 295 := by kernel_rfl
theorem gErrR : Tryz.prog.globalNamed "strconv.ErrRange" = some 7 := by kernel_rfl
theorem gErrRT : (Tryz.prog.globals[7]?).map (·.type) = some 295 := by kernel_rfl
theorem starE : "*" ++ "errors.errorString" = "*errors.errorString" := by decide
theorem row390 (u : TypeId) (h : Tryz.prog.typeName? 3 u = some "*errors.errorString") : u = 390 :=
 typeName_ptr_named (nm := "errors.errorString") (by rw [starE]; kernel_rfl) (by kernel_rfl) (by decide) u (by rw [starE]; exact h)
theorem cells392 : Tryz.prog.cellsOf 392 = 1 := by kernel_rfl
theorem cells9e : Tryz.prog.cellsOf 9 = 1 := by kernel_rfl
theorem err_var {W : World} {g : Nat} {name : String} {a : Addr} {s : ByteArray} (hg : Tryz.prog.globalNamed name = some g) (hv : W.var? Tryz.prog name = some #[.iface 390 (.pointer (some a))]) (hc : W.cell? a = some (.string s)) :
   ∃ b o c t fz, W.heap[g]? = some (.cells c t fz) ∧ c[0]? = some (.iface 390 (.pointer (some ⟨b, o, none⟩))) := by
 obtain ⟨b, o, sp⟩ := a
 have hsp : sp = none := by
   unfold World.cell? at hc
   split at hc
   · cases sp with
     | none => rfl
     | some j => cases hc
   · cases hc
 subst hsp
 unfold World.var? at hv
 rw [hg] at hv
 simp only [Option.bind_some] at hv
 split at hv
 · rename_i c t fz hw
   injection hv with hv
   exact ⟨b, o, c, t, fz, hw, by rw [hv]; rfl⟩
 · cases hv
theorem err6T {W : World} (h : laidMetH Tryz.prog laidTx W) : ∃ b o c t fz, W.heap[6]? = some (.cells c t fz) ∧ c[0]? = some (.iface 390 (.pointer (some ⟨b, o, none⟩))) := by
 have h1 : laidMet Tryz.prog [("strconv.ErrSyntax", Rows.laid_strconv_ErrSyntax)] W := laidMetH.filter (fun x => x.1 == "strconv.ErrSyntax") h
 obtain ⟨a, s, hv, hc, _, _⟩ := laid_sentinel h1 gErrS gErrST Tryz.underlying295 row390 Tryz.underlying390 Tryz.underlying392 rfl rfl Tryz.underlying9 cells392 cells9e
 exact err_var gErrS hv hc
theorem err7T {W : World} (h : laidMetH Tryz.prog laidTx W) : ∃ b o c t fz, W.heap[7]? = some (.cells c t fz) ∧ c[0]? = some (.iface 390 (.pointer (some ⟨b, o, none⟩))) := by
 have h1 : laidMet Tryz.prog [("strconv.ErrRange", Rows.laid_strconv_ErrRange)] W := laidMetH.filter (fun x => x.1 == "strconv.ErrRange") h
 obtain ⟨a, s, hv, hc, _, _⟩ := laid_sentinel h1 gErrR gErrRT Tryz.underlying295 row390 Tryz.underlying390 Tryz.underlying392 rfl rfl Tryz.underlying9 cells392 cells9e
 exact err_var gErrR hv hc
theorem lawGT {f : FuncId} (he : enterable Tryz.prog f = true) {W : World} (h0 : Lies W 0 names0) (h3 : ∃ t fz, W.heap[3]? = some (.cells tab3.toArray t fz))
   (h6 : ∃ b o c t fz, W.heap[6]? = some (.cells c t fz) ∧ c[0]? = some (.iface 390 (.pointer (some ⟨b, o, none⟩)))) (h7 : ∃ b o c t fz, W.heap[7]? = some (.cells c t fz) ∧ c[0]? = some (.iface 390 (.pointer (some ⟨b, o, none⟩))))
   {b0 o0 : Nat} {cs0 : List Value} {sl v0 : Value} {us : List Value} {l : List Gun} (haf : afL cs0 = true) (hcs : ∃ c t fz, W.heap[b0]? = some (.cells c t fz) ∧ ∀ i, i < cs0.length → c[o0 + i]? = cs0[i]?)
   (hden : ∀ φ : Vl, φ.loc 10 = b0 → den φ (.agg ⟨[sl]⟩) = v0) (hstr : ∀ G : Heap, hget G 10 = some (.inp o0 cs0) → strAt G (.agg ⟨[sl]⟩) = some l) (hsl : ∀ p : Nat → Prop, p 10 → sc p sl) (hus : afL us = true)
   (wk : ∀ H : Heap, hget H 0 = some (.inp 0 names0) → LibOk H → strAt H (.agg ⟨[sl]⟩) = some l → AC Tryz.prog f (.agg ⟨[sl]⟩ :: us) H 13 (.bool true) H 13) :
   Calls Tryz.prog f (v0 :: us).toArray W fun e W' => e = .returned (.bool true) ∧ Below W.heap.size W W' := by
 obtain ⟨b6, o6, c6, y6, z6, hw6, hc6⟩ := h6
 obtain ⟨b7, o7, c7, y7, z7, hw7, hc7⟩ := h7
 obtain ⟨y3, z3, hw3⟩ := h3
 obtain ⟨G, hG⟩ : ∃ G : Heap, G = [(10, .inp o0 cs0), (7, .inp 0 [.iface 390 (.pointer (some ⟨12, o7, none⟩))]), (6, .inp 0 [.iface 390 (.pointer (some ⟨11, o6, none⟩))]), (3, .tab tab3), (0, .inp 0 names0)] := ⟨_, rfl⟩
 have e10 : hget G 10 = some (.inp o0 cs0) := by rw [hG]; rfl
 have e7 : hget G 7 = some (.inp 0 [.iface 390 (.pointer (some ⟨12, o7, none⟩))]) := by rw [hG]; rfl
 have e6 : hget G 6 = some (.inp 0 [.iface 390 (.pointer (some ⟨11, o6, none⟩))]) := by rw [hG]; rfl
 have e3 : hget G 3 = some (.tab tab3) := by rw [hG]; rfl
 have e0 : hget G 0 = some (.inp 0 names0) := by rw [hG]; rfl
 have hAC := wk G e0 ⟨e3, ⟨_, _, _, e6⟩, _, _, _, e7⟩ (hstr G e10)
 have hH : ∀ k b, hget G k = some b → (k = 10 ∧ b = .inp o0 cs0) ∨ (k = 7 ∧ b = .inp 0 [.iface 390 (.pointer (some ⟨12, o7, none⟩))]) ∨ (k = 6 ∧ b = .inp 0 [.iface 390 (.pointer (some ⟨11, o6, none⟩))]) ∨ (k = 3 ∧ b = .tab tab3) ∨ (k = 0 ∧ b = .inp 0 names0) := fun k b hk => by
   have hm := hget_mem _ _ _ hk
   rw [hG] at hm
   simp only [List.mem_cons, Prod.mk.injEq, List.not_mem_nil, or_false] at hm
   exact hm
 have hown : ∀ k b, hget G k = some b → b.own = false := fun k b hk => by
   rcases hH k b hk with ⟨_, rfl⟩ | ⟨_, rfl⟩ | ⟨_, rfl⟩ | ⟨_, rfl⟩ | ⟨_, rfl⟩ <;> rfl
 let φ : Vl := ⟨fun k => if k = 10 then b0 else if k = 11 then b6 else if k = 12 then b7 else k, fun _ => 0⟩
 have hl : ∀ k, k < 10 → φ.loc k = k := fun k hk => by
   show (if k = 10 then _ else _) = _
   rw [if_neg (by omega), if_neg (by omega), if_neg (by omega)]
 have hB : Base Tryz.prog (· < 13) φ 13 (hget G) W [] act0 := by
   refine ⟨⟨fun k b hk => ?_, fun k b k' b' h1 _ _ ho => (by rw [hown k b h1] at ho; cases ho), fun g hg => ?_⟩, fun _ h => h, fun g hg => ?_, ?_, fun k b hk => ?_, fun t v hv => by simp [lk] at hv, fun t v hv => by simp [lk] at hv⟩
   · rcases hH k b hk with ⟨rfl, rfl⟩ | ⟨rfl, rfl⟩ | ⟨rfl, rfl⟩ | ⟨rfl, rfl⟩ | ⟨rfl, rfl⟩
     · obtain ⟨c, t, fz, w1, w2⟩ := hcs
       refine ⟨c, t, fz, w1, fun i hi => ?_⟩
       rw [denL_af _ _ haf]
       exact w2 i hi
     · rw [hl 7 (by omega)]
       refine ⟨c7, y7, z7, hw7, fun i hi => ?_⟩
       have : i = 0 := by simpa using hi
       subst this
       rw [Nat.zero_add, hc7]
       rfl
     · rw [hl 6 (by omega)]
       refine ⟨c6, y6, z6, hw6, fun i hi => ?_⟩
       have : i = 0 := by simpa using hi
       subst this
       rw [Nat.zero_add, hc6]
       rfl
     · rw [hl 3 (by omega)]
       refine ⟨y3, z3, ?_⟩
       rw [denL_af _ _ af_tab3]
       exact hw3
     · rw [hl 0 (by omega)]
       obtain ⟨c, t, fz, w1, w2⟩ := h0
       refine ⟨c, t, fz, w1, fun i hi => ?_⟩
       rw [Nat.zero_add, denL_af _ _ af_names0]
       exact w2 i hi
   · rw [gsz] at hg; exact hl g hg
   · rw [gsz] at hg; omega
   · rw [gsz]; omega
   · rcases hH k b hk with ⟨rfl, rfl⟩ | ⟨rfl, rfl⟩ | ⟨rfl, rfl⟩ | ⟨rfl, rfl⟩ | ⟨rfl, rfl⟩
     · exact ⟨by omega, scL_af _ _ haf⟩
     · exact ⟨by omega, by simp [scL, sc]⟩
     · exact ⟨by omega, by simp [scL, sc]⟩
     · exact ⟨by omega, scL_af _ _ af_tab3⟩
     · exact ⟨by omega, scL_af _ _ af_names0⟩
 have := hAC.calls he rfl hB ⟨⟨hsl _ (by omega), trivial⟩, scL_af _ _ hus⟩ hown
 rw [denL, denL_af _ _ hus, hden φ rfl] at this
 exact this
def litV : Nat → DataW Unit → List Value
 | _, .lit (.int k z) => [.int k z]
 | n + 1, .agg l => l.flatMap (litV n)
 | _, _ => []
abbrev synS : ByteArray := { data := #[105, 110, 118, 97, 108, 105, 100, 32, 115, 121, 110, 116, 97, 120] }
abbrev rngS : ByteArray := { data := #[118, 97, 108, 117, 101, 32, 111, 117, 116, 32, 111, 102, 32, 114, 97, 110, 103, 101] }
noncomputable def lowT : Nat := (World.holding Tryz.prog default ⟨#[], #[], []⟩).heap.size
noncomputable def laidWorldT (os : Os) : World :=
 let w0 := World.holding Tryz.prog os ⟨#[.cells #[.string synS] 392, .cells #[.string rngS] 392], #[], []⟩
 { w0 with heap := (((((((w0.heap.modify 0 (layIn names0)).modify 3 (layIn tab3)).modify 8 (layIn tab8)).modify 9 (layIn tab9)).modify 4 (layIn (litV 3 Rows.laid_unicode_utf8_first))).modify 5 (layIn (litV 3 Rows.laid_unicode_utf8_acceptRanges))).modify 6 (layIn [.iface 390 (.pointer (some ⟨lowT, 0, none⟩))])).modify 7 (layIn [.iface 390 (.pointer (some ⟨lowT + 1, 0, none⟩))]) }
theorem laid_metT (os : Os) (a b : Value) : laidMet Tryz.prog laidTx ((laidWorldT os).forCall (fun _ _ => 0) ⟨#[], #[a, b], []⟩).memory :=
 laidMet_of_run' 8 (by kernel_rfl) (by kernel_rfl)
theorem params16 : Tryz.f16.params = #[24, 9] := by kernel_rfl
namespace gunTexts
set_option maxRecDepth 100000 in
theorem contract (H : Type) (enc : TypeId × Value → H) (W : World) (base : Nat) (args : Array Value) (ds gs : List (DataW H)) (before : List MemPlace)
   (hval : ∀ (j : Nat) t v, Tryz.f16.params[j]? = some t → args[j]? = some v → Value.okWide Tryz.prog W .any base t v)
   (hW : DataW.Whole enc Tryz.prog Tryz.f16.params.toList Rows.gunTextsSpec.vars false W args.toList ds gs before) (hL : laidMetH Tryz.prog Rows.gunTextsRow.laid W) :
   Calls Tryz.prog 16 args W fun e W' => ∃ v, e = .returned v ∧ Rows.gunTextsSpec.post enc Tryz.prog Tryz.f16 false true false false W args v W' := by
 have hW' := hW
 obtain ⟨p, q, hA0, hV, rfl, hfz, hnd⟩ := hW
 have hA : DataW.TrodAll enc Tryz.prog W 0 (fun _ => true) true Tryz.f16.params.toList args.toList ds p := hA0
 rw [params16] at hA hval
 obtain ⟨v0, vs0, d0, ds0, p0, q0, hargs, rfl, rfl, h0, r0⟩ := trodAll_cons hA
 obtain ⟨v1, vs1, d1, ds1, p1, q1, rfl, rfl, rfl, h1, r1⟩ := trodAll_cons r0
 obtain ⟨rfl, rfl, rfl⟩ := trodAll_nil r1
 obtain rfl : args = #[v0, v1] := by cases args; simp_all
 obtain ⟨b0, o0, cs0, sl, l, a1, a2, a3, a4, a5⟩ := repG (lies0T hL) (open_str (hval 0 24 v0 rfl rfl) h0)
 obtain ⟨s, rfl⟩ : ∃ s, v1 = .string s := okWide_string (P := Tryz.prog) Tryz.underlying9 (hval 1 9 v1 rfl rfl)
 have es : Value.string s = sL s.data.toList := by rw [sL, bA_data]
 have hc : Calls Tryz.prog 16 #[v0, .string s] W fun e W' => e = .returned (.bool true) ∧ Below W.heap.size W W' := by
   rw [es]
   exact lawGT (f := 16) (by kernel_rfl) (lies0T hL) (tab3T hL) (err6T hL) (err7T hL) (us := [sL s.data.toList]) a1 a2 a3 a4 a5 rfl fun H g0 gl hs => w16 g0 gl hs
 refine hc.mono fun e W' ⟨he, hb⟩ => ⟨_, he, ?_⟩
 refine lawPost ?_ rfl rfl rfl hW' hb
 intro t ht
 rw [params16] at ht
 simp at ht
 rcases ht with rfl | rfl
 · exact ⟨by kernel_rfl, by rw [show Tryz.prog.types.size = 405 by kernel_rfl]; decide⟩
 · exact ⟨by kernel_rfl, by rw [show Tryz.prog.types.size = 405 by kernel_rfl]; decide⟩
abbrev wit : Array Value := #[.agg #[.slice none 0 0], .string ByteArray.empty]
theorem reads (os : Os) {H : Type} (enc : TypeId × Value → H) : ∃ ds places, DataW.whole enc Tryz.prog ((laidWorldT os).forCall (fun _ _ => 0) ⟨#[], wit, []⟩).memory Tryz.f16.params.toList Rows.gunTextsSpec.vars false wit.toList 8 = some (ds, [], places) :=
 ⟨[.agg [.nil], .lit (.string [])], [], by kernel_rfl⟩
set_option maxRecDepth 100000 in
theorem lifted (os : Os) (started : os.Started) (H : Type) (enc : TypeId × Value → H) (F : Stop.Interp) :
   ReturnsInHanded {} Tryz.checked os 16 .any ((OpenSpec.ofChange Rows.gunTextsSpec).preRow enc Tryz.prog Tryz.f16 Rows.gunTextsRow.domain false Rows.gunTextsRow.laid) (((OpenSpec.ofChange Rows.gunTextsSpec).at F).post enc Tryz.prog Tryz.f16 false true false false) := by
 obtain ⟨ds, places, hx⟩ := reads os enc
 refine returnsInHanded_of_row (C := Tryz.checked) (s := OpenSpec.ofChange Rows.gunTextsSpec) own started (by kernel_rfl) Tryz.func16
   (witness_row_at (enc := enc) (C := Tryz.checked) false (laidWorldT os) wit rfl (by kernel_rfl) (by kernel_rfl) (by kernel_rfl)
     (OpenSpec.preRow_of_cond 8 hx (by kernel_rfl) (fun k hk => by cases hk) (by kernel_rfl) (laid_metT os _ _))) ?_
 intro W base args ds gs before hval hW _ _ _ hL _ _
 exact contract H enc W base args ds gs before hval hW hL
end gunTexts
end Go.Proofs.YtndlfijfjglkdaaGreatDoor

namespace Go.Proofs.YtndlfijfjglkdaaGreatDoor
open Go
namespace gunTexts
theorem jf0 : OpenClaim.wf (OpenSpec.ofChange Rows.gunTextsSpec) Rows.gunTextsRow = true := by kernel_rfl
theorem jf1 : laidOutB Tryz.prog = true := jfp1
theorem jf2 : mapsRowed Tryz.prog = true := jfp2
theorem jf3 : Tryz.f16.params.all (Tryz.prog.readableRec ·) = true := by kernel_rfl
theorem jf4 : namedTie Tryz.prog Rows.gunTextsRow.named Rows.gunTextsSpec.vars = true := by kernel_rfl
theorem jf5 : (Rows.gunTextsRow.stops == []) = true := by kernel_rfl
theorem jf6 : (Tryz.prog.stops == []) = true := jfp6
theorem jf7 : (Rows.gunTextsRow.knobs == []) = true := by kernel_rfl
theorem jf8 : (Tryz.prog.stopKnobs == []) = true := jfp8
theorem jf9 : (Rows.gunTextsRow.inPlace == Tryz.prog.inPlace 16) = true := by kernel_rfl
theorem jf10 : (Rows.gunTextsRow.unfollowed == Tryz.prog.unfollowed 16) = true := by kernel_rfl
theorem jf11 : (Rows.gunTextsRow.recurses == Tryz.prog.recurses 16) = true := by kernel_rfl
theorem jf12 : (Rows.gunTextsRow.named == Tryz.prog.varsNamed 16) = true := by kernel_rfl
theorem jf13 : (Rows.gunTextsRow.maps == (Tryz.f16.params.toList ++ Rows.gunTextsSpec.plain.varTypes Tryz.prog).any (Tryz.prog.mapsRec ·)) = true := by kernel_rfl
theorem jf14 : (Rows.gunTextsRow.ifaces == (Tryz.f16.params.toList ++ Rows.gunTextsSpec.plain.varTypes Tryz.prog).any (Tryz.prog.ifacesRec ·)) = true := by kernel_rfl
theorem jf15 : (Rows.gunTextsRow.mapsOut == Tryz.prog.mapsAmong Tryz.f16.resultTypes.toList) = true := by kernel_rfl
theorem jf16 : (Rows.gunTextsRow.loops == (Tryz.f16.params.toList ++ Rows.gunTextsSpec.plain.varTypes Tryz.prog).any (Tryz.prog.loopsFrom ·)) = true := by kernel_rfl
theorem jf17 : (Rows.gunTextsRow.wideKeys == (Tryz.f16.params.toList ++ Rows.gunTextsSpec.plain.varTypes Tryz.prog ++ Tryz.f16.resultTypes.toList).any (Tryz.prog.wideKeysFrom ·)) = true := by kernel_rfl
theorem jf18 : Rows.gunTextsSpec.vars.all (Tryz.prog.varReadable ·) = true := by kernel_rfl
theorem jf19 : Tryz.f16.resultTypes.all (fun t => Tryz.prog.readableRec t && decide (t < Tryz.prog.types.size)) = true := by kernel_rfl
theorem jf20 : (Rows.gunTextsRow.ifacesOut == Tryz.f16.resultTypes.toList.any (Tryz.prog.ifacesRec ·)) = true := by kernel_rfl
theorem jf21 : (Rows.gunTextsRow.loopsOut == Tryz.f16.resultTypes.toList.any (Tryz.prog.loopsFrom ·)) = true := by kernel_rfl
theorem jf22 : (Rows.gunTextsRow.plainKeys == Tryz.prog.plainKeys) = true := jfp22
theorem jf23 : Rows.gunTextsRow.shortTexts.isNone = true := by kernel_rfl
theorem jf24 : Tryz.prog.stopsHeard = true := jfp24
theorem jf25 : Tryz.prog.mayEnter = true := jfp25
theorem jf26 : (Rows.gunTextsRow.lifted == Tryz.prog.liftsFinal) = true := jfp26
theorem jf27 : (Tryz.prog.make == some Rows.gunTextsRow.make) = true := jfp27
theorem jf28 : (Rows.gunTextsRow.kinds == (if Rows.gunTextsRow.domain.isEmpty then [] else Tryz.f16.params.toList.map fun t => match Tryz.prog.underlying t with | some (.int k) => some k | _ => none)) = true := by kernel_rfl
theorem jf29 : (Rows.gunTextsRow.pinned == Rows.gunTextsRow.pinnedBy) = true := by kernel_rfl
theorem jf30 : (Rows.gunTextsRow.veiled == (Tryz.f16.params.toList ++ Rows.gunTextsSpec.plain.varTypes Tryz.prog ++ Tryz.f16.resultTypes.toList).any (Tryz.prog.veiledRec ·)) = true := by kernel_rfl
theorem jf31 : OpenClaim.veiledFits Rows.gunTextsRow Tryz.prog Tryz.f16.params.toList (Tryz.f16.params.toList ++ Rows.gunTextsSpec.plain.varTypes Tryz.prog ++ Tryz.f16.resultTypes.toList) = true := by kernel_rfl
set_option maxRecDepth 100000 in
theorem facts : joinedFacts Tryz.prog 16 Tryz.f16 Rows.gunTextsSpec Rows.gunTextsRow = true := by
 unfold joinedFacts
 exact (and2 (and2 (and2 (and2 (and2 (and2 (and2 (and2 (and2 (and2 (and2 (and2 (and2 (and2 (and2 (and2 (and2 (and2 (and2 (and2 (and2 (and2 (and2 (and2 (and2 (and2 (and2 (and2 (and2 (and2 (and2 jf0 jf1) jf2) jf3) jf4) jf5) jf6) jf7) jf8) jf9) jf10) jf11) jf12) jf13) jf14) jf15) jf16) jf17) jf18) jf19) jf20) jf21) jf22) jf23) jf24) jf25) jf26) jf27) jf28) jf29) jf30) jf31)
end gunTexts
end Go.Proofs.YtndlfijfjglkdaaGreatDoor

namespace Go.Proofs.YtndlfijfjglkdaaGreatDoor
open Go Go.Ab Go.Proofs Go.ChangeShapes Go.WideShapes Go.ChangeAt Go.RowKit
namespace gunTexts
theorem fnum : Tryz.prog.funcNamed "moveout/moveoutlaw03.GunTexts" = some 16 := by kernel_rfl
theorem inst : Tryz.f16.isInstance Tryz.prog Rows.gunTextsRow.origin Rows.gunTextsRow.targs := of_decide_eq_true (by kernel_rfl)
theorem wrapper : Tryz.f16.isWrapper Tryz.prog Rows.gunTextsRow.wrapper Rows.gunTextsRow.mainSum := by unfold Func.isWrapper; first | (rw [if_pos (by decide +kernel)]; kernel_rfl) | (rw [if_neg (by decide +kernel)]; exact ⟨rfl, rfl⟩)
set_option maxRecDepth 100000 in
theorem said : Rows.GunTextsSaid :=
 OpenClaim.holds_of_cond 16 Tryz.f16 rfl rfl rfl rfl rfl rfl rfl ⟨rfl, rfl, rfl, rfl, rfl⟩ rfl rfl rfl rfl rfl fnum Tryz.func16 facts inst wrapper
   (fun os started H enc _ F => by rw [OpenClaim.pre_eq_preRow]; exact lifted os started H enc F)
theorem looks : true = Tryz.prog.looks [] := by kernel_rfl
theorem standIn : ∀ t, t = 24 ∨ t = 9 → Tryz.prog.wantsStandIn t = false := by
 rintro t (rfl | rfl) <;> kernel_rfl
theorem plain (f : FuncId) (fn : Func) (hf : Tryz.pinned.checked.prog.funcNamed "moveout/moveoutlaw03.GunTexts" = some f) (hfn : Tryz.pinned.checked.prog.funcs[f]? = some fn) :
   true = Tryz.pinned.checked.prog.looks [] ∧ ∀ (j : Nat) t, fn.params[j]? = some t → Tryz.pinned.checked.prog.wantsStandIn t = false := by
 obtain rfl : f = 16 := Option.some.inj (fnum.symm.trans hf) |>.symm
 obtain rfl : fn = Tryz.f16 := (Option.some.inj (Tryz.func16.symm.trans hfn)).symm
 refine ⟨looks, fun j t ht => ?_⟩
 rw [params16] at ht
 exact standIn t (by simpa using Array.mem_of_getElem? ht)
theorem wf : OpenClaim.wfByText (OpenSpec.ofChange Rows.gunTextsSpec) Rows.gunTextsRow = true := by kernel_rfl
theorem main : Tryz.prog.mainIs = some ("e00eecd8ca05e183972abfbf043f5ed2bc813bd519e3ebd189d9b51d2f935a9d" |> fun s => (true, s.toList)) := by kernel_rfl
theorem goes : false = Rows.gunTextsRow.goesBy Tryz.prog := by kernel_rfl
set_option maxRecDepth 100000 in
theorem card : Rows.GunTextsCardSaid :=
 Claim7.holds_tied_plain_at .later [] _ _ _ _ said (fun _ h => by cases h) wf (fun _ h => by cases h) gunTexts_row_tie rfl ⟨rfl, rfl⟩ main rfl plain goes
end gunTexts
end Go.Proofs.YtndlfijfjglkdaaGreatDoor

namespace Go.Proofs.YtndlfijfjglkdaaGreatDoor
open Go Go.Ab Go.Proofs
theorem dd_len4 {n : Int} (h : n ≤ 1000) : (dd n).length ≤ 4 := by
 rw [dd, Lib.decDigits_length]
 refine Nat.le_of_not_lt fun hc => ?_
 have hm : ∀ (k u : Nat), k < Lib.nDigits u → 10 ^ k ≤ u ∨ k = 0 := by
   intro k
   induction k with
   | zero => intro u _; exact .inr rfl
   | succ k ih =>
     intro u hu
     by_cases hs : u < 10
     · rw [Lib.nDigits_small hs] at hu; omega
     · rw [Lib.nDigits_big hs] at hu
       rcases ih (u / 10) (by omega) with h1 | h1
       · rw [Nat.pow_succ]; exact .inl (by omega)
       · subst h1; exact .inl (by omega)
 rcases hm 4 _ hc with h1 | h1
 · have : (10 : Nat) ^ 4 = 10000 := by decide
   omega
 · cases h1
theorem dz_len5 {n : Int} (h : -1000 ≤ n ∧ n ≤ 1000) : (dz n).length ≤ 5 := by
 by_cases h0 : 0 ≤ n
 · rw [dz_pos h0]
   have := dd_len4 h.2
   omega
 · rw [dz_neg (by omega), List.length_cons]
   have := dd_len4 (n := -n) (by omega)
   omega
theorem dz_no {c : UInt8} (hc : digB c = false) (h45 : c ≠ 45) (n : Int) : c ∉ dz n := by
 by_cases h0 : 0 ≤ n
 · rw [dz_pos h0]; exact dd_no hc n
 · rw [dz_neg (by omega)]
   intro h
   rcases List.mem_cons.1 h with h | h
   · exact h45 h
   · exact dd_no hc _ h
theorem sg_dz {n : Int} (h : -1000 ≤ n ∧ n ≤ 1000) : sgI (dz n) = (n, true) := by
 by_cases h0 : 0 ≤ n
 · rw [dz_pos h0]
   have hr := rI_dd h0 (show n ≤ 999999999 by omega)
   cases hd : dd n with
   | nil => rw [hd] at hr; cases hr
   | cons c r =>
     have hc : digB c = true := decDigits_dig n.toNat c (by rw [show Lib.decDigits n.toNat = dd n from rfl, hd]; exact List.mem_cons_self ..)
     have : c ≠ 45 := fun e => by rw [e] at hc; cases hc
     rw [sg_other this, ← hd, hr]
 · rw [dz_neg (by omega)]
   have hr := rI_dd (show 0 ≤ -n by omega) (show -n ≤ 999999999 by omega)
   show (-(rI (dd (-n))).1, (rI (dd (-n))).2 && decide (0 < (rI (dd (-n))).1)) = _
   rw [hr]
   simp only [Int.neg_neg, Bool.true_and]
   rw [decide_eq_true (show (0 : Int) < -n by omega)]
theorem dz_sg {s : List UInt8} (h : (sgI s).2 = true) : dz (sgI s).1 = s := by
 match s with
 | [] => cases h
 | c :: r =>
   by_cases hc : c = 45
   · subst hc
     have e : sgI (45 :: r) = (-(rI r).1, (rI r).2 && decide (0 < (rI r).1)) := rfl
     rw [e] at h ⊢
     simp only [Bool.and_eq_true, decide_eq_true_eq] at h
     rw [dz_neg (by omega), Int.neg_neg, rI_back h.1]
   · rw [sg_other hc] at h ⊢
     rw [dz_pos (rI_bd _).1, rI_back h]
def bodyG (g : Gun) : List UInt8 := gunT ++ nB g.name ++ numT g 6
theorem gl_body (g : Gun) : gl g = bodyG g ++ [10] := rfl
theorem name_bytes {l : List Gun} (hst : strE l = 0) {g : Gun} (hg : g ∈ l) : nB g.name ≠ [] ∧ (10 : UInt8) ∉ nB g.name ∧ (32 : UInt8) ∉ nB g.name := by
 obtain ⟨i, hi, rfl⟩ := List.getElem_of_mem hg
 unfold strE at hst
 split at hst
 · cases hst
 · split at hst
   · cases hst
   · have h1 := (firstV_zero _).1 hst (gunChk l i) (List.mem_map.2 ⟨i, List.mem_range.2 hi, rfl⟩)
     rw [gunChk_at hi] at h1
     have h2 := (firstV_zero _).1 h1 (nameE l[i].name) (by simp)
     unfold nameE at h2
     split at h2
     · rename_i h3
       simp only [nameB, Bool.and_eq_true, decide_eq_true_eq] at h3
       obtain ⟨⟨h4, _⟩, h5⟩ := h3
       have h6 := List.all_eq_true.1 h5
       have key : ∀ c : UInt8, c ∈ nB l[i].name → ∃ j, j < l[i].name.size ∧ l[i].name.get! j = c := fun c hc => by
         obtain ⟨j, hj, he⟩ := List.getElem_of_mem hc
         have hjs : j < l[i].name.size := by rw [← nB_len]; exact hj
         refine ⟨j, hjs, ?_⟩
         have := bA_get (s := nB l[i].name) hj
         rw [bA_data] at this
         rw [this, he]
       refine ⟨fun e => h4 (by rw [← nB_len, e]; rfl), fun hc => ?_, fun hc => ?_⟩
       · obtain ⟨j, hj, he⟩ := key _ hc
         have := h6 j (List.mem_range.2 hj)
         simp only [okAt, byteB, he] at this
         split at this <;> exact absurd this (by decide)
       · obtain ⟨j, hj, he⟩ := key _ hc
         have := h6 j (List.mem_range.2 hj)
         simp only [okAt, byteB, he] at this
         split at this <;> exact absurd this (by decide)
     · cases h2
theorem numT_six (g : Gun) : numT g 6 = 32 :: (dz g.v ++ 32 :: (dz g.x ++ 32 :: (dz g.y ++ 32 :: (dz g.d ++ 32 :: (dz g.lo ++ 32 :: dz g.hi))))) := by
 simp [numT, numsG]
theorem body_six (g : Gun) : bodyG g = gunW ++ 32 :: (nB g.name ++ 32 :: (dz g.v ++ 32 :: (dz g.x ++ 32 :: (dz g.y ++ 32 :: (dz g.d ++ 32 :: (dz g.lo ++ 32 :: dz g.hi)))))) := by
 rw [bodyG, numT_six]
 simp [gunT, gunW]
theorem spl_body {g : Gun} (h : (32 : UInt8) ∉ nB g.name) : spl 32 (bodyG g) = [gunW, nB g.name, dz g.v, dz g.x, dz g.y, dz g.d, dz g.lo, dz g.hi] := by
 have n := fun x : Int => dz_no (c := 32) (by decide) (by decide) x
 rw [body_six, spl_hit (by decide), spl_hit h, spl_hit (n _), spl_hit (n _), spl_hit (n _), spl_hit (n _), spl_hit (n _), spl_miss (n _)]
theorem body_no {g : Gun} (h : (10 : UInt8) ∉ nB g.name) : (10 : UInt8) ∉ bodyG g := by
 have n := fun x : Int => dz_no (c := 10) (by decide) (by decide) x
 rw [body_six]
 simp [gunW, h, n]
theorem lin_body {g : Gun} (h0 : nB g.name ≠ []) (h : (32 : UInt8) ∉ nB g.name) (hn : ∀ x ∈ numsG g, -1000 ≤ x ∧ x ≤ 1000) : linB (bodyG g) = true ∧ linG (bodyG g) = g := by
 have hs := spl_body h
 have q0 := sg_dz (hn g.v (by simp [numsG]))
 have q1 := sg_dz (hn g.x (by simp [numsG]))
 have q2 := sg_dz (hn g.y (by simp [numsG]))
 have q3 := sg_dz (hn g.d (by simp [numsG]))
 have q4 := sg_dz (hn g.lo (by simp [numsG]))
 have q5 := sg_dz (hn g.hi (by simp [numsG]))
 have f : ∀ k, fld (bodyG g) k = wd [gunW, nB g.name, dz g.v, dz g.x, dz g.y, dz g.d, dz g.lo, dz g.hi] k := fun k => by rw [fld_wd, hs]
 constructor
 · unfold linB headG
   rw [hs, f 0, f 1]
   have : numG (bodyG g) 6 = true := by
     refine List.all_eq_true.2 fun i hi => ?_
     have hi := List.mem_range.1 hi
     rw [f]
     match i, hi with
     | 0, _ => show (sgI (dz g.v)).2 = true; rw [q0]
     | 1, _ => show (sgI (dz g.x)).2 = true; rw [q1]
     | 2, _ => show (sgI (dz g.y)).2 = true; rw [q2]
     | 3, _ => show (sgI (dz g.d)).2 = true; rw [q3]
     | 4, _ => show (sgI (dz g.lo)).2 = true; rw [q4]
     | 5, _ => show (sgI (dz g.hi)).2 = true; rw [q5]
   rw [this]
   simp only [Bool.and_eq_true, decide_eq_true_eq, Bool.not_eq_true', decide_eq_false_iff_not]
   exact ⟨⟨⟨rfl, rfl⟩, h0⟩, trivial⟩
 · unfold linG
   rw [f 1, f 2, f 3, f 4, f 5, f 6, f 7]
   show (⟨bA (nB g.name), (sgI (dz g.v)).1, (sgI (dz g.x)).1, (sgI (dz g.y)).1, (sgI (dz g.d)).1, (sgI (dz g.lo)).1, (sgI (dz g.hi)).1⟩ : Gun) = g
   rw [q0, q1, q2, q3, q4, q5, bA_data]
theorem lin_back {w : List UInt8} (h : linB w = true) : bodyG (linG w) = w := by
 unfold linB headG numG at h
 simp only [Bool.and_eq_true, decide_eq_true_eq, Bool.not_eq_true', decide_eq_false_iff_not] at h
 obtain ⟨⟨⟨h8, h0⟩, _⟩, hn⟩ := h
 have hn := List.all_eq_true.1 hn
 have n := fun i (hi : i < 6) => dz_sg (hn i (List.mem_range.2 hi))
 have n0 := n 0 (by omega)
 have n1 := n 1 (by omega)
 have n2 := n 2 (by omega)
 have n3 := n 3 (by omega)
 have n4 := n 4 (by omega)
 have n5 := n 5 (by omega)
 obtain ⟨a0, a1, a2, a3, a4, a5, a6, a7, hw⟩ : ∃ a0 a1 a2 a3 a4 a5 a6 a7, spl 32 w = [a0, a1, a2, a3, a4, a5, a6, a7] := by
   match hs : spl 32 w, h8 with
   | [a0, a1, a2, a3, a4, a5, a6, a7], _ => exact ⟨a0, a1, a2, a3, a4, a5, a6, a7, rfl⟩
 have f : ∀ k, fld w k = wd [a0, a1, a2, a3, a4, a5, a6, a7] k := fun k => by rw [fld_wd, hw]
 have e0 : a0 = gunW := by rw [f 0] at h0; exact h0
 rw [body_six]
 unfold linG
 simp only
 rw [show (2 + 0) = 2 from rfl] at n0
 rw [show (2 + 1) = 3 from rfl] at n1
 rw [show (2 + 2) = 4 from rfl] at n2
 rw [show (2 + 3) = 5 from rfl] at n3
 rw [show (2 + 4) = 6 from rfl] at n4
 rw [show (2 + 5) = 7 from rfl] at n5
 rw [n0, n1, n2, n3, n4, n5, f 1, f 2, f 3, f 4, f 5, f 6, f 7]
 have hj := spl_join (D := [a0, a1, a2, a3, a4, a5, a6]) (w := a7) hw
 rw [hj, e0]
 simp [unS, wd, nB]
theorem sp_prG_app {l : List Gun} (hno : ∀ g ∈ l, (10 : UInt8) ∉ bodyG g) {r : List UInt8} (hr : (10 : UInt8) ∉ r) : spD 10 (prG l ++ r) = l.map bodyG ∧ spW 10 (prG l ++ r) = r := by
 induction l with
 | nil => exact sp_miss hr
 | cons p l ih =>
   have e : prG (p :: l) ++ r = bodyG p ++ 10 :: (prG l ++ r) := by simp [prG, gl_body]
   have hp := hno p (List.mem_cons_self ..)
   have ih := ih fun g hg => hno g (List.mem_cons_of_mem _ hg)
   rw [e, (sp_hit hp).1, (sp_hit hp).2, ih.1, ih.2]
   exact ⟨rfl, rfl⟩
theorem gl_len65 {l : List Gun} (hst : strE l = 0) {g : Gun} (hg : g ∈ l) : (gl g).length ≤ 65 := by
 have h1 := name_len hst hg
 have hn := nums_bd hst hg
 have b0 := dz_len5 (hn g.v (by simp [numsG]))
 have b1 := dz_len5 (hn g.x (by simp [numsG]))
 have b2 := dz_len5 (hn g.y (by simp [numsG]))
 have b3 := dz_len5 (hn g.d (by simp [numsG]))
 have b4 := dz_len5 (hn g.lo (by simp [numsG]))
 have b5 := dz_len5 (hn g.hi (by simp [numsG]))
 rw [gl_body, body_six]
 simp only [List.length_append, List.length_cons, List.length_nil, gunW]
 omega
theorem prG_len65 {l : List Gun} (hst : strE l = 0) : (prG l).length ≤ l.length * 65 := by
 have : ∀ k : List Gun, (∀ g ∈ k, g ∈ l) → (prG k).length ≤ k.length * 65 := by
   intro k
   induction k with
   | nil => intro _; simp [prG]
   | cons g k ih =>
     intro h
     have h1 := gl_len65 hst (h g (List.mem_cons_self ..))
     have h2 := ih fun x hx => h x (List.mem_cons_of_mem _ hx)
     have e : prG (g :: k) = gl g ++ prG k := rfl
     rw [e, List.length_append, List.length_cons]
     omega
 exact this l fun g hg => hg
theorem body_all {l : List Gun} (hst : strE l = 0) : (∀ g ∈ l, (10 : UInt8) ∉ bodyG g) ∧ ∀ g ∈ l, linB (bodyG g) = true ∧ linG (bodyG g) = g :=
 ⟨fun _ hg => body_no (name_bytes hst hg).2.1, fun _ hg => lin_body (name_bytes hst hg).1 (name_bytes hst hg).2.2 (nums_bd hst hg)⟩
theorem goodL_mem {D : List (List UInt8)} (h : ∀ w ∈ D, linB w = true) : goodL D = D.length := goodL_all fun _ hj => h _ (List.getElem_mem hj)
theorem par_prG {l : List Gun} (hst : strE l = 0) : parG (prG l) = ⟨l, 0, 0⟩ ∧ (spl 10 (prG l)).length = l.length + 1 := by
 obtain ⟨hno, hlin⟩ := body_all hst
 obtain ⟨d, w⟩ := sp_prG_app hno (r := []) (by simp)
 rw [List.append_nil] at d w
 have hlen := prG_len65 hst
 have h8 := strE_len hst
 have hg : goodL (l.map bodyG) = (l.map bodyG).length := goodL_mem fun x hx => by
   obtain ⟨g, hg, rfl⟩ := List.mem_map.1 hx
   exact (hlin g hg).1
 have hD : gunsD (l.map bodyG) = l := by
   unfold gunsD
   rw [List.map_map]
   conv => rhs; rw [← List.map_id l]
   exact List.map_congr_left fun g hg => (hlin g hg).2
 have hp := parG_ok (s := prG l) (by omega) (by rw [d]; exact hg) w (by rw [d, hD]; exact hst)
 rw [d, hD] at hp
 exact ⟨hp, by rw [spl, d]; simp⟩
theorem par_cut {l : List Gun} (hst : strE l = 0) : parG ((prG l).take ((prG l).length - 1)) = ⟨[], (l.length : Int) - 1, 25⟩ ∧ 1 ≤ (prG l).length := by
 obtain ⟨hno, hlin⟩ := body_all hst
 have hlen := prG_len65 hst
 have h8 := strE_len hst
 have hl : l ≠ [] := fun e => by rw [e] at h8; simp at h8
 obtain ⟨l', p, rfl⟩ : ∃ l' p, l = l' ++ [p] := ⟨l.dropLast, l.getLast hl, (List.dropLast_concat_getLast hl).symm⟩
 have e2 : prG (l' ++ [p]) = prG l' ++ bodyG p ++ [10] := by simp [prG, gl_body]
 have hpm : p ∈ l' ++ [p] := by simp
 have e3 : (prG (l' ++ [p])).take ((prG (l' ++ [p])).length - 1) = prG l' ++ bodyG p := by
   rw [e2, List.length_append, show (prG l' ++ bodyG p).length + [(10 : UInt8)].length - 1 = (prG l' ++ bodyG p).length by simp, List.take_left']
   rfl
 have hle : ((prG (l' ++ [p])).take ((prG (l' ++ [p])).length - 1)).length ≤ (prG (l' ++ [p])).length := by rw [List.length_take]; omega
 obtain ⟨d, w⟩ := sp_prG_app (l := l') (fun g hg => hno g (List.mem_append_left _ hg)) (hno p hpm)
 rw [e3] at hle ⊢
 have hg : goodL (l'.map bodyG) = (l'.map bodyG).length := goodL_mem fun x hx => by
   obtain ⟨g, hg, rfl⟩ := List.mem_map.1 hx
   exact (hlin g (List.mem_append_left _ hg)).1
 have hp := parG_left (s := prG l' ++ bodyG p) (by omega) (by rw [d]; exact hg) (by rw [w, body_six]; simp [gunW])
 rw [d] at hp
 refine ⟨?_, by rw [e2]; simp; omega⟩
 rw [hp]
 simp
theorem goodL_back : ∀ {D : List (List UInt8)}, goodL D = D.length → ∀ w ∈ D, linB w = true
 | [], _, w, hw => by cases hw
 | x :: D, h, w, hw => by
   unfold goodL at h
   split at h
   · rename_i hx
     rw [List.length_cons] at h
     rcases List.mem_cons.1 hw with rfl | hw
     · exact hx
     · exact goodL_back (by omega) w hw
   · rw [List.length_cons] at h; omega
theorem prG_gunsD : ∀ {D : List (List UInt8)}, (∀ w ∈ D, linB w = true) → prG (gunsD D) = unS 10 D
 | [], _ => rfl
 | w :: D, h => by
   have h1 := lin_back (h w (List.mem_cons_self ..))
   have h2 := prG_gunsD (D := D) fun v hv => h v (List.mem_cons_of_mem _ hv)
   have e : prG (gunsD (w :: D)) = bodyG (linG w) ++ [10] ++ prG (gunsD D) := rfl
   rw [e, h1, h2]
   simp [unS]
theorem par_back {s : List UInt8} (h : (parG s).err = 0) : prG (parG s).guns = s ∧ strE (parG s).guns = 0 := by
 unfold parG at h ⊢
 split at h
 · cases h
 split at h
 · cases h
 split at h
 · cases h
 split at h
 · rename_i hc
   exact absurd h hc
 · rename_i h1 h2 h3 h4
   rw [if_neg h1, if_neg h2, if_neg h3, if_neg h4]
   have h3 : spW 10 s = [] := by simpa using h3
   have hj := sp_join 10 s
   rw [h3, List.append_nil] at hj
   have hg : goodL (spD 10 s) = (spD 10 s).length := by have := goodL_le (spD 10 s); omega
   exact ⟨(prG_gunsD (goodL_back hg)).trans hj, by simpa using h4⟩
end Go.Proofs.YtndlfijfjglkdaaGreatDoor

namespace Go.Proofs.YtndlfijfjglkdaaGreatDoor
open Go Go.Ab Go.Proofs
theorem g66_two {H : Heap} {n : Nat} {u v : Value} {l : List Gun} (h1 : strAt H (.agg ⟨[u]⟩) = some l) (h2 : strAt H (.agg ⟨[v]⟩) = some l) (hne : l ≠ []) : g66 [.agg ⟨[u]⟩, .agg ⟨[v]⟩] H n = some (.bool true, H, n) := by
 unfold strAt at h1 h2
 split at h1
 · injection h1 with h1; exact absurd h1.symm hne
 · rename_i a len c e1
   injection e1 with e1; injection e1 with e1; injection e1 with e1 _
   subst e1
   split at h2
   · injection h2 with h2; exact absurd h2.symm hne
   · rename_i b len2 c2 e2
     injection e2 with e2; injection e2 with e2; injection e2 with e2 _
     subst e2
     simp only [g66, h1, h2, if_true]
   · cases h2
 · cases h1
theorem strAt_len {H : Heap} {v : Value} {l : List Gun} (h : strAt H (.agg ⟨[v]⟩) = some l) : ∃ oa c, v = .slice oa l.length c := by
 unfold strAt at h
 split at h
 · rename_i e
   injection e with e; injection e with e; injection e with e _
   injection h with h
   exact ⟨none, 0, by rw [e, ← h]; rfl⟩
 · rename_i a len c e
   injection e with e; injection e with e; injection e with e _
   have : len = l.length := (gunsAt_ok h).2.2.1.symm
   exact ⟨some a, c, by rw [e, this]⟩
 · cases h
abbrev vs17 : List Nat := [1, 2, 4, 5, 6, 7, 8, 9, 10, 11, 12, 13, 14, 15, 16, 17]
set_option maxRecDepth 20000 in
set_option maxHeartbeats 4000000 in
theorem w17z {T X : Heap} {n N : Nat} {v : Value} {l : List Gun} {s : List UInt8} (hM : M16 T X n N v l) (hst : strE l = 0) :
   E Tryz.prog n none (cFrom (bodyOf Tryz.f17) 6) { fr := [(1, sL s), (2, .pointer (some ⟨n, 0, none⟩)), (4, .bool false), (5, sL (prG l))], sz := 110, H := X, n := N, marks := [], vs := vs17 } (pureK Tryz.prog Tryz.f17 T (.bool true)) := by
 have hr := recT_ok (P := Tryz.prog) (l := [(104, g104)]) (by simp only [List.forall_mem_cons]; exact ⟨ok104, by simp⟩)
 have hm := hM.mem
 obtain ⟨hcut, hpos⟩ := par_cut hst
 have hlen := prG_len65 hst
 have h8 := strE_len hst
 obtain ⟨S, hS⟩ : ∃ S, prG l = S := ⟨_, rfl⟩
 rw [hS] at hcut hpos hlen ⊢
 obtain ⟨k, hk⟩ : ∃ k, S.length = k + 1 := ⟨S.length - 1, by omega⟩
 rw [hk, Nat.add_sub_cancel] at hcut
 have hwk : IntKind.i64.wrap (k : Int) = (k : Int) := W_in (by omega) (by omega)
 have hsl := slice_hiL (s := S) (b := k) (by omega)
 obtain ⟨R, hR⟩ : ∃ R, S.take k = R := ⟨_, rfl⟩
 rw [hR] at hcut hsl
 have hRl : R.length < 2147483648 := by rw [← hR, List.length_take]; omega
 have h104 := g104_at (H := X) (n := N) hRl hM.lib
 rw [hcut] at h104
 obtain ⟨m2, s2⟩ := hm.put (b := Blk.cells [.slice none 0 0] 32) rfl
 obtain ⟨oa, c, hv⟩ := strAt_len hM.str
 have hb0 := hM.box0
 have hc0 : cellA X n 0 = some v := by rw [cellA_eq, hb0]; rfl
 have hnN : n < N := hm.lt hb0
 have hc0' : cellA ((N + 1, Blk.cells [.slice none 0 0] 32) :: X) n 0 = some v := by
   rw [cellA_eq, hget_cons, if_neg (by omega), hb0]; rfl
 have hw1 : IntKind.i64.wrap ((l.length : Int) - 1) = (l.length : Int) - 1 := W_in (by omega) (by omega)
 have hkI : IntKind.i64.wrap ((k : Int) + 1 - 1) = (k : Int) := by rw [Int.add_sub_cancel]; exact hwk
 subst hv
 refine E.seq ?_
 refine E.reg hr (by simp [opSlice, evI, hk, hwk, hsl, h104, outSB]; rfl) ?_
 refine E.seq ?_
 refine E.reg hr (by simp [-cellA, hc0', hw1]; rfl) ?_
 refine E.ret ?_
 refine pureK.ret rfl rfl (by simp) (hM.sub.trans ?_)
 intro j b hj
 have := hm.lt hj
 rw [hget_cons, if_neg (by omega)]
 exact hj
set_option maxRecDepth 20000 in
set_option maxHeartbeats 4000000 in
theorem w17y {T X : Heap} {n N : Nat} {v : Value} {l : List Gun} {s : List UInt8} (hM : M16 T X n N v l) (hst : strE l = 0) (hs : s.length < 2147483648) :
   E Tryz.prog n none (cFrom (bodyOf Tryz.f17) 5) { fr := [(1, sL s), (2, .pointer (some ⟨n, 0, none⟩)), (4, .bool false), (5, sL (prG l))], sz := 110, H := X, n := N, marks := [], vs := vs17 } (pureK Tryz.prog Tryz.f17 T (.bool true)) := by
 have hr := recT_ok (P := Tryz.prog) (l := [(103, g103), (104, g104)]) (by simp only [List.forall_mem_cons]; exact ⟨ok103, ok104, by simp⟩)
 have hm := hM.mem
 have h104 := g104_at (H := X) (n := N) hs hM.lib
 have hQ := parG_short hs
 obtain ⟨m1, s1⟩ := hm.sb (t := 95) (sz := 7) (k := (parG s).guns.length) (cs := gcs (parG s).guns) rfl
 obtain ⟨Q, hQe⟩ : ∃ Q, (parG s).guns = Q := ⟨_, rfl⟩
 obtain ⟨S, hS⟩ : ∃ S, prG l = S := ⟨_, rfl⟩
 by_cases he : (parG s).err = 0
 · obtain ⟨hb1, hb2⟩ := par_back he
   rw [hQe] at hb1 hb2 hQ h104 m1 s1
   have hql := strE_len hb2
   have hq0 : Q.length ≠ 0 := by omega
   rw [he] at h104
   rw [outSB, if_neg hq0] at h104 m1 s1
   rw [outS_ne hq0] at h104
   obtain ⟨Y, hY⟩ : ∃ Y, [(N, Blk.ext (gcs Q) 95 7)] ++ X = Y := ⟨_, rfl⟩
   rw [hY] at h104 m1 s1
   have hNY : hget Y N = some (.ext (gcs Q) 95 7) := by rw [← hY, List.singleton_append, hget_cons, if_pos rfl]
   obtain ⟨m2, s2⟩ := m1.put (b := Blk.cells [.slice (some ⟨N, 0, some 0⟩) Q.length 0] 32) rfl
   obtain ⟨Z, hZ⟩ : ∃ Z, (N + 1, Blk.cells [.slice (some ⟨N, 0, some 0⟩) Q.length 0] 32) :: Y = Z := ⟨_, rfl⟩
   rw [hZ] at m2 s2
   have hS2 := s1.trans s2
   have hO : OwnS Z (.agg ⟨[.slice (some ⟨N, 0, some 0⟩) Q.length 0]⟩) Q := .inl ⟨_, rfl, N, rfl, .inl (s2 _ _ hNY), by omega, by omega⟩
   have h103 := fun m => g103_at (n := m) hO (hM.lib.more hS2).tab
   have hpr : prV Q = s := by rw [prV, if_pos hb2, hb1]
   rw [hpr, hb2] at h103
   have hcz : cellsA Z (N + 1) 0 1 = some [.slice (some ⟨N, 0, some 0⟩) Q.length 0] := by rw [cellsA_eq, ← hZ, hget_cons, if_pos rfl]; rfl
   have key := w17z (s := s) (hM.more hS2 m2) hst
   obtain ⟨at', hat⟩ : ∃ a, (parG s).at' = a := ⟨_, rfl⟩
   rw [hat] at h104
   rw [hS] at key ⊢
   refine E.seq ?_
   refine E.seq ?_
   refine E.reg hr (by simp [h104]; rfl) ?_
   rw [hZ]
   refine E.seq ?_
   refine E.reg hr (by simp; rfl) ?_
   refine E.cond (t := true) (by simp) (fun _ => ?_) (fun h => by cases h)
   refine E.seq ?_
   refine E.reg hr (by simp [-cellsA, hcz, h103]; rfl) ?_
   refine E.seq ?_
   refine E.reg hr (by simp; rfl) ?_
   refine E.cond (t := false) (by simp) (fun h => by cases h) (fun _ => ?_)
   refine E.skip ?_
   refine E.lead _ ?_ key
   exact .keep rfl rfl rfl (by simp) (Sub.refl _)
 · obtain ⟨Y, hY⟩ : ∃ Y, outSB N 95 7 (parG s).guns.length (gcs (parG s).guns) ++ X = Y := ⟨_, rfl⟩
   rw [hY] at h104 m1 s1
   obtain ⟨u, hu⟩ : ∃ u, outS N (parG s).guns.length = u := ⟨_, rfl⟩
   rw [hu] at h104
   obtain ⟨oa, k, c, e7⟩ : ∃ oa k c, u = .slice oa k c := by
     rw [← hu]
     by_cases h : (parG s).guns.length = 0
     · rw [h]; exact ⟨none, 0, 0, rfl⟩
     · rw [outS_ne h]; exact ⟨_, _, _, rfl⟩
   obtain ⟨m2, s2⟩ := m1.put (b := Blk.cells [u] 32) rfl
   have key := w17z (s := s) (hM.more (s1.trans s2) m2) hst
   obtain ⟨at', hat⟩ : ∃ a, (parG s).at' = a := ⟨_, rfl⟩
   obtain ⟨e, hee⟩ : ∃ e, (parG s).err = e := ⟨_, rfl⟩
   rw [hat, hee] at h104
   rw [hee] at he
   rw [hS] at key ⊢
   subst e7
   refine E.seq ?_
   refine E.seq ?_
   refine E.reg hr (by simp [h104]; rfl) ?_
   refine E.seq ?_
   refine E.reg hr (by simp; rfl) ?_
   refine E.cond (t := false) (by simp [he]) (fun h => by cases h) (fun _ => ?_)
   refine E.skip ?_
   refine E.lead _ ?_ key
   exact .keep rfl rfl rfl (by simp) (Sub.refl _)
set_option maxRecDepth 20000 in
set_option maxHeartbeats 4000000 in
theorem w17x {T X : Heap} {n N p : Nat} {v u7 : Value} {l : List Gun} {s : List UInt8} (hM : M16 T X n N v l) (hst : strE l = 0) (hs : s.length < 2147483648) (hp : hget X p = some (.cells [u7] 32)) (hs7 : strAt X (.agg ⟨[u7]⟩) = some l) :
   E Tryz.prog n none (cFrom (bodyOf Tryz.f17) 4) { fr := [(1, sL s), (2, .pointer (some ⟨n, 0, none⟩)), (4, .bool false), (5, sL (prG l)), (6, iv 0), (7, .pointer (some ⟨p, 0, none⟩)), (8, iv 0), (9, iv 0)], sz := 110, H := X, n := N, marks := [], vs := vs17 } (pureK Tryz.prog Tryz.f17 T (.bool true)) := by
 have hr := recT_ok (P := Tryz.prog) (l := [(55, g55), (66, g66), (107, g107A)]) (by simp only [List.forall_mem_cons]; exact ⟨ok55, ok66, ok107A, by simp⟩)
 have hm := hM.mem
 have h8 := strE_len hst
 have hne : l ≠ [] := fun e => by rw [e] at h8; simp at h8
 have hlen := prG_len65 hst
 obtain ⟨_, hspl⟩ := par_prG hst
 obtain ⟨x, Z, B, Y, N2, b1, b2, b3, b4, ⟨M7, b5, b6⟩, s2, m2, b9⟩ := hm.toldF hs7 (by omega)
 have h66 : ∀ m, g66 [.agg ⟨[x]⟩, .agg ⟨[v]⟩] Y m = some (.bool true, Y, m) := fun m => g66_two b6 (strAt_mono s2 hM.str) hne
 obtain ⟨S, hS⟩ : ∃ S, prG l = S := ⟨_, rfl⟩
 rw [hS] at hspl hlen ⊢
 obtain ⟨m3, s3⟩ := m2.put (b := spB 10 S) (spB_pl _ _)
 have h107 : g107A [sL S, .int .u8 10] (frzH Y) N2 = some (.slice (some (spA N2 10 S)) (spl 10 S).length (spC 10 S), (N2, spB 10 S) :: frzH Y, N2 + 1) := g107A_10 (s := S) (H := frzH Y) (n := N2) (by omega)
 rw [hspl] at h107
 obtain ⟨A, hA⟩ : ∃ A, spA N2 10 S = A := ⟨_, rfl⟩
 rw [hA] at h107
 obtain ⟨d2, d3⟩ := take_app (N' := N2 + 1) m2 (B := [(N2, spB 10 S)]) fun x hx => by
   rw [List.mem_singleton] at hx
   subst hx
   exact ⟨Nat.le_refl _, Nat.lt_succ_self _⟩
 obtain ⟨Zf, hZf⟩ : ∃ Zf, (N2, spB 10 S) :: frzH Y = Zf := ⟨_, rfl⟩
 rw [show [(N2, spB 10 S)] ++ frzH Y = Zf from hZf] at d2
 rw [hZf] at h107
 have key2 := w17y (s := s) (hM.more (s2.trans s3) m3) hst hs
 rw [hS] at key2
 have hpN : p < N := hm.lt hp
 have hnN : n < N := hm.lt hM.box0
 obtain ⟨oa, c, hv⟩ := strAt_len hM.str
 have c7 : cellsA X p 0 1 = some [u7] := by rw [cellsA_eq, hp]; rfl
 have cn : cellsA X n 0 1 = some [v] := hM.read
 have cn1 : cellA X n 0 = some v := by rw [cellA_eq, hM.box0]; rfl
 have cy : cellsA Y n 0 1 = some [v] := by rw [cellsA_eq, s2 _ _ hM.box0]; rfl
 have cy1 : cellA Y n 0 = some v := by rw [cellA_eq, s2 _ _ hM.box0]; rfl
 have cz1 : cellA ((N2, spB 10 S) :: Y) n 0 = some v := s3.cell cy1
 have hw1 : IntKind.i64.wrap ((l.length : Int) + 1) = (l.length : Int) + 1 := W_in (by omega) (by omega)
 have htk := takeNew_frz hm.1
 subst hv
 refine E.seq ?_
 refine E.seq ?_
 refine E.drawU mixed hr [14] [12, 14, 19] [11, 12, 14, 19] (by kernel_rfl) (by simp [-cellsA, -cellA, -readA, cellA_read, cellsA_read, hm.1, hm.2, m2.1, m2.2, hpN, hnN, c7, cy, cz1, b1, b2, b3, b4, b9, h66, h107, d2, d3, hw1]; rfl) ?_
 refine E.cond (t := false) (by simp) (fun h => by cases h) (fun _ => ?_)
 refine E.skip ?_
 refine E.lead _ ?_ key2
 exact .keep rfl rfl rfl (by simp) (Sub.refl _)
set_option maxRecDepth 20000 in
set_option maxHeartbeats 4000000 in
theorem w17w {T X : Heap} {n N : Nat} {v : Value} {l : List Gun} {s : List UInt8} (hM : M16 T X n N v l) (hst : strE l = 0) (hs : s.length < 2147483648) :
   E Tryz.prog n none (cFrom (bodyOf Tryz.f17) 2) { fr := [(1, sL s), (2, .pointer (some ⟨n, 0, none⟩)), (4, .bool false)], sz := 110, H := X, n := N, marks := [], vs := vs17 } (pureK Tryz.prog Tryz.f17 T (.bool true)) := by
 have hr := recT_ok (P := Tryz.prog) (l := [(21, g21), (103, g103), (104, g104)]) (by simp only [List.forall_mem_cons]; exact ⟨ok21, ok103, ok104, by simp⟩)
 have hm := hM.mem
 have r1 := hM.read
 have h8 := strE_len hst
 have hlen := prG_len65 hst
 obtain ⟨hpar, _⟩ := par_prG hst
 obtain ⟨x, Y1, N1, a1, a2, s1, m1⟩ := hm.ownN hM.str (by omega)
 have h103 := fun m => g103_at (n := m) a2 (hM.lib.more s1).tab
 have hpr : prV l = prG l := if_pos hst
 rw [hpr, hst] at h103
 have h104 := g104_at (s := prG l) (H := Y1) (n := N1) (by omega) (hM.lib.more s1)
 rw [hpar] at h104
 obtain ⟨m2, s2⟩ := m1.sb (t := 95) (sz := 7) (k := l.length) (cs := gcs l) rfl
 have hat := strAt_sb (H := Y1) (N := N1) (l := l) (Z := []) (t := 95) (by omega)
 rw [List.append_nil] at hat
 obtain ⟨Y2, hY2⟩ : ∃ Y, outSB N1 95 7 l.length (gcs l) ++ Y1 = Y := ⟨_, rfl⟩
 dsimp only at h104
 rw [hY2] at h104 m2 s2 hat
 obtain ⟨u, hu⟩ : ∃ u, outS N1 l.length = u := ⟨_, rfl⟩
 rw [hu] at h104 hat
 obtain ⟨oa, k, c, e7⟩ : ∃ oa k c, u = .slice oa k c := by
   rw [← hu]
   by_cases h : l.length = 0
   · rw [h]; exact ⟨none, 0, 0, rfl⟩
   · rw [outS_ne h]; exact ⟨_, _, _, rfl⟩
 obtain ⟨m3, s3⟩ := m2.put (b := Blk.cells [u] 32) rfl
 have hS := s1.trans (s2.trans s3)
 have key := w17x (s := s) (hM.more hS m3) hst hs (p := N1 + 1) (u7 := u) (by rw [hget_cons, if_pos rfl]) (strAt_mono s3 hat)
 obtain ⟨t, ht⟩ : ∃ t, prG l = t := ⟨_, rfl⟩
 rw [ht] at h103 h104 key
 subst e7
 refine E.seq ?_
 refine E.reg hr (by simp [-cellsA, r1, a1, h103]; rfl) ?_
 refine E.seq ?_
 refine E.reg hr (by simp [h104]; rfl) ?_
 refine E.lead _ ?_ key
 exact .keep rfl rfl rfl (by simp) (Sub.refl _)
set_option maxRecDepth 20000 in
set_option maxHeartbeats 4000000 in
theorem w17 {H : Heap} {n : Nat} {v : Value} {l : List Gun} {s : List UInt8} (g0 : hget H 0 = some (.inp 0 names0)) (hL : LibOk H) (hs : strAt H (.agg ⟨[v]⟩) = some l) : AC Tryz.prog 17 [.agg ⟨[v]⟩, sL s] H n (.bool true) H n := by
 refine AC.given fun hold _ _ => AC.tidied (B := []) (by simp) ?_
 have hlt0 := fun k b h => (hold k b h).1
 replace g0 : hget (tidy n H) 0 = some (.inp 0 names0) := hget_tidy.2 ⟨g0, hlt0 _ _ g0, rfl⟩
 replace hL := hL.tidied hlt0
 replace hs := strAt_tidy hlt0 hs
 have hr := recT_ok (P := Tryz.prog) (l := [(18, g18T), (52, gStr fun l => .bool (validB l))]) (by simp only [List.forall_mem_cons]; exact ⟨ok18T, ok52, by simp⟩)
 have hM : MemOk n (tidy n H) := ⟨namesOk_tidy, by simp⟩
 obtain ⟨hM1, hS0⟩ := hM.put (b := Blk.cells [v] 24) rfl
 obtain ⟨X0, hX0⟩ : ∃ X0, (n, Blk.cells [v] 24) :: tidy n H = X0 := ⟨_, rfl⟩
 rw [hX0] at hM1 hS0
 have hb0 : hget X0 n = some (.cells [v] 24) := by rw [← hX0, hget_cons, if_pos rfl]
 have h18 : ∀ m, g18T [] X0 m = some (.bool true, X0, m) := fun m => g18T_at (hS0 _ _ g0) (hS0 _ _ hL.tab)
 have r1 : cellsA X0 n 0 1 = some [v] := by rw [cellsA_eq, hb0]; rfl
 have hs0 := strAt_mono hS0 hs
 have h52 : ∀ m, gStr (fun l => .bool (validB l)) [.agg ⟨[v]⟩] X0 m = some (.bool (validB l), X0, m) := fun m => by
   simp only [gStr, hs0, Option.map_some]
 refine AC.pure Tryz.func17 rfl (by kernel_rfl) rfl vs17 rfl ?_
 refine E.seq ?_
 refine E.reg hr (by simp; rfl) ?_
 rw [hX0]
 refine E.seq ?_
 refine E.seq ?_
 cases hvb : validB l with
 | false =>
   rw [hvb] at h52
   refine E.reg hr (by simp [-cellsA, h18, r1, h52, undefV]; rfl) ?_
   refine E.cond (t := true) (by simp) (fun _ => ?_) (fun h => by cases h)
   refine E.seq ?_
   refine E.reg hr (by simp [h18]; rfl) ?_
   refine E.ret ?_
   exact pureK.ret rfl rfl (by simp) hS0
 | true =>
   rw [hvb] at h52
   have hst : strE l = 0 := by
     unfold validB at hvb
     simp only [Bool.and_eq_true, decide_eq_true_eq] at hvb
     exact hvb.2
   have hM16 : M16 (tidy n H) X0 n (n + 1) v l := ⟨hS0, hM1, hS0 _ _ g0, hL.more hS0, hb0, hs0⟩
   by_cases h3 : s.length ≤ 300
   · have h3I : ¬ (300 : Int) < s.length := by omega
     have key := w17w (s := s) hM16 hst (by omega)
     refine E.reg hr (by simp [-cellsA, h18, r1, h52, h3I]; rfl) ?_
     refine E.cond (t := false) (by simp) (fun h => by cases h) (fun _ => ?_)
     refine E.skip ?_
     refine E.lead _ ?_ key
     exact .keep rfl rfl rfl (by simp) (Sub.refl _)
   · have h3I : (300 : Int) < s.length := by omega
     refine E.reg hr (by simp [-cellsA, h18, r1, h52, h3I]; rfl) ?_
     refine E.cond (t := true) (by simp) (fun _ => ?_) (fun h => by cases h)
     refine E.seq ?_
     refine E.reg hr (by simp [h18]; rfl) ?_
     refine E.ret ?_
     exact pureK.ret rfl rfl (by simp) hS0
end Go.Proofs.YtndlfijfjglkdaaGreatDoor

namespace Go.Proofs.YtndlfijfjglkdaaGreatDoor
open Go Go.Ab Go.Proofs Go.ChangeShapes Go.WideShapes Go.ChangeAt Go.RowKit
theorem params17 : Tryz.f17.params = #[24, 9] := by kernel_rfl
namespace gunBack
set_option maxRecDepth 100000 in
theorem contract (H : Type) (enc : TypeId × Value → H) (W : World) (base : Nat) (args : Array Value) (ds gs : List (DataW H)) (before : List MemPlace)
   (hval : ∀ (j : Nat) t v, Tryz.f17.params[j]? = some t → args[j]? = some v → Value.okWide Tryz.prog W .any base t v)
   (hW : DataW.Whole enc Tryz.prog Tryz.f17.params.toList Rows.gunBackSpec.vars false W args.toList ds gs before) (hL : laidMetH Tryz.prog Rows.gunBackRow.laid W) :
   Calls Tryz.prog 17 args W fun e W' => ∃ v, e = .returned v ∧ Rows.gunBackSpec.post enc Tryz.prog Tryz.f17 false true false false W args v W' := by
 have hW' := hW
 obtain ⟨p, q, hA0, hV, rfl, hfz, hnd⟩ := hW
 have hA : DataW.TrodAll enc Tryz.prog W 0 (fun _ => true) true Tryz.f17.params.toList args.toList ds p := hA0
 rw [params17] at hA hval
 obtain ⟨v0, vs0, d0, ds0, p0, q0, hargs, rfl, rfl, h0, r0⟩ := trodAll_cons hA
 obtain ⟨v1, vs1, d1, ds1, p1, q1, rfl, rfl, rfl, h1, r1⟩ := trodAll_cons r0
 obtain ⟨rfl, rfl, rfl⟩ := trodAll_nil r1
 obtain rfl : args = #[v0, v1] := by cases args; simp_all
 obtain ⟨b0, o0, cs0, sl, l, a1, a2, a3, a4, a5⟩ := repG (lies0T hL) (open_str (hval 0 24 v0 rfl rfl) h0)
 obtain ⟨s, rfl⟩ : ∃ s, v1 = .string s := okWide_string (P := Tryz.prog) Tryz.underlying9 (hval 1 9 v1 rfl rfl)
 have es : Value.string s = sL s.data.toList := by rw [sL, bA_data]
 have hc : Calls Tryz.prog 17 #[v0, .string s] W fun e W' => e = .returned (.bool true) ∧ Below W.heap.size W W' := by
   rw [es]
   exact lawGT (f := 17) (by kernel_rfl) (lies0T hL) (tab3T hL) (err6T hL) (err7T hL) (us := [sL s.data.toList]) a1 a2 a3 a4 a5 rfl fun H g0 gl hs => w17 g0 gl hs
 refine hc.mono fun e W' ⟨he, hb⟩ => ⟨_, he, ?_⟩
 refine lawPost ?_ rfl rfl rfl hW' hb
 intro t ht
 rw [params17] at ht
 simp at ht
 rcases ht with rfl | rfl
 · exact ⟨by kernel_rfl, by rw [show Tryz.prog.types.size = 405 by kernel_rfl]; decide⟩
 · exact ⟨by kernel_rfl, by rw [show Tryz.prog.types.size = 405 by kernel_rfl]; decide⟩
abbrev wit : Array Value := #[.agg #[.slice none 0 0], .string ByteArray.empty]
theorem reads (os : Os) {H : Type} (enc : TypeId × Value → H) : ∃ ds places, DataW.whole enc Tryz.prog ((laidWorldT os).forCall (fun _ _ => 0) ⟨#[], wit, []⟩).memory Tryz.f17.params.toList Rows.gunBackSpec.vars false wit.toList 8 = some (ds, [], places) :=
 ⟨[.agg [.nil], .lit (.string [])], [], by kernel_rfl⟩
set_option maxRecDepth 100000 in
theorem lifted (os : Os) (started : os.Started) (H : Type) (enc : TypeId × Value → H) (F : Stop.Interp) :
   ReturnsInHanded {} Tryz.checked os 17 .any ((OpenSpec.ofChange Rows.gunBackSpec).preRow enc Tryz.prog Tryz.f17 Rows.gunBackRow.domain false Rows.gunBackRow.laid) (((OpenSpec.ofChange Rows.gunBackSpec).at F).post enc Tryz.prog Tryz.f17 false true false false) := by
 obtain ⟨ds, places, hx⟩ := reads os enc
 refine returnsInHanded_of_row (C := Tryz.checked) (s := OpenSpec.ofChange Rows.gunBackSpec) own started (by kernel_rfl) Tryz.func17
   (witness_row_at (enc := enc) (C := Tryz.checked) false (laidWorldT os) wit rfl (by kernel_rfl) (by kernel_rfl) (by kernel_rfl)
     (OpenSpec.preRow_of_cond 8 hx (by kernel_rfl) (fun k hk => by cases hk) (by kernel_rfl) (laid_metT os _ _))) ?_
 intro W base args ds gs before hval hW _ _ _ hL _ _
 exact contract H enc W base args ds gs before hval hW hL
end gunBack
end Go.Proofs.YtndlfijfjglkdaaGreatDoor
