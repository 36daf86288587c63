/-
The walk through what TopSpraySilent reaches, and the plain law behind it (no condition).
-/
import Derived.Test.YtljglocehbccnaaTb
import Derived.Test.YtljglocehbccnaaAh
namespace Go.Proofs.Ytljglocehbccnaa
open Go Go.Ab Go.Proofs
set_option maxRecDepth 20000
theorem firstV_app (l k : List Int) : firstV (l ++ k) = if firstV l = 0 then firstV k else firstV l := by
  induction l with
  | nil => simp [firstV]
  | cons e l ih =>
    simp only [List.cons_append, firstV]
    by_cases h : e = 0
    · simp [h, ih]
    · simp [h]
def scanV (f : Nat → Int) (n : Nat) : Int := firstV ((List.range n).map f)
theorem scanV_succ (f : Nat → Int) (n : Nat) : scanV f (n + 1) = if scanV f n = 0 then f n else scanV f n := by
  unfold scanV
  rw [List.range_succ, List.map_append, firstV_app]
  simp only [List.map_cons, List.map_nil, firstV]
  split
  · split
    · rename_i h; rw [h]
    · rfl
  · rfl
theorem scanV_zero {f : Nat → Int} {n : Nat} (h : ∀ j, j < n → f j = 0) : scanV f n = 0 := by
  induction n with
  | zero => rfl
  | succ n ih => rw [scanV_succ, ih fun j hj => h j (by omega), if_pos rfl, h n (by omega)]
theorem scanV_hit {f : Nat → Int} {n i : Nat} (hi : i < n) (h : f i ≠ 0) (hj : ∀ j, j < i → f j = 0) : scanV f n = f i := by
  induction n with
  | zero => omega
  | succ n ih =>
    rw [scanV_succ]
    by_cases he : i = n
    · subst he; rw [scanV_zero hj, if_pos rfl]
    · rw [ih (by omega), if_neg h]
theorem scanV_all {f : Nat → Int} {n : Nat} (h : scanV f n = 0) : ∀ j, j < n → f j = 0 := by
  induction n with
  | zero => intro j hj; omega
  | succ n ih =>
    rw [scanV_succ] at h
    split at h
    · rename_i h0
      intro j hj
      by_cases he : j = n
      · subst he; exact h
      · exact ih h0 j (by omega)
    · rename_i h0; exact absurd h h0
def g77 (args : List Value) (H : Heap) (n : Nat) : R := match args with
  | [.int .i64 i, .agg ⟨[.int .i64 t, .int .i64 x, .int .i64 y]⟩, .pointer (some ⟨k, 0, none⟩)] => match hget H k with
    | some (.cells [v] 44) => (sigV H v).bind fun l => if 0 ≤ i ∧ i.toNat < l.length then some (iv (sgE l i.toNat ⟨t, x, y⟩), H, n) else none
    | _ => none
  | _ => none
theorem ok77 : EntOk Try.prog (77, g77) := by
  intro args H n v H' n' h
  simp only [g77] at h
  split at h
  · rename_i i t x y k
    split at h
    · rename_i v hk
      rw [Option.bind_eq_some_iff] at h
      obtain ⟨l, h4, h⟩ := h
      split at h
      · rename_i hi
        obtain ⟨i', rfl⟩ := Int.eq_ofNat_of_zero_le hi.1
        injection h with h; injection h with e1 e2; injection e2 with e2 e3; subst e1 e2 e3
        exact w77 ⟨_, _, _⟩ hk h4 hi.2
      · cases h
    · cases h
  · cases h
abbrev sgF (k : Nat) : Value := .func (.func 77) #[] #[.pointer (some ⟨k, 0, none⟩)]
theorem w76 {H : Heap} {n k : Nat} {v v' : Value} {l : List Sg} (hk : hget H k = some (.cells [v'] 44)) (hS : sigV H v' = some l) (hV : sigV H v = some l) : AC Try.prog 76 [v, iv (64 : Nat), sgF k] H n (iv (if 64 < l.length then 5 else scanV (fun i => sgE l i (l.getD i ⟨0, 0, 0⟩)) l.length)) H n := by
  refine AC.given fun hold hsc _ => AC.tidied (B := []) (by simp) ?_
  replace hk : hget (tidy n H) k = some (.cells [v'] 44) := hget_tidy.2 ⟨hk, (hold _ _ hk).1, rfl⟩
  replace hS : sigV (tidy n H) v' = some l := listV_tidy decG_tidy (fun k b h => (hold k b h).1) hS
  have hkn : k < n := tidy_lt _ _ hk
  replace hV : sigV (tidy n H) v = some l := listV_tidy decG_tidy (fun k b h => (hold k b h).1) hV
  have hr := recT_ok (P := Try.prog) (l := [(77, g77)]) (by simp [ok77])
  obtain ⟨oa, c, rfl, hlt, hrow⟩ := sigV_form hV
  have hg : ∀ i (_ : i < l.length) (q : Sg) (m : Nat), g77 [iv i, .agg ⟨[iv q.tk, iv q.x, iv q.y]⟩, .pointer (some ⟨k, 0, none⟩)] ((n, .cells [iv q.tk, iv q.x, iv q.y] 90) :: tidy n H) m = some (iv (sgE l i q), (n, .cells [iv q.tk, iv q.x, iv q.y] 90) :: tidy n H, m) := fun i hi q m => by
    have e1 : hget ((n, .cells [iv q.tk, iv q.x, iv q.y] 90) :: tidy n H) k = some (.cells [v'] 44) := by rw [hget_cons, if_neg (by omega)]; exact hk
    have e2 : sigV ((n, .cells [iv q.tk, iv q.x, iv q.y] 90) :: tidy n H) v' = some l := listV_mono decG_mono (Sub.cons (by simp) (Sub.refl _)) hS
    simp only [g77, e1]
    show (sigV _ v').bind _ = _
    rw [e2]
    simp [hi]
  have hold2 := tidy_old hold
  have hsa : sc (· < n) (.slice oa l.length c) := hsc.1
  have hsb : sc (· < n) (sgF k) := hsc.2.2.1
  obtain ⟨F, hF⟩ : ∃ F : Value, sgF k = F := ⟨_, rfl⟩
  refine AC.pure Try.func76 rfl (by kernel_rfl) rfl [2, 14, 15, 16] rfl ?_
  refine E.seq ?_
  refine E.reg hr (by simp; rfl) ?_ -- region 0
  refine E.seq ?_
  refine E.seq ?_
  refine E.reg hr (by simp; rfl) ?_ -- region 1
  by_cases hm : 64 < l.length
  · have hm' : (64 : Int) < l.length := by omega
    rw [if_pos hm]
    refine E.cond (t := true) (by simp [hm']) (fun _ => ?_) (fun h => by cases h)
    refine E.seq ?_
    refine E.reg hr (by simp; rfl) ?_ -- region 2
    refine E.ret ?_
    exact pureK.ret rfl rfl (by simp) (Sub.refl _)
  have hm' : ¬ (64 : Int) < l.length := by omega
  rw [if_neg hm]
  refine E.cond (t := false) (by simp [hm']) (fun h => by cases h) (fun _ => ?_)
  refine E.skip ?_
  refine E.seq ?_
  refine E.seq ?_
  refine E.reg hr (by simp; rfl) ?_ -- region 3
  refine E.block ?_ -- 0
  refine E.loop ?_
  refine EL.ind (fun i : Nat => { fr := [(2, sgF k), (14, .slice oa l.length c), (15, iv l.length), (16, iv i)], sz := 29, H := tidy n H, n := n, marks := [], vs := [2, 14, 15, 16] }) (fun i => l.length - i) (fun i => i ≤ l.length ∧ ∀ j (h : j < l.length), j < i → sgE l j (l.getD j ⟨0, 0, 0⟩) = 0) 0 (.keep rfl rfl rfl (by simp) (Sub.refl _)) ⟨Nat.zero_le _, fun j _ hj => by omega⟩ (fun _ => rfl) ?_
  rintro i ⟨hi, hg2⟩
  have hw : IntKind.i64.wrap ((i : Int) + 1) = (i : Int) + 1 := W_in (by omega) (by omega)
  refine E.seq ?_
  refine E.reg hr (by simp; rfl) ?_ -- region 4
  refine E.seq ?_
  by_cases hil : i < l.length
  · obtain ⟨a, rfl, hf, hc⟩ := hrow i hil
    have hld := load90 (s := none) hc
    have hgd : l.getD i ⟨0, 0, 0⟩ = l[i] := by rw [List.getD_eq_getElem?_getD, List.getElem?_eq_getElem hil]; rfl
    have hcall := hg i hil l[i]
    have hit := fun (h : sgE l i (l.getD i ⟨0, 0, 0⟩) ≠ 0) => scanV_hit (f := fun i => sgE l i (l.getD i ⟨0, 0, 0⟩)) hil h fun j hj => hg2 j (by omega) hj
    rw [hgd] at hit
    obtain ⟨q, hq⟩ : ∃ q, l[i] = q := ⟨_, rfl⟩
    rw [hq] at hld hcall hit
    obtain ⟨e, he⟩ : ∃ e, sgE l i q = e := ⟨_, rfl⟩
    rw [he] at hcall hit
    refine E.cond (t := true) (by simp [hil]) (fun _ => ?_) (fun h => by cases h)
    refine E.skip ?_
    refine E.seq ?_
    refine E.block ?_ -- 1
    refine E.seq ?_
    refine E.reg hr (by simp [-loadA, -flat, hil, hf, hld]; rfl) ?_ -- region 5
    refine E.seq ?_
    refine E.reg hr (by simp [run_vcall_tmp, vcallF, target, hcall]; rfl) ?_ -- region 6
    refine E.seq ?_
    refine E.reg hr (by simp; rfl) ?_ -- region 7
    by_cases h4 : e = 0
    · refine E.cond (t := false) (by simp [h4]) (fun h => by cases h) (fun _ => ?_)
      refine E.skip ?_
      refine E.reg hr (by simp [hw]; rfl) ?_ -- region 9
      exact ⟨i + 1, .back rfl hold2 (Sub.cons (by simp) (Sub.refl _)) rfl rfl ⟨rfl, rfl⟩ (by simp [-sc, hsa, hsb]; exact ⟨trivial, trivial⟩), ⟨hil, fun j h hj => if e' : j = i then by subst e'; rw [hgd, hq, he]; exact h4 else hg2 j h (by omega)⟩, by dsimp only; omega⟩
    · have h5 := hit h4
      refine E.cond (t := true) (by simp [h4]) (fun _ => ?_) (fun h => by cases h)
      refine E.seq ?_
      refine E.reg hr (by simp; rfl) ?_ -- region 8
      refine E.ret ?_
      exact pureK.ret rfl rfl (by rw [h5]; simp) (Sub.cons (by simp) (Sub.refl _))
  · have h5 := scanV_zero (f := fun i => sgE l i (l.getD i ⟨0, 0, 0⟩)) (n := l.length) fun j hj => hg2 j hj (by omega)
    refine E.cond (t := false) (by simp [hil]) (fun h => by cases h) (fun _ => ?_)
    refine E.exit ?_ -- 0
    refine E.seq ?_
    refine E.reg hr (by simp; rfl) ?_ -- region 10
    refine E.ret ?_
    exact pureK.ret rfl rfl (by rw [h5]; simp) (Sub.refl _)
end Go.Proofs.Ytljglocehbccnaa

namespace Go.Proofs.Ytljglocehbccnaa
open Go Go.Ab Go.Proofs
set_option maxRecDepth 20000
def g76 (args : List Value) (H : Heap) (n : Nat) : R := match args with
  | [v, .int .i64 64, .func (.func 77) ⟨[]⟩ ⟨[.pointer (some ⟨k, 0, none⟩)]⟩] => match hget H k with
    | some (.cells [v'] 44) => (sigV H v).bind fun l => (sigV H v').bind fun l' => if l' = l then some (iv (if 64 < l.length then 5 else scanV (fun i => sgE l i (l.getD i ⟨0, 0, 0⟩)) l.length), H, n) else none
    | _ => none
  | _ => none
theorem ok76 : EntOk Try.prog (76, g76) := by
  intro args H n v H' n' h
  simp only [g76] at h
  split at h
  · rename_i v k
    split at h
    · rename_i v' hk
      rw [Option.bind_eq_some_iff] at h
      obtain ⟨l, h4, h⟩ := h
      rw [Option.bind_eq_some_iff] at h
      obtain ⟨l', h5, h⟩ := h
      split at h
      · rename_i hi
        subst hi
        injection h with h; injection h with e1 e2; injection e2 with e2 e3; subst e1 e2 e3
        exact w76 hk h5 h4
      · cases h
    · cases h
  · cases h
def sgC (l : List Sg) : Int := if 64 < l.length then 5 else scanV (fun i => sgE l i (l.getD i ⟨0, 0, 0⟩)) l.length
theorem w59 {H : Heap} {n : Nat} {v : Value} {l : List Sg} (hV : sigV H v = some l) : AC Try.prog 59 [v] H n (iv (sgC l)) H n := by
  refine AC.given fun hold hsc _ => AC.tidied (B := []) (by simp) ?_
  replace hV : sigV (tidy n H) v = some l := listV_tidy decG_tidy (fun k b h => (hold k b h).1) hV
  have hr := recT_ok (P := Try.prog) (l := [(76, g76)]) (by simp [ok76])
  obtain ⟨oa, c, rfl, hlt, hrow⟩ := sigV_form hV
  have hV2 : sigV ((n, .cells [.slice oa l.length c] 44) :: tidy n H) (.slice oa l.length c) = some l := listV_mono decG_mono (Sub.cons (by simp) (Sub.refl _)) hV
  have hg : ∀ m, g76 [.slice oa l.length c, iv 64, sgF n] ((n, .cells [.slice oa l.length c] 44) :: tidy n H) m = some (iv (sgC l), (n, .cells [.slice oa l.length c] 44) :: tidy n H, m) := fun m => by
    have e1 : hget ((n, .cells [.slice oa l.length c] 44) :: tidy n H) n = some (.cells [.slice oa l.length c] 44) := by rw [hget_cons, if_pos rfl]
    simp only [g76, e1]
    rw [hV2]
    simp [sgC]
  refine AC.pure Try.func59 rfl (by kernel_rfl) rfl [] rfl ?_
  refine E.seq ?_
  refine E.reg hr (by simp; rfl) ?_ -- region 0
  refine E.seq ?_
  refine E.reg hr (by simp [opMakefunc, hg]; rfl) ?_ -- region 1
  refine E.ret ?_
  exact pureK.ret rfl rfl (by simp) (by repeat first | exact Sub.refl _ | refine Sub.cons (by simp) ?_)
def g59 (args : List Value) (H : Heap) (n : Nat) : R := match args with
  | [v] => (sigV H v).map fun l => (iv (sgC l), H, n)
  | _ => none
theorem ok59 : EntOk Try.prog (59, g59) := by
  intro args H n v H' n' h
  simp only [g59] at h
  split at h
  · rw [Option.map_eq_some_iff] at h
    obtain ⟨l, h4, h⟩ := h
    injection h with e1 e2; injection e2 with e2 e3; subst e1 e2 e3
    exact w59 h4
  · cases h
def brE (b : Brg) (l : List Sg) : Int := firstV [vesV b.x b.y b.dx b.dy b.t, watV b.r b.s b.l b.c b.f, sgC l]
theorem w24 {H : Heap} {n : Nat} {v : Value} (b : Brg) {l : List Sg} (hV : sigV H v = some l) : AC Try.prog 24 [.agg ⟨[iv b.x, iv b.y, iv b.dx, iv b.dy, iv b.t]⟩, .agg ⟨[iv b.r, iv b.s, iv b.l, iv b.c, iv b.f]⟩, v] H n (.tuple #[b.val v, iv (brE b l)]) H n := by
  refine AC.given fun hold hsc _ => AC.tidied (B := []) (by simp) ?_
  replace hV : sigV (tidy n H) v = some l := listV_tidy decG_tidy (fun k b h => (hold k b h).1) hV
  have hr := recT_ok (P := Try.prog) (l := [(57, g57), (58, g58), (59, g59), (29, g29)]) (by simp [ok57, ok58, ok59, ok29])
  obtain ⟨oa, c, rfl, hlt, hrow⟩ := sigV_form hV
  have hz : zeroA Try.prog 84 = some (.agg #[iv 0, iv 0, iv 0, iv 0, iv 0, iv 0, iv 0, iv 0, iv 0, iv 0, .slice none 0 0]) := ze84
  have hsa : sc (· < n) (.slice oa l.length c) := hsc.2.2.1
  have hfz : sigV (frzH (tidy n H)) (.slice oa l.length c) = some l := (listV_frz decG_frz _ _).trans hV
  have hfn : ∀ j, n ≤ j → hget (frzH (tidy n H)) j = none := fun j hj => by
    rw [hget_frz, show hget (tidy n H) j = none from namesOk_none namesOk_tidy j hj]; rfl
  have hcall : ∀ x y z m, g59 [.slice oa l.length c] ((n + 1 + 1, x) :: (n + 1, y) :: (n, z) :: frzH (tidy n H)) m = some (iv (sgC l), (n + 1 + 1, x) :: (n + 1, y) :: (n, z) :: frzH (tidy n H), m) := fun x y z m => by
    have : sigV ((n + 1 + 1, x) :: (n + 1, y) :: (n, z) :: frzH (tidy n H)) (.slice oa l.length c) = some l := listV_mono decG_mono (Sub.cons (by simp [hfn]) (Sub.cons (by simp [hfn]) (Sub.cons (by simp [hfn]) (Sub.refl _)))) hfz
    simp [g59, this]
  have htk : takeNew (n + 1 + 1 + 1) (frzH (tidy n H)) = [] := takeNew_frz (namesOk_mono (by omega) _ namesOk_tidy)
  refine AC.same Try.func24 rfl (by kernel_rfl) rfl [2, 3, 4, 6, 7] ⟨⟨trivial, trivial, trivial, trivial, trivial, trivial, trivial, trivial, trivial, trivial, hsa, trivial⟩, trivial, trivial⟩ tidy_lt ?_
  refine E.seq ?_
  refine E.reg hr (by simp; rfl) ?_ -- region 0
  refine E.seq ?_
  refine E.drawU mixed hr [12] [5, 7, 9, 10, 11, 12] [0, 1, 4, 5, 7, 9, 10, 11, 12] (by kernel_rfl) (by simp [-cellA, -cellsA, -flat, -readA, cellsA_cons, cellsA_read, flat_n, g57, g58, g29, intsAt, intsOf, build84 (r := b.r) (s := b.s) (l := b.l) (c := b.c) (f := b.f) (vx := b.x) (vy := b.y) (dx := b.dx) (dy := b.dy) (t := b.t) (oa := oa) (L := l.length) (k := c), hcall, handA_nil]; rfl) ?_ -- region 1
  refine E.ret ?_
  refine pureK.ret rfl (vs := [b.val (.slice oa l.length c), iv (brE b l)]) (by simp [resultsA, resultA, Try.f24, Brg.val, brE]) rfl ?_
  repeat first | exact Sub.refl _ | refine Sub.cons (by simp) ?_
end Go.Proofs.Ytljglocehbccnaa

namespace Go.Proofs.Ytljglocehbccnaa
open Go Go.Ab Go.Proofs
set_option maxRecDepth 20000
theorem cells_tail {H : Heap} {k o : Nat} {x y z : Value} (h : cellsA H k o 3 = some [x, y, z]) : cellsA H k (o + 1) 2 = some [y, z] := by
  have tl : ∀ (cs : List Value) (o : Nat), (cs.drop o).take 3 = [x, y, z] → (cs.drop (o + 1)).take 2 = [y, z] := fun cs o h => by
    have : (cs.drop (o + 1)).take 2 = ((cs.drop o).take 3).drop 1 := by
      rw [List.drop_take, List.drop_drop]
    rw [this, h]; rfl
  rw [cellsA_eq] at h ⊢
  cases hb : hget H k with
  | none => rw [hb] at h; cases h
  | some b =>
    rw [hb] at h
    simp only [Option.bind_some] at h ⊢
    cases b with
    | cells cs t | ext cs t s | row cs s =>
      simp only [cellsB] at h ⊢
      split at h
      · injection h with h
        rw [if_pos (by omega), tl _ _ h]
      · cases h
    | inp o' cs =>
      simp only [cellsB] at h ⊢
      split at h
      · injection h with h
        rw [if_pos (by omega), show o + 1 - o' = o - o' + 1 by omega, tl _ _ h]
      · cases h
    | _ => cases h
theorem load23 {H : Heap} {m o : Nat} {s : Option Nat} {x y : Value} (h : cellsA H m o 2 = some [x, y]) : loadA Try.prog 23 H (.pointer (some ⟨m, o, s⟩)) = some (.agg #[x, y]) := by
  simp only [loadA, ag23, sz23, h, Option.map_some]
theorem sgE_split (l : List Sg) (i : Nat) (q : Sg) : sgE l i q = if firstV [withinV q.tk 0 100000, ptV q.x q.y 100000] = 0 then (if sgP l i q = true then 11 else 0) else firstV [withinV q.tk 0 100000, ptV q.x q.y 100000] := by
  unfold sgE
  rw [show [withinV q.tk 0 100000, ptV q.x q.y 100000, whenV (sgP l i q) 11] = [withinV q.tk 0 100000, ptV q.x q.y 100000] ++ [whenV (sgP l i q) 11] from rfl, firstV_app]
  split
  · simp only [firstV, whenV]
    split <;> simp_all
  · rfl
theorem w54 {H : Heap} {n : Nat} {v : Value} {l : List Sg} (hV : sigV H v = some l) : AC Try.prog 54 [v] H n (iv (sgC l)) H n := by
  refine AC.given fun hold hsc _ => AC.tidied (B := []) (by simp) ?_
  replace hV : sigV (tidy n H) v = some l := listV_tidy decG_tidy (fun k b h => (hold k b h).1) hV
  have hr := recT_ok (P := Try.prog) (l := [(39, g39), (74, g74), (38, g38)]) (by simp [ok39, ok74, ok38])
  obtain ⟨oa, c, rfl, hlt, hrow⟩ := sigV_form hV
  have hold2 := tidy_old hold
  have hsa : sc (· < n) (.slice oa l.length c) := hsc.1
  refine AC.pure Try.func54 rfl (by kernel_rfl) rfl [0, 3, 4] rfl ?_
  refine E.seq ?_
  refine E.reg hr (by simp; rfl) ?_ -- region 0
  refine E.seq ?_
  refine E.seq ?_
  refine E.reg hr (by simp; rfl) ?_ -- region 1
  unfold sgC
  by_cases hm : 64 < l.length
  · have hm' : (64 : Int) < l.length := by omega
    rw [if_pos hm]
    refine E.cond (t := true) (by simp [hm']) (fun _ => ?_) (fun h => by cases h)
    refine E.seq ?_
    refine E.reg hr (by simp; rfl) ?_ -- region 2
    refine E.ret ?_
    exact pureK.ret rfl rfl (by simp) (Sub.refl _)
  have hm' : ¬ (64 : Int) < l.length := by omega
  rw [if_neg hm]
  refine E.cond (t := false) (by simp [hm']) (fun h => by cases h) (fun _ => ?_)
  refine E.skip ?_
  refine E.seq ?_
  refine E.seq ?_
  refine E.reg hr (by simp; rfl) ?_ -- region 3
  refine E.block ?_ -- 0
  refine E.loop ?_
  refine EL.ind (fun i : Nat => { fr := [(0, .slice oa l.length c), (3, iv i)], sz := 47, H := tidy n H, n := n, marks := [], vs := [0, 3, 4] }) (fun i => l.length - i) (fun i => i ≤ l.length ∧ ∀ j (h : j < l.length), j < i → sgE l j (l.getD j ⟨0, 0, 0⟩) = 0) 0 (.keep rfl rfl rfl (by simp) (Sub.refl _)) ⟨Nat.zero_le _, fun j _ hj => by omega⟩ (fun _ => rfl) ?_
  rintro i ⟨hi, hg2⟩
  have hw : IntKind.i64.wrap ((i : Int) + 1) = (i : Int) + 1 := W_in (by omega) (by omega)
  refine E.seq ?_
  refine E.seq ?_
  refine E.reg hr (by simp; rfl) ?_ -- region 4
  by_cases hil : i < l.length
  case neg =>
    have h5 := scanV_zero (f := fun i => sgE l i (l.getD i ⟨0, 0, 0⟩)) (n := l.length) fun j hj => hg2 j hj (by omega)
    refine E.cond (t := false) (by simp [hil]) (fun h => by cases h) (fun _ => ?_)
    refine E.exit ?_ -- 0
    refine E.seq ?_
    refine E.reg hr (by simp; rfl) ?_ -- region 11
    refine E.ret ?_
    exact pureK.ret rfl rfl (by rw [h5]; simp) (Sub.refl _)
  obtain ⟨a, rfl, hf, hc⟩ := hrow i hil
  have hgd : l.getD i ⟨0, 0, 0⟩ = l[i] := by rw [List.getD_eq_getElem?_getD, List.getElem?_eq_getElem hil]; rfl
  have hit := fun (h : sgE l i (l.getD i ⟨0, 0, 0⟩) ≠ 0) => scanV_hit (f := fun i => sgE l i (l.getD i ⟨0, 0, 0⟩)) hil h fun j hj => hg2 j (by omega) hj
  have hsp := sgE_split l i l[i]
  rw [hgd] at hit
  obtain ⟨q, hq⟩ : ∃ q, l[i] = q := ⟨_, rfl⟩
  rw [hq] at hc hit hsp
  have hc0 := cell0 hc
  have hc1 := cells_tail hc
  have ha := cellA_lt tidy_lt hc0
  have n4 : ¬ n = a.block := by omega
  have m2 : a.block < n + 1 := by omega
  refine E.cond (t := true) (by simp [hil]) (fun _ => ?_) (fun h => by cases h)
  refine E.skip ?_
  refine E.seq ?_
  refine E.block ?_ -- 1
  refine E.seq ?_
  refine E.seq ?_
  refine E.drawU mixed hr [11, 12, 13] [5, 11, 12, 13] [4, 5, 11, 12, 13] (by kernel_rfl) (by simp [-cellA, -cellsA, -flat, -readA, cellsA_cons, cellA_read, cellsA_read, flat_n, g39, g74, g38, intsAt, intsOf, hf, hil, hc0, hc1, ha]; rfl) ?_ -- region 6
  refine E.seq ?_
  refine E.reg hr (by simp; rfl) ?_ -- region 7
  obtain ⟨e, he⟩ : ∃ e, firstV [withinV q.tk 0 100000, ptV q.x q.y 100000] = e := ⟨_, rfl⟩
  rw [he] at hsp ⊢
  by_cases h4 : e = 0
  case neg =>
    rw [if_neg h4] at hsp
    have h5 := hit (by rw [hsp]; exact h4)
    rw [hsp] at h5
    refine E.cond (t := true) (by simp [h4]) (fun _ => ?_) (fun h => by cases h)
    refine E.seq ?_
    refine E.reg hr (by simp; rfl) ?_ -- region 8
    refine E.ret ?_
    exact pureK.ret rfl rfl (by rw [h5]; simp) (Sub.cons (by simp) (Sub.refl _))
  rw [if_pos h4] at hsp
  refine E.cond (t := false) (by simp [h4]) (fun h => by cases h) (fun _ => ?_)
  refine E.skip ?_
  refine E.seq ?_
  have done : ∀ st : St, st.sz = 47 → st.marks = [] → Sub (tidy n H) st.H → lk st.fr 0 = some (.slice (some a) l.length c) → lk st.fr 3 = some (iv ((i : Int) + 1)) → sgE l i q = 0 → ∃ j : Nat, Leads Try.prog n st { fr := [(0, .slice (some a) l.length c), (3, iv j)], sz := 47, H := tidy n H, n := n, marks := [], vs := [0, 3, 4] } ∧ (j ≤ l.length ∧ ∀ m (h : m < l.length), m < j → sgE l m (l.getD m ⟨0, 0, 0⟩) = 0) ∧ l.length - j < l.length - i := fun st h1 h2 h3 h5 h6 h7 =>
    ⟨i + 1, .back rfl hold2 h3 rfl h1.symm ⟨h2, rfl⟩ (by simp [-sc, hsa, h5, h6]; exact trivial), ⟨hil, fun m h hm => if e' : m = i then by subst e'; rw [hgd, hq]; exact h7 else hg2 m h (by omega)⟩, by omega⟩
  obtain rfl | ⟨j, rfl⟩ : i = 0 ∨ ∃ j, i = j + 1 := by
    cases i with
    | zero => exact .inl rfl
    | succ j => exact .inr ⟨j, rfl⟩
  · have hs0 : sgP l 0 q = false := rfl
    rw [hs0, if_neg (by simp)] at hsp
    refine E.drawU mixed hr [] [] [7, 13] (by kernel_rfl) (by simp [yieldedA, undefV]; rfl) ?_ -- region 9
    refine E.cond (t := false) (by simp) (fun h => by cases h) (fun _ => ?_)
    refine E.skip ?_
    refine E.reg hr (by simp [show IntKind.i64.wrap 1 = 1 from by decide]; rfl) ?_ -- region 5
    exact done _ rfl rfl (Sub.cons (by simp) (Sub.refl _)) (by simp) (by simp) hsp
  · obtain ⟨a', e', hf', hc'⟩ := hrow j (by omega)
    injection e' with e'
    subst e'
    have hcj := cell0 hc'
    have hgj : (l.getD (j + 1 - 1) ⟨0, 0, 0⟩) = l[j] := by
      rw [Nat.add_sub_cancel, List.getD_eq_getElem?_getD, List.getElem?_eq_getElem (by omega)]; rfl
    have hsg : sgP l (j + 1) q = decide (q.tk < l[j].tk) := by unfold sgP; rw [hgj]; simp
    obtain ⟨z, hz⟩ : ∃ z, l[j].tk = z := ⟨_, rfl⟩
    rw [hz] at hcj hsg
    have hjl : j < l.length := by omega
    have hjI : (j : Int) + 1 < l.length := by omega
    have hw3 : IntKind.i64.wrap ((j : Int) + 1 + 1) = (j : Int) + 1 + 1 := W_in (by omega) (by omega)
    have hwj : IntKind.i64.wrap (j : Int) = (j : Int) := W_in (by omega) (by omega)
    have hn1 : namesOk (n + 1) (tidy n H) = true := namesOk_mono (by omega) _ namesOk_tidy
    rw [hsg] at hsp
    refine E.drawU mixed hr [] [] [7, 13] (by kernel_rfl) (by simp [-cellA, -cellsA, -flat, -readA, cellA_cons, cellA_read, hf, hjl, hjI, hwj, hc0, hcj, n4, m2]; rfl) ?_ -- region 9
    by_cases h6 : q.tk < z
    · rw [if_pos (by simpa using h6)] at hsp
      have h5 := hit (by rw [hsp]; decide)
      rw [hsp] at h5
      refine E.cond (t := true) (by simp [h6]) (fun _ => ?_) (fun h => by cases h)
      refine E.seq ?_
      refine E.reg hr (by simp; rfl) ?_ -- region 10
      refine E.ret ?_
      exact pureK.ret rfl rfl (by rw [h5]; simp) (Sub.cons (by simp) (Sub.refl _))
    · rw [if_neg (by simpa using h6)] at hsp
      refine E.cond (t := false) (by simp [h6]) (fun h => by cases h) (fun _ => ?_)
      refine E.skip ?_
      refine E.reg hr (by simp [hw3]; rfl) ?_ -- region 5
      exact done _ rfl rfl (Sub.cons (by simp) (Sub.refl _)) (by simp) (by simp) hsp
def g54 (args : List Value) (H : Heap) (n : Nat) : R := match args with
  | [v] => (sigV H v).map fun l => (iv (sgC l), H, n)
  | _ => none
theorem ok54 : EntOk Try.prog (54, g54) := by
  intro args H n v H' n' h
  simp only [g54] at h
  split at h
  · rw [Option.map_eq_some_iff] at h
    obtain ⟨l, h4, h⟩ := h
    injection h with e1 e2; injection e2 with e2 e3; subst e1 e2 e3
    exact w54 h4
  · cases h
theorem w20 {H : Heap} {n : Nat} {v : Value} (b : Brg) {l : List Sg} (hV : sigV H v = some l) : AC Try.prog 20 [.agg ⟨[iv b.x, iv b.y, iv b.dx, iv b.dy, iv b.t]⟩, .agg ⟨[iv b.r, iv b.s, iv b.l, iv b.c, iv b.f]⟩, v] H n (iv (brE b l)) H n := by
  refine AC.given fun hold hsc _ => AC.tidied (B := []) (by simp) ?_
  replace hV : sigV (tidy n H) v = some l := listV_tidy decG_tidy (fun k b h => (hold k b h).1) hV
  have hr := recT_ok (P := Try.prog) (l := [(52, g52), (53, g53), (54, g54), (38, g38)]) (by simp [ok52, ok53, ok54, ok38])
  obtain ⟨oa, c, rfl, hlt, hrow⟩ := sigV_form hV
  have hcall : ∀ y z m, g54 [.slice oa l.length c] ((n + 1, y) :: (n, z) :: tidy n H) m = some (iv (sgC l), (n + 1, y) :: (n, z) :: tidy n H, m) := fun y z m => by
    have : sigV ((n + 1, y) :: (n, z) :: tidy n H) (.slice oa l.length c) = some l := listV_mono decG_mono (Sub.cons (by simp) (Sub.cons (by simp) (Sub.refl _))) hV
    simp [g54, this]
  refine AC.pure Try.func20 rfl (by kernel_rfl) rfl [2, 3, 4, 6] rfl ?_
  refine E.seq ?_
  refine E.reg hr (by simp; rfl) ?_ -- region 0
  refine E.seq ?_
  refine E.drawU mixed hr [3, 5, 6, 7] [1, 3, 5, 6, 7] [0, 1, 3, 5, 6, 7] (by kernel_rfl) (by simp [-cellA, -cellsA, -flat, -readA, cellsA_cons, cellsA_read, flat_n, g52, g53, g38, intsAt, intsOf, hcall]; rfl) ?_ -- region 1
  refine E.ret ?_
  exact pureK.ret rfl rfl (by simp [brE]) (by repeat first | exact Sub.refl _ | refine Sub.cons (by simp) ?_)
end Go.Proofs.Ytljglocehbccnaa

namespace Go.Proofs.Ytljglocehbccnaa
open Go Go.Ab Go.Proofs
set_option maxRecDepth 20000
/-! ### lists that are made -/
theorem rep_val (z : Value) (w : Nat) : ((Array.range (w * 1)).map ((if w * 1 = 0 then #[] else #[z])[· % (if w * 1 = 0 then #[] else #[z]).size]!)).toList = List.replicate w z := by
  rw [Nat.mul_one, Array.toList_map, Array.toList_range]
  refine List.eq_replicate_iff.2 ⟨by simp, fun x hx => ?_⟩
  rw [List.mem_map] at hx
  obtain ⟨i, hi, rfl⟩ := hx
  rw [List.mem_range] at hi
  rw [if_neg (by omega)]
  simp [Nat.mod_one]
theorem mk35 {fr : Fr} {H : Heap} {n : Nat} {x y : Operand} {w : Int} (h0 : 0 ≤ w) (h1 : w ≤ 4096) (hx : evO Try.prog fr x = some (iv w)) (hy : evO Try.prog fr y = some (iv w)) : opMakeslice Try.prog 35 x y fr H n = some (.slice (some ⟨n, 0, none⟩) w.toNat w.toNat, (n, .cells (List.replicate w.toNat (iv 0)) 3) :: H, n + 1) := by
  unfold opMakeslice
  rw [hx, hy, Try.underlying35]
  have hz : Try.t3.zero = some (.int .i64 0) := by kernel_rfl
  have hb : Try.t3.bytes = 8 := by kernel_rfl
  have hs : Try.t3.size = 1 := by kernel_rfl
  simp only [inf3, hz, hb, hs]
  have hc : (0 ≤ w ∧ w ≤ w ∧ (smallA 8 w.toNat && afL (Value.int .i64 0).cells.toList) = true) := ⟨h0, Int.le_refl _, by simp [smallA]; omega⟩
  rw [if_pos hc]
  unfold newA
  rw [show (Value.int .i64 0).cells = #[Value.int .i64 0] from rfl, rep_val]
theorem mk39 {fr : Fr} {H : Heap} {n : Nat} {x y : Operand} {w : Int} (h0 : 0 ≤ w) (h1 : w ≤ 4096) (hx : evO Try.prog fr x = some (iv w)) (hy : evO Try.prog fr y = some (iv w)) : opMakeslice Try.prog 39 x y fr H n = some (.slice (some ⟨n, 0, none⟩) w.toNat w.toNat, (n, .cells (List.replicate w.toNat (.bool false)) 4) :: H, n + 1) := by
  unfold opMakeslice
  rw [hx, hy, Try.underlying39]
  have hz : Try.t4.zero = some (.bool false) := by kernel_rfl
  have hb : Try.t4.bytes = 1 := by kernel_rfl
  have hs : Try.t4.size = 1 := by kernel_rfl
  simp only [inf4, hz, hb, hs]
  have hc : (0 ≤ w ∧ w ≤ w ∧ (smallA 1 w.toNat && afL (Value.bool false).cells.toList) = true) := ⟨h0, Int.le_refl _, by simp [smallA]; omega⟩
  rw [if_pos hc]
  unfold newA
  rw [show (Value.bool false).cells = #[Value.bool false] from rfl, rep_val]
theorem renL_afl (ρ : Nat → Nat) : ∀ l : List Value, (∀ v ∈ l, Ab.ren ρ v = v) → Ab.renL ρ l = l
  | [], _ => rfl
  | v :: l, h => by
    simp only [Ab.renL]
    rw [h v (List.mem_cons_self ..), renL_afl ρ l fun x hx => h x (List.mem_cons_of_mem _ hx)]
theorem fresh_cells {n m t L c : Nat} {H H1 : Heap} {cs : List Value} (haf : afL cs = true) (hren : ∀ ρ, renL ρ cs = cs) (hm : n ≤ m) (hg : hget H1 m = some (.cells cs t)) (hs : Sub H H1) : Fresh n (n + 1) H (.slice (some ⟨n, 0, none⟩) L c) [(n, .cells cs t)] (.slice (some ⟨m, 0, none⟩) L c) H1 := by
  refine ⟨fun k => if k = n then m else k, fun k hk => if_neg (by omega), by simp [ren], fun k b hk => ?_, fun j b k c hj hk _ => ?_, hs⟩
  · rw [hget_cons] at hk
    split at hk
    · rename_i e; subst e; injection hk with hk; subst hk
      refine ⟨Nat.le_refl _, Nat.lt_succ_self _, by simpa using hm, ?_, scL_af _ _ haf, trivial, rfl⟩
      simp [renB, hren, hg]
    · cases hk
  · rw [hget_cons] at hj hk
    split at hj
    · split at hk
      · omega
      · cases hk
    · cases hj
/-! ### levels -/
/-- how long it has been quiet, before a tick -/
def quV (b : Brg) (l : List Sg) : Nat → Int
  | 0 => 0
  | t + 1 => if insideV b l t = true then 0 else IntKind.i64.wrap (quV b l t + 1)
def levV (b : Brg) (l : List Sg) (t : Nat) : Int := min (IntKind.i64.wrap (b.f + 1)) (max 0 (IntKind.i64.wrap (quV b l (t + 1) - b.c)))
def levL (b : Brg) (l : List Sg) : List Value := (List.range b.t.toNat).map fun t => iv (levV b l t)
theorem levL_af (b : Brg) (l : List Sg) : afL (levL b l) = true := by
  unfold levL
  rw [show (fun t => iv (levV b l t)) = iv ∘ levV b l from rfl, ← List.map_map]
  exact afL_iv _
theorem levL_ren (b : Brg) (l : List Sg) (ρ : Nat → Nat) : renL ρ (levL b l) = levL b l := renL_afl ρ _ fun v hv => by
  unfold levL at hv
  rw [List.mem_map] at hv
  obtain ⟨t, _, rfl⟩ := hv
  rfl
theorem w26 {H : Heap} {n : Nat} {v : Value} (b : Brg) {l : List Sg} (hV : sigV H v = some l) (h0 : 0 ≤ b.t) (h1 : b.t ≤ 4096) : AC Try.prog 26 [b.val v] H n (.slice (some ⟨n, 0, none⟩) b.t.toNat b.t.toNat) ([(n, .cells (levL b l) 3)] ++ H) (n + 1) := by
  refine AC.given fun hold hsc hgn => AC.tidied (fun x hx => ?_) ?_
  · rw [List.mem_singleton] at hx; subst hx; exact Nat.le_refl _
  replace hV : sigV (tidy n H) v = some l := listV_tidy decG_tidy (fun k b h => (hold k b h).1) hV
  have hr := recT_ok (P := Try.prog) (l := [(25, g25), (63, g63)]) (by simp [ok25, ok63])
  obtain ⟨oa, c, rfl, hlt, hrow⟩ := sigV_form hV
  obtain ⟨T, hT⟩ := Int.eq_ofNat_of_zero_le h0
  have hTn : b.t.toNat = T := by omega
  have hlL : (levL b l).length = T := by simp [levL, hTn]
  obtain ⟨R, hR⟩ : ∃ R, levL b l = R := ⟨_, rfl⟩
  have hRat : ∀ i (h : i < T), R[i]? = some (iv (levV b l i)) := fun i h => by
    rw [← hR]; unfold levL; rw [hTn, List.getElem?_map, List.getElem?_range h]; rfl
  have haf : afL R = true := by rw [← hR]; exact levL_af b l
  have hren : ∀ ρ, renL ρ R = R := fun ρ => by rw [← hR]; exact levL_ren b l ρ
  rw [hR] at hlL ⊢
  rw [hTn]
  have hcall : ∀ x t m, g25 [.agg ⟨[iv b.r, iv b.s, iv b.l, iv b.c, iv b.f, iv b.x, iv b.y, iv b.dx, iv b.dy, iv b.t, .slice oa l.length c]⟩, iv t] ((n + 1, x) :: (n, .cells [iv b.r, iv b.s, iv b.l, iv b.c, iv b.f, iv b.x, iv b.y, iv b.dx, iv b.dy, iv b.t, .slice oa l.length c] 84) :: tidy n H) m = some (.bool (insideV b l t), (n + 1, x) :: (n, .cells [iv b.r, iv b.s, iv b.l, iv b.c, iv b.f, iv b.x, iv b.y, iv b.dx, iv b.dy, iv b.t, .slice oa l.length c] 84) :: tidy n H, m) := fun x t m => by
    have : sigV ((n + 1, x) :: (n, .cells [iv b.r, iv b.s, iv b.l, iv b.c, iv b.f, iv b.x, iv b.y, iv b.dx, iv b.dy, iv b.t, .slice oa l.length c] 84) :: tidy n H) (.slice oa l.length c) = some l := listV_mono decG_mono (Sub.cons (by simp) (Sub.cons (by simp) (Sub.refl _))) hV
    simp only [g25]
    rw [this]
    rfl
  unfold Brg.val
  refine AC.fresh Try.func26 rfl (by kernel_rfl) rfl [1, 3, 4, 5, 11, 12] (by omega) (show n < n + 1 by omega) (fun ρ => rfl) ?_
  refine E.seq ?_
  refine E.reg hr (by simp; rfl) ?_ -- region 0
  refine E.seq ?_
  refine E.reg hr (by simp [mk35 (w := b.t) h0 h1, hTn]; rfl) ?_ -- region 1
  refine E.seq ?_
  refine E.reg hr (by simp; rfl) ?_ -- region 2
  refine E.seq ?_
  refine E.seq ?_
  refine E.reg hr (by simp; rfl) ?_ -- region 3
  refine E.block ?_ -- 0
  refine E.loop ?_
  refine EL.ind (fun x : Nat × List Value => { fr := [(1, .pointer (some ⟨n, 0, none⟩)), (3, .slice (some ⟨n + 1, 0, none⟩) T T), (4, iv (quV b l x.1)), (11, iv T), (12, iv x.1)], sz := 35, H := (n + 1, .cells x.2 3) :: (n, .cells [iv b.r, iv b.s, iv b.l, iv b.c, iv b.f, iv b.x, iv b.y, iv b.dx, iv b.dy, iv b.t, .slice oa l.length c] 84) :: tidy n H, n := n + 1 + 1, marks := [], vs := [1, 3, 4, 5, 11, 12] }) (fun x => T - x.1) (fun x => x.1 ≤ T ∧ x.2.length = T ∧ ∀ j, j < x.1 → x.2[j]? = some (iv (levV b l j))) (0, List.replicate T (iv 0)) (.keep rfl rfl rfl (by simp [quV]) (Sub.refl _)) ⟨Nat.zero_le _, by simp, fun j hj => by omega⟩ (fun _ => rfl) ?_
  rintro ⟨i, cs⟩ ⟨hi, hcl, hg⟩
  dsimp only at hi hcl hg ⊢
  have hw : IntKind.i64.wrap ((i : Int) + 1) = (i : Int) + 1 := W_in (by omega) (by omega)
  refine E.seq ?_
  refine E.reg hr (by simp; rfl) ?_ -- region 4
  refine E.seq ?_
  by_cases hil : i < T
  · refine E.cond (t := true) (by simp [hil]) (fun _ => ?_) (fun h => by cases h)
    refine E.skip ?_
    refine E.seq ?_
    refine E.block ?_ -- 1
    refine E.seq ?_
    refine E.reg hr (by simp; rfl) ?_ -- region 5
    refine E.seq ?_
    refine E.reg hr (by simp; rfl) ?_ -- region 6
    refine E.seq ?_
    refine E.seq ?_
    refine E.reg hr (by simp [hcall]; rfl) ?_ -- region 7
    have hq1 : quV b l (i + 1) = if insideV b l i = true then 0 else IntKind.i64.wrap (quV b l i + 1) := rfl
    have hlev : levV b l i = min (IntKind.i64.wrap (b.f + 1)) (max 0 (IntKind.i64.wrap (quV b l (i + 1) - b.c))) := rfl
    obtain ⟨Q, hQ⟩ : ∃ Q, quV b l (i + 1) = Q := ⟨_, rfl⟩
    obtain ⟨V, hVl⟩ : ∃ V, levV b l i = V := ⟨_, rfl⟩
    rw [hQ] at hq1 hlev
    rw [hVl] at hlev
    have hst : ∀ Z : Heap, storeA ((n + 1, .cells cs 3) :: Z) (n + 1) i [iv V] = some ((n + 1, .cells (cs.set i (iv V)) 3) :: Z) := fun Z => by
      rw [store_at (by rw [hget_cons, if_pos rfl]) (by omega)]; simp
    have n1 : ¬ n = n + 1 := by omega
    have n2 : ¬ n + 1 = n := by omega
    have hset : ∀ j, j < i + 1 → (cs.set i (iv V))[j]? = some (iv (levV b l j)) := fun j hj => by
      by_cases e : j = i
      · subst e; rw [List.getElem?_set_self (by omega), hVl]
      · rw [List.getElem?_set_ne (by omega)]; exact hg j (by omega)
    cases hin : insideV b l i with
    | true =>
      rw [hin, if_pos rfl] at hq1
      rw [hq1] at hlev hQ
      refine E.cond (t := true) (by simp) (fun _ => ?_) (fun h => by cases h)
      refine E.reg hr (by simp; rfl) ?_ -- region 8
      refine E.drawU mixed hr [13] [4, 13] [3, 4, 13] (by kernel_rfl) (by simp [-Int.zero_sub, -storeA, g63, max33, min33, hil, ← hlev, hst]; rfl) ?_ -- region 9
      refine E.reg hr (by simp [hw]; rfl) ?_ -- region 10
      exact ⟨(i + 1, cs.set i (iv V)), .keep rfl rfl rfl (by simp [hQ]) (Sub.refl _), ⟨hil, by simp [hcl], hset⟩, by dsimp only; omega⟩
    | false =>
      rw [hin, if_neg (by simp)] at hq1
      refine E.cond (t := false) (by simp) (fun h => by cases h) (fun _ => ?_)
      refine E.skip ?_
      refine E.drawU mixed hr [13] [4, 13] [3, 4, 13] (by kernel_rfl) (by simp [-storeA, g63, max33, min33, hil, ← hq1, ← hlev, hst]; rfl) ?_ -- region 9
      refine E.reg hr (by simp [hw]; rfl) ?_ -- region 10
      exact ⟨(i + 1, cs.set i (iv V)), .keep rfl rfl rfl (by simp [hQ]) (Sub.refl _), ⟨hil, by simp [hcl], hset⟩, by dsimp only; omega⟩
  · have hcs : cs = R := List.ext_getElem? fun j => by
      by_cases hj : j < T
      · rw [hg j (by omega), hRat j hj]
      · rw [List.getElem?_eq_none (by omega), List.getElem?_eq_none (by omega)]
    subst hcs
    refine E.cond (t := false) (by simp [hil]) (fun h => by cases h) (fun _ => ?_)
    refine E.exit ?_ -- 0
    refine E.seq ?_
    refine E.reg hr (by simp; rfl) ?_ -- region 11
    refine E.ret ?_
    exact outK.ret rfl rfl (fresh_cells haf hren (by omega) (by rw [hget_cons, if_pos rfl]) (Sub.cons (by simp) (Sub.cons (by simp) (Sub.refl _))))
end Go.Proofs.Ytljglocehbccnaa

namespace Go.Proofs.Ytljglocehbccnaa
open Go Go.Ab Go.Proofs
set_option maxRecDepth 20000
def Sg.cells (q : Sg) : List Value := [iv q.tk, iv q.x, iv q.y]
def sgs (l : List Sg) : List Value := l.flatMap Sg.cells
theorem sgs_snoc (l : List Sg) (q : Sg) : sgs (l ++ [q]) = sgs l ++ [iv q.tk, iv q.x, iv q.y] := by simp [sgs, Sg.cells]
theorem sgs_len : ∀ l : List Sg, (sgs l).length = l.length * 3
  | [] => rfl
  | q :: l => by
    show (q.cells ++ sgs l).length = _
    rw [List.length_append, sgs_len l, List.length_cons]
    show 3 + _ = _
    omega
theorem sgs_af : ∀ l : List Sg, afL (sgs l) = true
  | [] => rfl
  | q :: l => by
    show afL (q.cells ++ sgs l) = true
    simp [Sg.cells, afL, sgs_af l]
theorem sgs_ren (ρ : Nat → Nat) (l : List Sg) : renL ρ (sgs l) = sgs l := renL_afl ρ _ fun v hv => by
  unfold sgs at hv
  obtain ⟨g, _, hv⟩ := List.mem_flatMap.1 hv
  simp only [Sg.cells, List.mem_cons, List.not_mem_nil, or_false] at hv
  rcases hv with rfl | rfl | rfl <;> rfl
theorem sz90i : Try.t90.size = 3 := by kernel_rfl
theorem by90 : Try.t90.bytes ≤ 128 := by decide +kernel
theorem zo90 : zeroOk Try.t90 = true := by kernel_rfl
theorem w9 {H : Heap} {n : Nat} {v : Value} {l : List Sg} (hV : sigV H v = some l) : AC Try.prog 9 [v] H n (outS n l.length) (outSB n 90 3 l.length (sgs l) ++ H) (n + 1) := by
  refine AC.given fun hold hsc hgn => AC.tidied (fun x hx => ?_) ?_
  · unfold outSB at hx
    split at hx
    · cases hx
    · rw [List.mem_singleton] at hx; subst hx; exact Nat.le_refl _
  replace hV : sigV (tidy n H) v = some l := listV_tidy decG_tidy (fun k b h => (hold k b h).1) hV
  have hr := recT_ok (P := Try.prog) (l := []) (by simp)
  obtain ⟨oa, c, rfl, hlt, hrow⟩ := sigV_form hV
  refine AC.grown Try.func9 rfl (by kernel_rfl) rfl [3, 6, 7, 8] ?_
  refine E.seq ?_
  refine E.reg hr (by simp; rfl) ?_ -- region 0
  refine E.seq ?_
  refine E.reg hr (by simp; rfl) ?_ -- region 1
  refine E.seq ?_
  refine E.seq ?_
  refine E.reg hr (by simp; rfl) ?_ -- region 2
  refine E.block ?_ -- 0
  refine E.loop ?_
  refine EL.ind (fun x : Nat × Heap × Nat × Nat => { fr := [(3, outS x.2.2.2 x.1), (6, .slice oa l.length c), (7, iv l.length), (8, iv x.1)], sz := 18, H := x.2.1, n := x.2.2.1, marks := [], vs := [3, 6, 7, 8] }) (fun x => l.length - x.1) (fun x => x.1 ≤ l.length ∧ GL (tidy n H) n 90 3 (sgs (l.take x.1)) x.1 x.2.1 x.2.2.1 x.2.2.2) (0, tidy n H, n, n) (.keep rfl rfl rfl (by simp) (Sub.refl _)) ⟨Nat.zero_le _, by simpa [sgs] using GL.start (t := 90) (sz := 3) (Sub.refl (tidy n H)) namesOk_tidy (Nat.le_refl n) (by simp)⟩ (fun _ => rfl) ?_
  rintro ⟨i, Hx, N, o⟩ ⟨hi, hG⟩
  dsimp only at hi hG ⊢
  have hw : IntKind.i64.wrap ((i : Int) + 1) = (i : Int) + 1 := W_in (by omega) (by omega)
  refine E.seq ?_
  refine E.reg hr (by simp; rfl) ?_ -- region 3
  refine E.seq ?_
  by_cases hil : i < l.length
  · obtain ⟨a, rfl, hf, hc⟩ := hrow i hil
    have hld := load89 (s := none) (hG.sub.cells hc)
    have htk : l.take (i + 1) = l.take i ++ [l[i]] := List.take_succ_eq_append_getElem hil
    obtain ⟨q, hq⟩ : ∃ q, l[i] = q := ⟨_, rfl⟩
    rw [hq] at hld htk
    have hG2 := hG.skip tidy_lt (.cells [iv q.tk, iv q.x, iv q.y] 89) rfl
    obtain ⟨Hz, happ, hGz⟩ := hG2.app (P := Try.prog) (st := 44) (i := Try.t90) (new := [iv q.tk, iv q.x, iv q.y]) tidy_lt Try.underlying44 inf90 sz90i zo90 by90 (by omega) rfl (by omega) rfl rfl
    rw [← sgs_snoc, ← htk] at hGz
    refine E.cond (t := true) (by simp [hil]) (fun _ => ?_) (fun h => by cases h)
    refine E.skip ?_
    refine E.seq ?_
    refine E.block ?_ -- 1
    refine E.seq ?_
    refine E.reg hr (by simp [-loadA, -flat, hil, hf, hld]; rfl) ?_ -- region 4
    refine E.reg hr (by simp [-builtinA, happ]; rfl) ?_ -- region 5
    refine E.reg hr (by simp [hw]; rfl) ?_ -- region 6
    exact ⟨(i + 1, Hz, N + 1 + 1 + 1, N + 1 + 1), .keep rfl rfl rfl (by simp) (Sub.refl _), ⟨hil, hGz⟩, by dsimp only; omega⟩
  · have hil' : i = l.length := by omega
    subst hil'
    rw [List.take_length] at hG
    refine E.cond (t := false) (by simp) (fun h => by cases h) (fun _ => ?_)
    refine E.exit ?_ -- 0
    refine E.seq ?_
    refine E.reg hr (by simp; rfl) ?_ -- region 7
    refine E.ret ?_
    exact outK.ret rfl rfl (hG.fresh (Nat.le_refl _) (sgs_af l) fun ρ => sgs_ren ρ l)
end Go.Proofs.Ytljglocehbccnaa

namespace Go.Proofs.Ytljglocehbccnaa
open Go Go.Ab Go.Proofs
set_option maxRecDepth 20000
def shortV (t : Int) (L : Nat) : Bool := (decide (t ≤ 60) || decide (4096 < t)) && (decide (L ≤ 6) || decide (L = 65))
theorem w19 {H : Heap} {n : Nat} (x y dx dy t : Int) (oa : Option Addr) (L c : Nat) : AC Try.prog 19 [.agg ⟨[iv x, iv y, iv dx, iv dy, iv t]⟩, .slice oa L c] H n (.bool (shortV t L)) H n := by
  refine AC.given fun hold hsc _ => AC.tidied (B := []) (by simp) ?_
  have hr := recT_ok (P := Try.prog) (l := []) (by simp)
  refine AC.pure Try.func19 rfl (by kernel_rfl) rfl [] rfl ?_
  refine E.seq ?_
  refine E.reg hr (by simp; rfl) ?_ -- region 0
  refine E.seq ?_
  unfold shortV
  by_cases h1 : t ≤ 60 <;> by_cases h2 : 4096 < t <;> by_cases h3 : L ≤ 6 <;> by_cases h4 : L = 65 <;>
  · have h4' : ((L : Int) = 65) ↔ L = 65 := by omega
    have h3' : ((L : Int) ≤ 6) ↔ L ≤ 6 := by omega
    refine E.reg hr (by simp [h1, h2, h3, h4, h3', h4', yieldedA, undefV]; rfl) ?_ -- region 1
    refine E.ret ?_
    exact pureK.ret rfl rfl (by simp [h1, h2, h3, h4]) (Sub.cons (by simp) (Sub.refl _))
def g19 (args : List Value) (H : Heap) (n : Nat) : R := match args with
  | [.agg ⟨[.int .i64 _, .int .i64 _, .int .i64 _, .int .i64 _, .int .i64 t]⟩, .slice _ L _] => some (.bool (shortV t L), H, n)
  | _ => none
theorem ok19 : EntOk Try.prog (19, g19) := by
  intro args H n v H' n' h
  simp only [g19] at h
  split at h
  · injection h with h; injection h with e1 e2; injection e2 with e2 e3; subst e1 e2 e3
    exact w19 _ _ _ _ _ _ _ _
  · cases h
def g20 (args : List Value) (H : Heap) (n : Nat) : R := match args with
  | [.agg ⟨[.int .i64 x, .int .i64 y, .int .i64 dx, .int .i64 dy, .int .i64 t]⟩, .agg ⟨[.int .i64 r, .int .i64 s, .int .i64 l, .int .i64 c, .int .i64 f]⟩, v] => (sigV H v).map fun q => (iv (brE ⟨r, s, l, c, f, x, y, dx, dy, t⟩ q), H, n)
  | _ => none
theorem ok20 : EntOk Try.prog (20, g20) := by
  intro args H n v H' n' h
  simp only [g20] at h
  split at h
  · rw [Option.map_eq_some_iff] at h
    obtain ⟨l, h4, h⟩ := h
    injection h with e1 e2; injection e2 with e2 e3; subst e1 e2 e3
    exact w20 ⟨_, _, _, _, _, _, _, _, _, _⟩ h4
  · cases h
def Brg.run (b : Brg) (v : Value) (p q r : Int) : Value := .agg ⟨[iv b.x, iv b.y, iv b.dx, iv b.dy, iv b.t, iv b.r, iv b.s, iv b.l, iv b.c, iv b.f, v, .int .u8 p, .int .u8 q, .int .u8 r]⟩
def runV (b : Brg) (L : Nat) (l : List Sg) : Bool := shortV b.t L && decide (brE b l = 0)
theorem w5 {H : Heap} {n : Nat} (b : Brg) {oa : Option Addr} {L c : Nat} {l : List Sg} (p q r : Int) (hV : shortV b.t L = true → sigV H (.slice oa L c) = some l) : AC Try.prog 5 [b.run (.slice oa L c) p q r] H n (.bool (runV b L l)) H n := by
  refine AC.given fun hold hsc _ => AC.tidied (B := []) (by simp) ?_
  replace hV : shortV b.t L = true → sigV (tidy n H) (.slice oa L c) = some l := fun h => listV_tidy decG_tidy (fun k b h => (hold k b h).1) (hV h)
  have hr := recT_ok (P := Try.prog) (l := [(19, g19), (20, g20)]) (by simp [ok19, ok20])
  have h19 : ∀ H m, g19 [.agg ⟨[iv b.x, iv b.y, iv b.dx, iv b.dy, iv b.t]⟩, .slice oa L c] H m = some (.bool (shortV b.t L), H, m) := fun _ _ => rfl
  have h20 : ∀ z m, shortV b.t L = true → g20 [.agg ⟨[iv b.x, iv b.y, iv b.dx, iv b.dy, iv b.t]⟩, .agg ⟨[iv b.r, iv b.s, iv b.l, iv b.c, iv b.f]⟩, .slice oa L c] ((n, z) :: tidy n H) m = some (iv (brE b l), (n, z) :: tidy n H, m) := fun z m h => by
    have : sigV ((n, z) :: tidy n H) (.slice oa L c) = some l := listV_mono decG_mono (Sub.cons (by simp) (Sub.refl _)) (hV h)
    simp only [g20]
    rw [this]
    rfl
  unfold Brg.run runV
  refine AC.pure Try.func5 rfl (by kernel_rfl) rfl [] rfl ?_
  refine E.seq ?_
  refine E.reg hr (by simp; rfl) ?_ -- region 0
  refine E.seq ?_
  cases hs : shortV b.t L with
  | false =>
    rw [hs] at h19
    refine E.reg hr (by simp [h19, yieldedA, undefV]; rfl) ?_ -- region 1
    refine E.ret ?_
    exact pureK.ret rfl rfl (by simp) (Sub.cons (by simp) (Sub.refl _))
  | true =>
    replace h20 := fun z m => h20 z m hs
    rw [hs] at h19
    refine E.reg hr (by simp [h19, h20, yieldedA]; rfl) ?_ -- region 1
    refine E.ret ?_
    exact pureK.ret rfl rfl (by simp) (Sub.cons (by simp) (Sub.refl _))
/-! ### what the checks say -/
theorem within0' {a lo hi : Int} (h : withinV a lo hi = 0) : lo ≤ a ∧ a ≤ hi := by
  unfold withinV at h
  split at h
  · cases h
  · omega
theorem first0' {e : Int} {l : List Int} (h : firstV (e :: l) = 0) : e = 0 ∧ firstV l = 0 := by
  rw [firstV] at h
  split at h
  · rename_i h0; exact ⟨h0, h⟩
  · rename_i h0; exact absurd h h0
theorem brE0 {b : Brg} {l : List Sg} (h : brE b l = 0) : 1 ≤ b.t ∧ b.t ≤ 4096 := by
  unfold brE at h
  obtain ⟨h1, _⟩ := first0' h
  unfold vesV at h1
  obtain ⟨_, h1⟩ := first0' h1
  obtain ⟨_, h1⟩ := first0' h1
  obtain ⟨h1, _⟩ := first0' h1
  exact within0' h1
end Go.Proofs.Ytljglocehbccnaa

namespace Go.Proofs.Ytljglocehbccnaa
open Go Go.Ab Go.Proofs
set_option maxRecDepth 20000
def g24 (args : List Value) (H : Heap) (n : Nat) : R := match args with
  | [.agg ⟨[.int .i64 x, .int .i64 y, .int .i64 dx, .int .i64 dy, .int .i64 t]⟩, .agg ⟨[.int .i64 r, .int .i64 s, .int .i64 l, .int .i64 c, .int .i64 f]⟩, v] => (sigV H v).map fun q => (.tuple #[Brg.val ⟨r, s, l, c, f, x, y, dx, dy, t⟩ v, iv (brE ⟨r, s, l, c, f, x, y, dx, dy, t⟩ q)], H, n)
  | _ => none
theorem ok24 : EntOk Try.prog (24, g24) := by
  intro args H n v H' n' h
  simp only [g24] at h
  split at h
  · rw [Option.map_eq_some_iff] at h
    obtain ⟨l, h4, h⟩ := h
    injection h with e1 e2; injection e2 with e2 e3; subst e1 e2 e3
    exact w24 ⟨_, _, _, _, _, _, _, _, _, _⟩ h4
  · cases h
def g26 (args : List Value) (H : Heap) (n : Nat) : R := match args with
  | [.agg ⟨[.int .i64 r, .int .i64 s, .int .i64 l, .int .i64 c, .int .i64 f, .int .i64 x, .int .i64 y, .int .i64 dx, .int .i64 dy, .int .i64 t, v]⟩] => if 0 ≤ t ∧ t ≤ 4096 then (sigV H v).map fun q => (.slice (some ⟨n, 0, none⟩) t.toNat t.toNat, (n, .cells (levL ⟨r, s, l, c, f, x, y, dx, dy, t⟩ q) 3) :: H, n + 1) else none
  | _ => none
theorem ok26 : EntOk Try.prog (26, g26) := by
  intro args H n v H' n' h
  simp only [g26] at h
  split at h
  · split at h
    · rename_i ht
      rw [Option.map_eq_some_iff] at h
      obtain ⟨l, h4, h⟩ := h
      injection h with e1 e2; injection e2 with e2 e3; subst e1 e2 e3
      exact w26 ⟨_, _, _, _, _, _, _, _, _, _⟩ h4 ht.1 ht.2
    · cases h
  · cases h
theorem w10 {H : Heap} {n : Nat} {v : Value} (b : Brg) {l : List Sg} (hV : sigV H v = some l) (hE : brE b l = 0) : AC Try.prog 10 [.agg ⟨[iv b.x, iv b.y, iv b.dx, iv b.dy, iv b.t]⟩, .agg ⟨[iv b.r, iv b.s, iv b.l, iv b.c, iv b.f]⟩, v] H n (.tuple #[.slice (some ⟨n, 0, none⟩) b.t.toNat b.t.toNat, iv 0]) ([(n, .cells (levL b l) 3)] ++ H) (n + 1) := by
  refine AC.given fun hold hsc hgn => AC.tidied (fun x hx => ?_) ?_
  · rw [List.mem_singleton] at hx; subst hx; exact Nat.le_refl _
  replace hV : sigV (tidy n H) v = some l := listV_tidy decG_tidy (fun k b h => (hold k b h).1) hV
  obtain ⟨h0, h1⟩ := brE0 hE
  have hr := recT_ok (P := Try.prog) (l := [(24, g24), (26, g26)]) (by simp [ok24, ok26])
  obtain ⟨oa, c, rfl, hlt, hrow⟩ := sigV_form hV
  obtain ⟨R, hR⟩ : ∃ R, levL b l = R := ⟨_, rfl⟩
  have haf : afL R = true := by rw [← hR]; exact levL_af b l
  have hren : ∀ ρ, renL ρ R = R := fun ρ => by rw [← hR]; exact levL_ren b l ρ
  have h24 : ∀ y z m, g24 [.agg ⟨[iv b.x, iv b.y, iv b.dx, iv b.dy, iv b.t]⟩, .agg ⟨[iv b.r, iv b.s, iv b.l, iv b.c, iv b.f]⟩, .slice oa l.length c] ((n + 1, y) :: (n, z) :: tidy n H) m = some (.tuple #[b.val (.slice oa l.length c), iv 0], (n + 1, y) :: (n, z) :: tidy n H, m) := fun y z m => by
    have : sigV ((n + 1, y) :: (n, z) :: tidy n H) (.slice oa l.length c) = some l := listV_mono decG_mono (Sub.cons (by simp) (Sub.cons (by simp) (Sub.refl _))) hV
    simp only [g24]
    rw [this, ← hE]
    rfl
  have h26 : ∀ x y z m, g26 [.agg ⟨[iv b.r, iv b.s, iv b.l, iv b.c, iv b.f, iv b.x, iv b.y, iv b.dx, iv b.dy, iv b.t, .slice oa l.length c]⟩] ((n + 1 + 1, x) :: (n + 1, y) :: (n, z) :: tidy n H) m = some (.slice (some ⟨m, 0, none⟩) b.t.toNat b.t.toNat, (m, .cells R 3) :: (n + 1 + 1, x) :: (n + 1, y) :: (n, z) :: tidy n H, m + 1) := fun x y z m => by
    have : sigV ((n + 1 + 1, x) :: (n + 1, y) :: (n, z) :: tidy n H) (.slice oa l.length c) = some l := listV_mono decG_mono (Sub.cons (by simp) (Sub.cons (by simp) (Sub.cons (by simp) (Sub.refl _)))) hV
    simp only [g26]
    rw [this, if_pos ⟨by omega, h1⟩, ← hR]
    rfl
  rw [hR]
  unfold Brg.val at h24
  refine AC.fresh Try.func10 rfl (by kernel_rfl) rfl [] (by omega) ⟨show n < n + 1 by omega, trivial, trivial⟩ (fun ρ => rfl) ?_
  refine E.seq ?_
  refine E.reg hr (by simp; rfl) ?_ -- region 0
  refine E.seq ?_
  refine E.reg hr (by simp [h24]; rfl) ?_ -- region 1
  refine E.seq ?_
  refine E.seq ?_
  refine E.reg hr (by simp; rfl) ?_ -- region 2
  refine E.cond (t := false) (by simp) (fun h => by cases h) (fun _ => ?_)
  refine E.skip ?_
  refine E.seq ?_
  refine E.reg hr (by simp [h26]; rfl) ?_ -- region 4
  refine E.ret ?_
  exact outK.ret rfl rfl ((fresh_cells haf hren (by omega) (by rw [hget_cons, if_pos rfl]) (Sub.cons (by simp) (Sub.cons (by simp) (Sub.cons (by simp) (Sub.cons (by simp) (Sub.refl _)))))).pair 0)
end Go.Proofs.Ytljglocehbccnaa

namespace Go.Proofs.Ytljglocehbccnaa
open Go Go.Ab Go.Proofs
set_option maxRecDepth 20000
def insL (b : Brg) (l : List Sg) : List Value := (List.range b.t.toNat).map fun t : Nat => .bool (insideV b l (t : Int))
theorem insL_af (b : Brg) (l : List Sg) : afL (insL b l) = true := by
  unfold insL
  generalize List.range b.t.toNat = r
  induction r with
  | nil => rfl
  | cons t r ih => simp only [List.map_cons, afL, ih, af]; rfl
theorem insL_ren (b : Brg) (l : List Sg) (ρ : Nat → Nat) : renL ρ (insL b l) = insL b l := renL_afl ρ _ fun v hv => by
  unfold insL at hv
  rw [List.mem_map] at hv
  obtain ⟨t, _, rfl⟩ := hv
  rfl
theorem w8 {H : Heap} {n : Nat} {v : Value} (b : Brg) {l : List Sg} (hV : sigV H v = some l) (hE : brE b l = 0) : AC Try.prog 8 [.agg ⟨[iv b.x, iv b.y, iv b.dx, iv b.dy, iv b.t]⟩, .agg ⟨[iv b.r, iv b.s, iv b.l, iv b.c, iv b.f]⟩, v] H n (.tuple #[.slice (some ⟨n, 0, none⟩) b.t.toNat b.t.toNat, iv 0]) ([(n, .cells (insL b l) 4)] ++ H) (n + 1) := by
  refine AC.given fun hold hsc hgn => AC.tidied (fun x hx => ?_) ?_
  · rw [List.mem_singleton] at hx; subst hx; exact Nat.le_refl _
  replace hV : sigV (tidy n H) v = some l := listV_tidy decG_tidy (fun k b h => (hold k b h).1) hV
  obtain ⟨h0, h1⟩ := brE0 hE
  have hr := recT_ok (P := Try.prog) (l := [(24, g24), (25, g25)]) (by simp [ok24, ok25])
  obtain ⟨oa, c, rfl, hlt, hrow⟩ := sigV_form hV
  obtain ⟨T, hT⟩ := Int.eq_ofNat_of_zero_le (show 0 ≤ b.t by omega)
  have hTn : b.t.toNat = T := by omega
  have hlL : (insL b l).length = T := by simp [insL, hTn]
  obtain ⟨R, hR⟩ : ∃ R, insL b l = R := ⟨_, rfl⟩
  have hRat : ∀ i : Nat, i < T → R[i]? = some (.bool (insideV b l (i : Int))) := fun i h => by
    rw [← hR]; unfold insL; rw [hTn, List.getElem?_map, List.getElem?_range h]; rfl
  have haf : afL R = true := by rw [← hR]; exact insL_af b l
  have hren : ∀ ρ, renL ρ R = R := fun ρ => by rw [← hR]; exact insL_ren b l ρ
  rw [hR] at hlL ⊢
  have h24 : ∀ y z m, g24 [.agg ⟨[iv b.x, iv b.y, iv b.dx, iv b.dy, iv b.t]⟩, .agg ⟨[iv b.r, iv b.s, iv b.l, iv b.c, iv b.f]⟩, .slice oa l.length c] ((n + 1, y) :: (n, z) :: tidy n H) m = some (.tuple #[b.val (.slice oa l.length c), iv 0], (n + 1, y) :: (n, z) :: tidy n H, m) := fun y z m => by
    have : sigV ((n + 1, y) :: (n, z) :: tidy n H) (.slice oa l.length c) = some l := listV_mono decG_mono (Sub.cons (by simp) (Sub.cons (by simp) (Sub.refl _))) hV
    simp only [g24]
    rw [this, ← hE]
    rfl
  have h25 : ∀ w x y z t m, g25 [.agg ⟨[iv b.r, iv b.s, iv b.l, iv b.c, iv b.f, iv b.x, iv b.y, iv b.dx, iv b.dy, iv b.t, .slice oa l.length c]⟩, iv t] ((n + 1 + 1 + 1, w) :: (n + 1 + 1, x) :: (n + 1, y) :: (n, z) :: tidy n H) m = some (.bool (insideV b l t), (n + 1 + 1 + 1, w) :: (n + 1 + 1, x) :: (n + 1, y) :: (n, z) :: tidy n H, m) := fun w x y z t m => by
    have : sigV ((n + 1 + 1 + 1, w) :: (n + 1 + 1, x) :: (n + 1, y) :: (n, z) :: tidy n H) (.slice oa l.length c) = some l := listV_mono decG_mono (Sub.cons (by simp) (Sub.cons (by simp) (Sub.cons (by simp) (Sub.cons (by simp) (Sub.refl _))))) hV
    simp only [g25]
    rw [this]
    rfl
  unfold Brg.val at h24
  obtain ⟨bt, hbt⟩ : ∃ bt, b.t = bt := ⟨_, rfl⟩
  rw [hbt] at h0 h1 hT hTn h24 h25 ⊢
  rw [hTn]
  refine AC.fresh Try.func8 rfl (by kernel_rfl) rfl [8, 10, 11, 26, 27] (by omega) ⟨show n < n + 1 by omega, trivial, trivial⟩ (fun ρ => rfl) ?_
  refine E.seq ?_
  refine E.reg hr (by simp; rfl) ?_ -- region 0
  refine E.seq ?_
  refine E.reg hr (by simp [h24]; rfl) ?_ -- region 1
  refine E.seq ?_
  refine E.seq ?_
  refine E.reg hr (by simp; rfl) ?_ -- region 2
  refine E.cond (t := false) (by simp) (fun h => by cases h) (fun _ => ?_)
  refine E.skip ?_
  refine E.seq ?_
  refine E.reg hr (by simp [mk39 (w := bt) (by omega) h1, hTn]; rfl) ?_ -- region 4
  refine E.seq ?_
  refine E.seq ?_
  refine E.reg hr (by simp; rfl) ?_ -- region 5
  refine E.block ?_ -- 0
  refine E.loop ?_
  refine EL.ind (fun x : Nat × List Value => { fr := [(8, .pointer (some ⟨n + 1 + 1, 0, none⟩)), (10, .slice (some ⟨n + 1 + 1 + 1, 0, none⟩) T T), (26, iv bt), (27, iv x.1)], sz := 38, H := (n + 1 + 1 + 1, .cells x.2 4) :: (n + 1 + 1, .cells [iv b.r, iv b.s, iv b.l, iv b.c, iv b.f, iv b.x, iv b.y, iv b.dx, iv b.dy, iv bt, .slice oa l.length c] 84) :: (n + 1, .cells [iv b.r, iv b.s, iv b.l, iv b.c, iv b.f] 43) :: (n, .cells [iv b.x, iv b.y, iv b.dx, iv b.dy, iv bt] 42) :: tidy n H, n := n + 1 + 1 + 1 + 1, marks := [], vs := [8, 10, 11, 26, 27] }) (fun x => T - x.1) (fun x => x.1 ≤ T ∧ x.2.length = T ∧ ∀ j : Nat, j < x.1 → x.2[j]? = some (.bool (insideV b l (j : Int)))) (0, List.replicate T (.bool false)) (.keep rfl rfl rfl (by simp) (Sub.refl _)) ⟨Nat.zero_le _, by simp, fun j hj => by omega⟩ (fun _ => rfl) ?_
  rintro ⟨i, cs⟩ ⟨hi, hcl, hg⟩
  dsimp only at hi hcl hg ⊢
  have hw : IntKind.i64.wrap ((i : Int) + 1) = (i : Int) + 1 := W_in (by omega) (by omega)
  refine E.seq ?_
  refine E.reg hr (by simp; rfl) ?_ -- region 6
  refine E.seq ?_
  by_cases hil : i < T
  · have hilb : (i : Int) < bt := by omega
    obtain ⟨V, hVl⟩ : ∃ V, insideV b l i = V := ⟨_, rfl⟩
    have hst : ∀ Z : Heap, storeA ((n + 1 + 1 + 1, .cells cs 4) :: Z) (n + 1 + 1 + 1) i [.bool V] = some ((n + 1 + 1 + 1, .cells (cs.set i (.bool V)) 4) :: Z) := fun Z => by
      rw [store_at (by rw [hget_cons, if_pos rfl]) (by omega)]; simp
    have hset : ∀ j : Nat, j < i + 1 → (cs.set i (.bool V))[j]? = some (.bool (insideV b l (j : Int))) := fun j hj => by
      by_cases e : j = i
      · subst e; rw [List.getElem?_set_self (by omega), hVl]
      · rw [List.getElem?_set_ne (by omega)]; exact hg j (by omega)
    have h25' := fun w x y z m => h25 w x y z i m
    rw [hVl] at h25'
    refine E.cond (t := true) (by simp [hilb]) (fun _ => ?_) (fun h => by cases h)
    refine E.skip ?_
    refine E.seq ?_
    refine E.block ?_ -- 1
    refine E.seq ?_
    refine E.reg hr (by simp; rfl) ?_ -- region 7
    refine E.reg hr (by simp [-storeA, h25', hil, hst]; rfl) ?_ -- region 8
    refine E.reg hr (by simp [hw]; rfl) ?_ -- region 9
    exact ⟨(i + 1, cs.set i (.bool V)), .keep rfl rfl rfl (by simp) (Sub.refl _), ⟨hil, by simp [hcl], hset⟩, by dsimp only; omega⟩
  · have hilb : ¬ (i : Int) < bt := by omega
    have hcs : cs = R := List.ext_getElem? fun j => by
      by_cases hj : j < T
      · rw [hg j (by omega), hRat j hj]
      · rw [List.getElem?_eq_none (by omega), List.getElem?_eq_none (by omega)]
    subst hcs
    refine E.cond (t := false) (by simp [hilb]) (fun h => by cases h) (fun _ => ?_)
    refine E.exit ?_ -- 0
    refine E.seq ?_
    refine E.reg hr (by simp; rfl) ?_ -- region 10
    refine E.ret ?_
    exact outK.ret rfl rfl ((fresh_cells haf hren (by omega) (by rw [hget_cons, if_pos rfl]) (Sub.cons (by simp) (Sub.cons (by simp) (Sub.cons (by simp) (Sub.cons (by simp) (Sub.refl _)))))).pair 0)
end Go.Proofs.Ytljglocehbccnaa
