/-
The walks of the least moments, by the program and by the reference; and the plain law that moments raised until nothing is too small are the least ones (each under the conditions in its statement).
-/
import Derived.Test.YtkongcnmkiihjaaGreatDoorYe
namespace Go.Proofs.YtkongcnmkiihjaaGreatDoor
open Go Go.Ab Go.Proofs
/-! ### the least moments -/
theorem rep_cells (w : Nat) : ((Array.range (w * 1)).map ((if w * 1 = 0 then #[] else #[Value.int .i64 0])[· % (if w * 1 = 0 then #[] else #[Value.int .i64 0]).size]!)).toList = List.replicate w (iv 0) := by
  refine List.eq_replicate_iff.2 ⟨by simp, fun x hx => ?_⟩
  simp only [Array.toList_map, List.mem_map, Array.toList_range, List.mem_range] at hx
  obtain ⟨i, hi, rfl⟩ := hx
  rw [if_neg (by omega)]
  simp [Nat.mod_one]
theorem mk24 {fr : Fr} {H : Heap} {n : Nat} {x y : Operand} {w : Int} (h0 : 0 ≤ w) (h1 : w ≤ 4096) (hx : evO Tryz.prog fr x = some (iv w)) (hy : evO Tryz.prog fr y = some (iv w)) : opMakeslice Tryz.prog 24 x y fr H n = some (.slice (some ⟨n, 0, none⟩) w.toNat w.toNat, (n, .cells (List.replicate w.toNat (iv 0)) 3) :: H, n + 1) := by
  unfold opMakeslice
  rw [hx, hy, Tryz.underlying24]
  have hz : Tryz.t3.zero = some (.int .i64 0) := by kernel_rfl
  have hb : Tryz.t3.bytes = 8 := by kernel_rfl
  have hs : Tryz.t3.size = 1 := by kernel_rfl
  simp only [inf3, hz, hb, hs]
  have hc : (0 ≤ w ∧ w ≤ w ∧ (smallA 8 w.toNat && afL (Value.int .i64 0).cells.toList) = true) := ⟨h0, Int.le_refl _, by simp [smallA]; omega⟩
  rw [if_pos hc]
  unfold newA
  rw [show (Value.int .i64 0).cells = #[Value.int .i64 0] from rfl, rep_cells]
/-- a list of integers, as it lies -/
def ic (l : List Int) : List Value := l.map iv
@[simp] theorem ic_length (l : List Int) : (ic l).length = l.length := by simp [ic]
@[simp] theorem ic_get {l : List Int} {i : Nat} (h : i < (ic l).length) : (ic l)[i] = iv (l[i]'(by simpa using h)) := by simp [ic]
theorem ic_set {l : List Int} {i : Nat} (h : i < l.length) (v : Int) : List.take i (ic l) ++ iv v :: List.drop (i + 1) (ic l) = ic (l.set i v) := by
  rw [List.set_eq_take_append_cons_drop, if_pos h]
  simp [ic]
@[simp] theorem renL_ic (ρ : Nat → Nat) (l : List Int) : renL ρ (ic l) = ic l := by
  rw [renL_eq, ic, List.map_map]; rfl
@[simp] theorem scL_ic (p : Nat → Prop) (l : List Int) : scL p (ic l) := scL_af p _ (afL_iv l)
def mtrm (l : List Pk) (lo hi : Int) (j k : Nat) : Int := if k ≤ j then (pkA l k).low + lo * ((pkA l (j + 1)).t - (pkA l k).t) else (pkA l k).low - hi * ((pkA l k).t - (pkA l (j + 1)).t)
def mfold (l : List Pk) (lo hi : Int) (j : Nat) : Nat → Int
  | 0 => (pkA l (j + 1)).low
  | k + 1 => max (mfold l lo hi j k) (mtrm l lo hi j k)
def momV (l : List Pk) (lo hi : Int) (j : Nat) : Int := mfold l lo hi j (l.length + 1)
def momL (l : List Pk) (lo hi : Int) : List Int := (List.range l.length).map (momV l lo hi)
theorem momL_eq {l : List Pk} {lo hi : Int} {os : List Int} (hl : os.length = l.length) (h : ∀ i, i < l.length → os[i]? = some (momV l lo hi i)) : os = momL l lo hi := by
  apply List.ext_getElem?
  intro i
  by_cases hi : i < l.length
  · rw [h i hi, momL, List.getElem?_map, List.getElem?_range hi]; rfl
  · rw [List.getElem?_eq_none (by omega), List.getElem?_eq_none (by simp [momL]; omega)]
theorem neq76 {x y : Operand} {H : Heap} {n : Nat} : binV Tryz.prog .neq 76 x y (.agg #[iv 0, iv 0]) (.agg #[iv 0, iv 0]) H n = some (.bool false, H, n) := by kernel_rfl
abbrev S47 (l : List Pk) (lo hi : Int) (os : List Int) (j : Nat) : St := { fr := [(0, rowV l.length), (3, .pointer (some ⟨10, 0, none⟩)), (9, .slice (some ⟨11, 0, none⟩) l.length l.length), (36, iv l.length), (37, iv j)], sz := 102, H := [(11, .cells (ic os) 3), (10, .cells [iv lo, iv hi] 74), (9, .row (pcs l) 3)], n := 12, marks := [], vs := [0, 3, 9, 10, 11, 13, 36, 37] }
abbrev T47 (l : List Pk) (lo hi : Int) (os : List Int) (j k : Nat) : St := { fr := [(0, rowV l.length), (3, .pointer (some ⟨10, 0, none⟩)), (9, .slice (some ⟨11, 0, none⟩) l.length l.length), (10, iv j), (11, iv (pkA l (j + 1)).t), (13, iv ((k : Int) - 1)), (36, iv l.length), (37, iv j)], sz := 102, H := [(11, .cells (ic os) 3), (10, .cells [iv lo, iv hi] 74), (9, .row (pcs l) 3)], n := 12, marks := [], vs := [0, 3, 9, 10, 11, 13, 36, 37] }
def momQ (b : Nat) (l : List Int) (v : Value) (H : Heap) : Prop := ∃ m, v = .tuple #[.slice (some ⟨m, 0, none⟩) l.length l.length, iv 0] ∧ hget H m = some (.cells (ic l) 3) ∧ b ≤ m
theorem w47x (l : List Pk) (lo hi : Int) (hl : l.length < 2 ^ 63) (hc : refE l lo hi ≠ 0 ∨ (seek l lo hi).isSome = true) : AC Tryz.prog 47 [rowV l.length, ivl lo hi] (bH l) 10 (.tuple #[.slice none 0 0, iv (if refE l lo hi = 0 then 18 else refE l lo hi)]) (bH l) 10 := by
  have hr := recT_ok (P := Tryz.prog) (l := [(45, g45)]) (by simp [ok45])
  have hl' : l.length < 9223372036854775808 := by omega
  refine AC.pure Tryz.func47 rfl (by kernel_rfl) rfl [] rfl ?_
  refine E.seq ?_
  refine E.reg hr (by simp; rfl) ?_ -- region 0
  refine E.seq ?_
  refine E.reg hr (by simp [g45, pksP, rowPks, rowOf, pksOf_pcs, hl']; rfl) ?_ -- region 1
  refine E.seq ?_
  refine E.seq ?_
  refine E.reg hr (by simp; rfl) ?_ -- region 2
  by_cases h : refE l lo hi = 0
  · have hs : (seek l lo hi).isSome = true := hc.resolve_left fun e => e h
    have hR : refR l lo hi = seek l lo hi := by rw [refR, if_pos h]
    refine E.cond (t := false) (by simp [h]) (fun h => by cases h) (fun _ => ?_)
    refine E.skip ?_
    refine E.seq ?_
    refine E.seq ?_
    refine E.reg hr (by simp [hR, hs, yieldedA]; rfl) ?_ -- region 4
    refine E.cond (t := true) (by simp) (fun _ => ?_) (fun h => by cases h)
    refine E.seq ?_
    refine E.reg hr (by simp; rfl) ?_ -- region 5
    refine E.ret ?_
    exact pureK.ret rfl rfl (by simp [h]) (by repeat first | exact sub_refl _ | refine sub_cons rfl ?_)
  · refine E.cond (t := true) (by simp [h]) (fun _ => ?_) (fun h => by cases h)
    refine E.seq ?_
    refine E.reg hr (by simp; rfl) ?_ -- region 3
    refine E.ret ?_
    exact pureK.ret rfl rfl (by simp [h]) (by repeat first | exact sub_refl _ | refine sub_cons rfl ?_)
set_option maxRecDepth 20000 in
theorem w47 (l : List Pk) (lo hi : Int) (hl : l.length < 2 ^ 63) (h : refE l lo hi = 0) (hs : seek l lo hi = none) : ∃ u H1 n1 H2, AC Tryz.prog 47 [rowV l.length, ivl lo hi] (bH l) 10 u H1 n1 ∧ momQ 10 (momL l lo hi) u H2 ∧ (af u = false → H1 = H2) := by
  have hr := recT_ok (P := Tryz.prog) (l := [(45, g45), (121, g121)]) (by simp [ok45, ok121])
  have hl' : l.length < 9223372036854775808 := by omega
  obtain ⟨hok, h64, hb⟩ := refE_ok h
  have hR : refR l lo hi = none := by rw [refR, if_pos h, hs]
  refine AC.out Tryz.func47 rfl (by kernel_rfl) rfl [0, 3, 9, 10, 11, 13, 36, 37] ?_
  refine E.seq ?_
  refine E.reg hr (by simp; rfl) ?_ -- region 0
  refine E.seq ?_
  refine E.reg hr (by simp [g45, pksP, rowPks, rowOf, pksOf_pcs, hl', hR, h, prA, prB]; rfl) ?_ -- region 1
  refine E.seq ?_
  refine E.seq ?_
  refine E.reg hr (by simp; rfl) ?_ -- region 2
  refine E.cond (t := false) (by simp) (fun h => by cases h) (fun _ => ?_)
  refine E.skip ?_
  refine E.seq ?_
  refine E.seq ?_
  refine E.reg hr (by simp [yieldedA, build76n, neq76]; rfl) ?_ -- region 4
  refine E.cond (t := false) (by simp) (fun h => by cases h) (fun _ => ?_)
  refine E.skip ?_
  refine E.seq ?_
  refine E.reg hr (by simp [mk24 (w := (l.length : Int)) (by omega) (by omega)]; rw [show List.replicate l.length (iv 0) = ic (List.replicate l.length 0) by simp [ic]]) ?_ -- region 6
  refine E.seq ?_
  refine E.seq ?_
  refine E.reg hr (by simp; rfl) ?_ -- region 7
  refine E.block ?_ -- 0
  refine E.loop ?_
  refine EL.ind (fun a : Nat × List Int => S47 l lo hi a.2 a.1) (fun a => l.length - a.1) (fun a => a.1 ≤ l.length ∧ a.2.length = l.length ∧ ∀ i, i < a.1 → a.2[i]? = some (momV l lo hi i)) (0, List.replicate l.length 0) (Leads.ren [10, 12] rfl rfl rfl ⟨rfl, rfl⟩ (by simp) (by simp)) ⟨Nat.zero_le _, by simp, fun i hi => by omega⟩ (fun _ => rfl) ?_
  rintro ⟨j, os⟩ ⟨hj, hos, hg⟩
  dsimp only at hj hos hg
  have hwj : IntKind.i64.wrap ((j : Int) + 1) = (j : Int) + 1 := W_in (by omega) (by omega)
  refine E.seq ?_
  refine E.reg hr (by simp; rfl) ?_ -- region 8
  refine E.seq ?_
  refine E.cond (by rfl) (fun h1 => ?_) (fun h1 => ?_)
  · simp at h1
    have hjo : j < os.length := by omega
    have hj1 : j + 1 ≤ os.length := hjo
    have a2 := atOk_nat hok h1
    have p2 := pkI_nat l j
    refine E.skip ?_
    refine E.seq ?_
    refine E.block ?_ -- 1
    refine E.seq ?_
    refine E.reg hr (by simp; rfl) ?_ -- region 9
    refine E.seq ?_
    refine E.reg hr (by simp [g121, rowPks, rowOf, pksOf_pcs, hl', a2, p2]; rfl) ?_ -- region 10
    refine E.seq ?_
    refine E.reg hr (by simp [h1, hj1, ic_set hjo]; rfl) ?_ -- region 11
    refine E.seq ?_
    refine E.reg hr (by simp; rfl) ?_ -- region 12
    refine E.block ?_ -- 2
    refine E.loop ?_
    refine EL.ind (fun k : Nat => T47 l lo hi (os.set j (mfold l lo hi j k)) j k) (fun k => l.length + 1 - k) (fun k => k ≤ l.length + 1) 0 (Leads.ren [10, 11] rfl rfl rfl ⟨rfl, rfl⟩ (by simp) (by simp [mfold])) (Nat.zero_le _) (fun _ => rfl) ?_
    intro k hk
    refine E.seq ?_
    refine E.seq ?_
    refine E.reg hr (by simp; rfl) ?_ -- region 13
    refine E.cond (by rfl) (fun h2 => ?_) (fun h2 => ?_)
    · simp at h2
      have hkl : k ≤ l.length := by omega
      have hwk : IntKind.i64.wrap (k : Int) = (k : Int) := W_in (by omega) (by omega)
      have a1 := atOk_pred hok hkl
      have p1 := pkI_pred l k
      have hjs : ∀ v, j < (os.set j v).length := fun v => by simpa using hjo
      have hset := fun v w => ic_set (hjs v) w
      obtain ⟨x1, x2, ⟨x3, x4⟩, x5, x6⟩ := hok.pkA hkl
      obtain ⟨y1, y2, ⟨y3, y4⟩, y5, y6⟩ := hok.pkA (show j + 1 ≤ l.length by omega)
      have hm : mtrm l lo hi j k = if k ≤ j then (pkA l k).low + lo * ((pkA l (j + 1)).t - (pkA l k).t) else (pkA l k).low - hi * ((pkA l k).t - (pkA l (j + 1)).t) := rfl
      generalize pkA l k = x at *
      generalize hY : pkA l (j + 1) = y at *
      obtain ⟨b1, b2, b3, b4, b5⟩ := hb
      have m1 := mul_in2 b3 b4 (show -1024 ≤ x.t - y.t by omega) (by omega)
      have m2 := mul_in2 b1 b2 (show -1024 ≤ y.t - x.t by omega) (by omega)
      have e0 : IntKind.i64.wrap (y.t - x.t) = y.t - x.t := W_in (by omega) (by omega)
      have e0' : IntKind.i64.wrap (x.t - y.t) = x.t - y.t := W_in (by omega) (by omega)
      have e1 : IntKind.i64.wrap (hi * (x.t - y.t)) = hi * (x.t - y.t) := W_in (by omega) (by omega)
      have e2 : IntKind.i64.wrap (x.low - hi * (x.t - y.t)) = x.low - hi * (x.t - y.t) := W_in (by omega) (by omega)
      have e3 : IntKind.i64.wrap (lo * (y.t - x.t)) = lo * (y.t - x.t) := W_in (by omega) (by omega)
      have e4 : IntKind.i64.wrap (x.low + lo * (y.t - x.t)) = x.low + lo * (y.t - x.t) := W_in (by omega) (by omega)
      refine E.skip ?_
      refine E.seq ?_
      refine E.block ?_ -- 3
      refine E.seq ?_
      refine E.reg hr (by simp [g121, rowPks, rowOf, pksOf_pcs, hl', a1, p1]; rfl) ?_ -- region 15
      refine E.seq ?_
      by_cases hkj : k ≤ j
      · rw [if_pos hkj] at hm
        have hlt : (k : Int) - 1 < (j : Int) := by omega
        refine E.reg hr (by simp [hlt]; rfl) ?_ -- region 16
        refine E.cond (t := true) (by simp) (fun _ => ?_) (fun h => by cases h)
        refine E.drawC mixed hr [17] [17] [5, 7, 9, 17] (by kernel_rfl) (by simp [h1, hjo, hj1, e0, e3, e4, max33, hset]; rfl) ?_ -- region 17
        refine E.reg hr (by simp [hwk]; rfl) ?_ -- region 14
        exact ⟨k + 1, Leads.ren [10, 11] rfl rfl rfl ⟨rfl, rfl⟩ (by simp [hY]) (by simp [mfold, hm]), by omega, by dsimp only; omega⟩
      · rw [if_neg hkj] at hm
        have hlt : ¬ (k : Int) - 1 < (j : Int) := by omega
        refine E.reg hr (by simp [hlt]; rfl) ?_ -- region 16
        refine E.cond (t := false) (by simp) (fun h => by cases h) (fun _ => ?_)
        refine E.drawC mixed hr [17] [17] [5, 7, 9, 17] (by kernel_rfl) (by simp [h1, hjo, hj1, e0', e1, e2, max33, hset]; rfl) ?_ -- region 18
        refine E.reg hr (by simp [hwk]; rfl) ?_ -- region 14
        exact ⟨k + 1, Leads.ren [10, 11] rfl rfl rfl ⟨rfl, rfl⟩ (by simp [hY]) (by simp [mfold, hm]), by omega, by dsimp only; omega⟩
    · simp at h2
      have hkk : k = l.length + 1 := by omega
      subst hkk
      refine E.exit ?_ -- 2
      refine E.reg hr (by simp [hwj]; rfl) ?_ -- region 19
      refine ⟨(j + 1, os.set j (momV l lo hi j)), .less rfl rfl rfl (by simp) (by simp [momV]), ⟨h1, by simpa using hos, fun i hi => ?_⟩, by dsimp only; omega⟩
      dsimp only
      by_cases hij : i = j
      · subst hij; simp [hjo]
      · rw [List.getElem?_set_ne (by omega)]; exact hg i (by dsimp only at hi; omega)
  · simp at h1
    have hjl : j = l.length := by omega
    subst hjl
    have := momL_eq hos hg
    subst this
    refine E.exit ?_ -- 0
    refine E.seq ?_
    refine E.reg hr (by simp; rfl) ?_ -- region 20
    refine E.ret ?_
    refine outK.ret rfl rfl ?_
    exact ⟨11, by simp [hos], by simp, by omega⟩
end Go.Proofs.YtkongcnmkiihjaaGreatDoor

namespace Go.Proofs.YtkongcnmkiihjaaGreatDoor
open Go Go.Ab Go.Proofs
theorem w47nx (lo hi : Int) (h : refE [] lo hi ≠ 0) : AC Tryz.prog 47 [.slice none 0 0, ivl lo hi] [] 9 (.tuple #[.slice none 0 0, iv (refE [] lo hi)]) [] 9 := by
  have hr := recT_ok (P := Tryz.prog) (l := [(45, g45)]) (by simp [ok45])
  refine AC.pure Tryz.func47 rfl (by kernel_rfl) rfl [] rfl ?_
  refine E.seq ?_
  refine E.reg hr (by simp; rfl) ?_ -- region 0
  refine E.seq ?_
  refine E.reg hr (by simp [g45, pksP]; rfl) ?_ -- region 1
  refine E.seq ?_
  refine E.seq ?_
  refine E.reg hr (by simp; rfl) ?_ -- region 2
  refine E.cond (t := true) (by simp [h]) (fun _ => ?_) (fun h => by cases h)
  refine E.seq ?_
  refine E.reg hr (by simp; rfl) ?_ -- region 3
  refine E.ret ?_
  exact pureK.ret rfl rfl (by simp) (by repeat first | exact sub_refl _ | refine sub_cons rfl ?_)
set_option maxRecDepth 20000 in
theorem w47n (lo hi : Int) (h : refE [] lo hi = 0) : ∃ u H1 n1 H2, AC Tryz.prog 47 [.slice none 0 0, ivl lo hi] [] 9 u H1 n1 ∧ momQ 9 [] u H2 ∧ (af u = false → H1 = H2) := by
  have hr := recT_ok (P := Tryz.prog) (l := [(45, g45)]) (by simp [ok45])
  refine AC.out Tryz.func47 rfl (by kernel_rfl) rfl [0, 3, 9, 10, 11, 13, 36, 37] ?_
  refine E.seq ?_
  refine E.reg hr (by simp; rfl) ?_ -- region 0
  refine E.seq ?_
  refine E.reg hr (by simp [g45, pksP, refR_nil, h, prA, prB]; rfl) ?_ -- region 1
  refine E.seq ?_
  refine E.seq ?_
  refine E.reg hr (by simp; rfl) ?_ -- region 2
  refine E.cond (t := false) (by simp) (fun h => by cases h) (fun _ => ?_)
  refine E.skip ?_
  refine E.seq ?_
  refine E.seq ?_
  refine E.reg hr (by simp [yieldedA, build76n, neq76]; rfl) ?_ -- region 4
  refine E.cond (t := false) (by simp) (fun h => by cases h) (fun _ => ?_)
  refine E.skip ?_
  refine E.seq ?_
  refine E.reg hr (by simp [mk24 (w := 0) (by omega) (by omega)]; rfl) ?_ -- region 6
  refine E.seq ?_
  refine E.seq ?_
  refine E.reg hr (by simp; rfl) ?_ -- region 7
  refine E.block ?_ -- 0
  refine E.loop ?_
  refine EL.step ?_
  refine E.seq ?_
  refine E.reg hr (by simp; rfl) ?_ -- region 8
  refine E.seq ?_
  refine E.cond (t := false) (by simp) (fun h => by cases h) (fun _ => ?_)
  refine E.exit ?_ -- 0
  refine E.seq ?_
  refine E.reg hr (by simp; rfl) ?_ -- region 20
  refine E.ret ?_
  refine outK.ret rfl rfl ?_
  exact ⟨11, by simp, by simp [ic], by omega⟩
theorem momL_nil (lo hi : Int) : momL [] lo hi = [] := rfl
def g47 (args : List Value) (H : Heap) (n : Nat) : R := match args with
  | [t, .agg ⟨[.int .i64 lo, .int .i64 hi]⟩] => match pksP H t with
    | some l => if refE l lo hi = 0 ∧ seek l lo hi = none then some (.tuple #[.slice (some ⟨n, 0, none⟩) l.length l.length, iv 0], (n, .cells (ic (momL l lo hi)) 3) :: H, n + 1) else some (.tuple #[.slice none 0 0, iv (if refE l lo hi = 0 then 18 else refE l lo hi)], H, n)
    | none => none
  | _ => none
@[simp] theorem momL_length (l : List Pk) (lo hi : Int) : (momL l lo hi).length = l.length := by simp [momL]
theorem names_mom (k : Nat) (e : Int) : Names1 fun m => .tuple #[.slice (some ⟨m, 0, none⟩) k k, iv e] := ⟨fun φ ψ m n h1 h2 => by simp [den, denL, h1], fun p n h => by simp [sc, scL, h]⟩
theorem ok47 : EntOk Tryz.prog (47, g47) := by
  intro args H n v H' n' h
  simp only [g47] at h
  split at h
  · rename_i t lo hi
    split at h
    · rename_i l h1
      split at h
      · rename_i hc
        obtain ⟨hz, hs⟩ := hc
        injection h with h; injection h with e1 e2; injection e2 with e2 e3; subst e1 e2 e3
        unfold pksP at h1
        split at h1
        · injection h1 with h1; subst h1
          refine AC.liftF (names_mom _ _) (.inl ⟨_, _, rfl, afL_iv _⟩) (Part.plain (by simp) [] (by simp [Seen]) gsz ?_)
          obtain ⟨u, H1, n1, H2, hAC, ⟨m, hu, hm, hle⟩, hh⟩ := w47n _ _ hz
          subst hu
          have := hh (by simp)
          subst this
          exact ⟨m, _, _, hle, hm, hAC⟩
        · obtain ⟨hb, rfl, hlt⟩ := rowPks_ok h1
          refine AC.liftF (names_mom _ _) (.inl ⟨_, _, rfl, afL_iv _⟩) (Part.row (fun x => [x, ivl _ _]) bnd_den bnd_sc hb (afL_pcs l) gsz ?_)
          obtain ⟨u, H1, n1, H2, hAC, ⟨m, hu, hm, hle⟩, hh⟩ := w47 l _ _ hlt hz hs
          subst hu
          rw [momL_length] at hAC hh
          have := hh (by simp)
          subst this
          exact ⟨m, _, _, by omega, hm, hAC⟩
        · cases h1
      · rename_i hc
        injection h with h; injection h with e1 e2; injection e2 with e2 e3; subst e1 e2 e3
        unfold pksP at h1
        split at h1
        · injection h1 with h1; subst h1
          have hz : refE [] lo hi ≠ 0 := fun e => hc ⟨e, rfl⟩
          rw [if_neg hz]
          exact AC.liftP (by simp) (Part.plain (by simp) [] (by simp [Seen]) gsz ⟨_, _, w47nx _ _ hz⟩)
        · obtain ⟨hb, rfl, hlt⟩ := rowPks_ok h1
          refine AC.liftP (by simp) (Part.row (fun x => [x, ivl _ _]) bnd_den bnd_sc hb (afL_pcs l) gsz ⟨_, _, w47x l _ _ hlt ?_⟩)
          by_cases hz : refE l lo hi = 0
          · refine .inr ?_
            cases hs : seek l lo hi with
            | none => exact absurd ⟨hz, hs⟩ hc
            | some _ => rfl
          · exact .inl hz
        · cases h1
    · cases h
  · cases h
end Go.Proofs.YtkongcnmkiihjaaGreatDoor

namespace Go.Proofs.YtkongcnmkiihjaaGreatDoor
open Go Go.Ab Go.Proofs
/-! ### moments raised until nothing is too small are the least ones -/
def Rising (l : List Pk) : Prop := ∀ k, k < l.length → (pkA l k).t ≤ (pkA l (k + 1)).t
theorem pfE_rise : ∀ (l : List Pk) (last : Int), pfE last l = 0 → ∀ k, (h : k < l.length) → (if k = 0 then last else l[k - 1].t) < l[k].t
  | [], _, _, k, h => by simp at h
  | p :: l, last, h0, k, h => by
    rw [pfE] at h0
    by_cases h1 : pstE last p = 0
    · rw [if_pos h1] at h0
      have ih := pfE_rise l p.t h0
      cases k with
      | zero =>
        simp only [if_true, List.getElem_cons_zero]
        rw [pstE, firstV] at h1
        by_cases h2 : p.err = 0
        · rw [if_pos h2] at h1
          by_cases h3 : p.t ≤ last
          · simp [firstV, whenV, h3] at h1
          · omega
        · rw [if_neg h2] at h1; exact absurd h1 h2
      | succ k =>
        have := ih k (by simpa using h)
        cases k with
        | zero => simpa using this
        | succ k => simpa using this
    · rw [if_neg h1] at h0; exact absurd h0 h1
theorem pksE_rise {l : List Pk} (h : pksE l = 0) : Rising l := by
  unfold pksE at h
  split at h
  · cases h
  · intro k hk
    have := pfE_rise l 0 h k hk
    rw [pkA_succ hk]
    cases k with
    | zero =>
      show (0 : Int) ≤ _
      simp only [if_true] at this
      omega
    | succ j =>
      rw [pkA_succ (by omega)]
      simp at this
      omega
theorem rise_le {l : List Pk} (h : Rising l) : ∀ (d k : Nat), k + d ≤ l.length → (pkA l k).t ≤ (pkA l (k + d)).t
  | 0, _, _ => Int.le_refl _
  | d + 1, k, hk => Int.le_trans (rise_le h d k (by omega)) (h (k + d) (by omega))
theorem le_mfold_base (l : List Pk) (lo hi : Int) (j : Nat) : ∀ m, (pkA l (j + 1)).low ≤ mfold l lo hi j m
  | 0 => Int.le_refl _
  | m + 1 => by
    have := le_mfold_base l lo hi j m
    simp only [mfold]
    omega
theorem le_mfold {l : List Pk} {lo hi : Int} {j k : Nat} : ∀ {m : Nat}, k < m → mtrm l lo hi j k ≤ mfold l lo hi j m
  | m + 1, h => by
    simp only [mfold]
    rcases Nat.lt_or_ge k m with h1 | h1
    · have := le_mfold (l := l) (lo := lo) (hi := hi) (j := j) h1
      omega
    · obtain rfl : k = m := by omega
      omega
theorem mfold_le {l : List Pk} {lo hi : Int} {j : Nat} {X : Int} (h0 : (pkA l (j + 1)).low ≤ X) : ∀ {m : Nat}, (∀ k, k < m → mtrm l lo hi j k ≤ X) → mfold l lo hi j m ≤ X
  | 0, _ => h0
  | m + 1, h => by
    have := mfold_le h0 (m := m) fun k hk => h k (by omega)
    have := h m (by omega)
    simp only [mfold]
    omega
theorem low_le_mom (l : List Pk) (lo hi : Int) (j : Nat) : (pkA l (j + 1)).low ≤ momV l lo hi j := le_mfold_base ..
theorem trm_le_mom {l : List Pk} {lo hi : Int} {j k : Nat} (h : k ≤ l.length) : mtrm l lo hi j k ≤ momV l lo hi j := le_mfold (by omega)
theorem mom_le {l : List Pk} {lo hi : Int} {j : Nat} {X : Int} (h0 : (pkA l (j + 1)).low ≤ X) (h : ∀ k, k ≤ l.length → mtrm l lo hi j k ≤ X) : momV l lo hi j ≤ X := mfold_le h0 fun k hk => h k (by omega)
theorem mom_hi {l : List Pk} {lo hi : Int} (hok : PksOk l) (hb : BndIn lo hi) {j : Nat} (hj : j < l.length) : momV l lo hi j ≤ 4000000000000 := by
  obtain ⟨y1, y2, ⟨y3, y4⟩, _⟩ := hok.pkA (show j + 1 ≤ l.length by omega)
  obtain ⟨b1, b2, b3, b4, b5⟩ := hb
  refine mom_le (by omega) fun k hk => ?_
  obtain ⟨x1, x2, ⟨x3, x4⟩, _⟩ := hok.pkA hk
  have m1 := mul_in2 b3 b4 (show -1024 ≤ (pkA l k).t - (pkA l (j + 1)).t by omega) (by omega)
  have m2 := mul_in2 b1 b2 (show -1024 ≤ (pkA l (j + 1)).t - (pkA l k).t by omega) (by omega)
  unfold mtrm
  split <;> omega
/-- one step on, a moment has grown by the least velocity at least, and by the greatest one at most -/
theorem mom_up {l : List Pk} {lo hi : Int} (hr : Rising l) (hlh : lo ≤ hi) {i : Nat} (hi1 : i + 1 < l.length) : momV l lo hi i + lo * ((pkA l (i + 1 + 1)).t - (pkA l (i + 1)).t) ≤ momV l lo hi (i + 1) := by
  have hd := hr (i + 1) (by omega)
  have hm := Int.mul_le_mul_of_nonneg_right hlh (show 0 ≤ (pkA l (i + 1 + 1)).t - (pkA l (i + 1)).t by omega)
  have h0 := trm_le_mom (l := l) (lo := lo) (hi := hi) (j := i + 1) (k := i + 1) (by omega)
  rw [mtrm, if_pos (Nat.le_refl _)] at h0
  have : momV l lo hi i ≤ momV l lo hi (i + 1) - lo * ((pkA l (i + 1 + 1)).t - (pkA l (i + 1)).t) := by
    refine mom_le (by omega) fun k hk => ?_
    have h1 := trm_le_mom (l := l) (lo := lo) (hi := hi) (j := i + 1) (k := k) hk
    unfold mtrm at h1 ⊢
    simp only [Int.mul_sub] at *
    rcases Nat.lt_trichotomy k (i + 1) with h | h | h
    · rw [if_pos (by omega)] at h1 ⊢
      omega
    · subst h
      rw [if_pos (Nat.le_refl _)] at h1
      rw [if_neg (by omega)]
      omega
    · rw [if_neg (by omega)] at h1 ⊢
      omega
  omega
theorem mom_down {l : List Pk} {lo hi : Int} (hr : Rising l) (hlh : lo ≤ hi) {i : Nat} (hi1 : i + 1 < l.length) : momV l lo hi (i + 1) - hi * ((pkA l (i + 1 + 1)).t - (pkA l (i + 1)).t) ≤ momV l lo hi i := by
  have hd := hr (i + 1) (by omega)
  have hm := Int.mul_le_mul_of_nonneg_right hlh (show 0 ≤ (pkA l (i + 1 + 1)).t - (pkA l (i + 1)).t by omega)
  have h0 := trm_le_mom (l := l) (lo := lo) (hi := hi) (j := i) (k := i + 1 + 1) (by omega)
  rw [mtrm, if_neg (by omega)] at h0
  have hb := low_le_mom l lo hi i
  have : momV l lo hi (i + 1) ≤ momV l lo hi i + hi * ((pkA l (i + 1 + 1)).t - (pkA l (i + 1)).t) := by
    refine mom_le (by omega) fun k hk => ?_
    have h1 := trm_le_mom (l := l) (lo := lo) (hi := hi) (j := i) (k := k) hk
    unfold mtrm at h1 ⊢
    simp only [Int.mul_sub] at *
    rcases Nat.lt_trichotomy k (i + 1) with h | h | h
    · rw [if_pos (by omega)] at h1 ⊢
      omega
    · subst h
      rw [if_neg (by omega)] at h1
      rw [if_pos (Nat.le_refl _)]
      omega
    · rw [if_neg (by omega)] at h1 ⊢
      omega
  omega
/-- what moments are so far; ahead of the first one the start -/
def aA (os : List Int) : Nat → Int
  | 0 => 0
  | j + 1 => os.getD j 0
theorem aA_get {os : List Int} {j : Nat} (h : j < os.length) : aA os (j + 1) = os[j] := by simp [aA, List.getD_eq_getElem?_getD, List.getElem?_eq_getElem h]
def upV (l : List Pk) (lo : Int) (os : List Int) (i : Nat) : Int := aA os i + lo * ((pkA l (i + 1)).t - (pkA l i).t)
def dnV (l : List Pk) (hi : Int) (os : List Int) (i : Nat) : Int := aA os (i + 1 + 1) - hi * ((pkA l (i + 1 + 1)).t - (pkA l (i + 1)).t)
def needV (l : List Pk) (lo hi : Int) (os : List Int) (i : Nat) : Int := if i + 1 < l.length then max (upV l lo os i) (dnV l hi os i) else upV l lo os i
structure Inv (l : List Pk) (lo hi : Int) (os : List Int) : Prop where
  len : os.length = l.length
  low : ∀ i, i < l.length → (pkA l (i + 1)).low ≤ aA os (i + 1)
  top : ∀ i, i < l.length → aA os (i + 1) ≤ momV l lo hi i
theorem up_le {l : List Pk} {lo hi : Int} {os : List Int} (hr : Rising l) (hlh : lo ≤ hi) (h : Inv l lo hi os) {i : Nat} (hi1 : i < l.length) : upV l lo os i ≤ momV l lo hi i := by
  unfold upV
  cases i with
  | zero =>
    have := trm_le_mom (l := l) (lo := lo) (hi := hi) (j := 0) (k := 0) (by omega)
    rw [mtrm, if_pos (Nat.le_refl _)] at this
    have h0 : (pkA l 0).low = 0 := by simp [pkA, Pk.low]
    simp only [aA]
    omega
  | succ i =>
    have h1 := h.top i (by omega)
    have h2 := mom_up hr hlh hi1
    omega
theorem dn_le {l : List Pk} {lo hi : Int} {os : List Int} (hr : Rising l) (hlh : lo ≤ hi) (h : Inv l lo hi os) {i : Nat} (hi1 : i + 1 < l.length) : dnV l hi os i ≤ momV l lo hi i := by
  unfold dnV
  have h1 := h.top (i + 1) hi1
  have h2 := mom_down hr hlh hi1
  omega
theorem need_le {l : List Pk} {lo hi : Int} {os : List Int} (hr : Rising l) (hlh : lo ≤ hi) (h : Inv l lo hi os) {i : Nat} (hi1 : i < l.length) : needV l lo hi os i ≤ momV l lo hi i := by
  have h1 := up_le hr hlh h hi1
  unfold needV
  split
  · have h2 := dn_le hr hlh h (i := i) (by omega)
    omega
  · exact h1
theorem aA_set {os : List Int} {i : Nat} (h : i < os.length) (v : Int) (k : Nat) : aA (os.set i v) (k + 1) = if k = i then v else aA os (k + 1) := by
  simp only [aA, List.getD_eq_getElem?_getD]
  by_cases hk : k = i
  · subst hk; simp [h]
  · rw [List.getElem?_set_ne (by omega), if_neg hk]
theorem Inv.set {l : List Pk} {lo hi : Int} {os : List Int} (h : Inv l lo hi os) {i : Nat} (hi1 : i < l.length) {v : Int} (h1 : aA os (i + 1) ≤ v) (h2 : v ≤ momV l lo hi i) : Inv l lo hi (os.set i v) := by
  have hl := h.len
  refine ⟨by simpa using hl, fun k hk => ?_, fun k hk => ?_⟩
  · rw [aA_set (by omega)]
    split
    · rename_i e; subst e; exact Int.le_trans (h.low k hk) h1
    · exact h.low k hk
  · rw [aA_set (by omega)]
    split
    · rename_i e; subst e; exact h2
    · exact h.top k hk
def gapF (l : List Pk) (lo hi : Int) (os : List Int) : Nat → Nat
  | 0 => 0
  | k + 1 => gapF l lo hi os k + (momV l lo hi k - aA os (k + 1)).toNat
theorem gap_set {l : List Pk} {lo hi : Int} {os : List Int} {i : Nat} (hl : i < os.length) {v : Int} (h1 : aA os (i + 1) < v) (h2 : v ≤ momV l lo hi i) : ∀ k, gapF l lo hi (os.set i v) k + (if i < k then 1 else 0) ≤ gapF l lo hi os k
  | 0 => by simp [gapF]
  | k + 1 => by
    have ih := gap_set hl h1 h2 k
    simp only [gapF, aA_set hl]
    by_cases hk : k = i
    · subst hk
      rw [if_neg (Nat.lt_irrefl _)] at ih
      simp only [if_true, if_pos (Nat.lt_succ_self _)]
      omega
    · rw [if_neg hk]
      by_cases hik : i < k
      · rw [if_pos hik] at ih; rw [if_pos (by omega)]; omega
      · rw [if_neg hik] at ih; rw [if_neg (by omega)]; omega
def gap (l : List Pk) (lo hi : Int) (os : List Int) : Nat := gapF l lo hi os l.length
theorem gap_lt {l : List Pk} {lo hi : Int} {os : List Int} {i : Nat} (hl : os.length = l.length) (hi1 : i < l.length) {v : Int} (h1 : aA os (i + 1) < v) (h2 : v ≤ momV l lo hi i) : gap l lo hi (os.set i v) < gap l lo hi os := by
  have := gap_set (l := l) (lo := lo) (hi := hi) (os := os) (by omega) h1 h2 l.length
  rw [if_pos hi1] at this
  exact this
theorem chain_up {l : List Pk} {lo hi : Int} {os : List Int} (hf : ∀ i, i < l.length → needV l lo hi os i ≤ aA os (i + 1)) (k : Nat) : ∀ d, k + d ≤ l.length → aA os k + lo * ((pkA l (k + d)).t - (pkA l k).t) ≤ aA os (k + d)
  | 0, _ => by simp
  | d + 1, hk => by
    have ih := chain_up hf k d (by omega)
    have h1 := hf (k + d) (by omega)
    have h2 : upV l lo os (k + d) ≤ needV l lo hi os (k + d) := by
      unfold needV
      split <;> omega
    unfold upV at h2
    simp only [Int.mul_sub] at *
    rw [show k + (d + 1) = k + d + 1 by omega]
    omega
theorem chain_dn {l : List Pk} {lo hi : Int} {os : List Int} (hf : ∀ i, i < l.length → needV l lo hi os i ≤ aA os (i + 1)) (k : Nat) : ∀ d, k + 1 + d ≤ l.length → aA os (k + 1 + d) - hi * ((pkA l (k + 1 + d)).t - (pkA l (k + 1)).t) ≤ aA os (k + 1)
  | 0, _ => by simp
  | d + 1, hk => by
    have ih := chain_dn hf k d (by omega)
    have h1 := hf (k + d) (by omega)
    have h2 : dnV l hi os (k + d) ≤ needV l lo hi os (k + d) := by
      unfold needV
      rw [if_pos (by omega)]
      omega
    unfold dnV at h2
    rw [show k + 1 + (d + 1) = k + d + 1 + 1 by omega]
    rw [show k + 1 + d = k + d + 1 by omega] at ih
    simp only [Int.mul_sub] at *
    omega
theorem fix_eq {l : List Pk} {lo hi : Int} {os : List Int} (h : Inv l lo hi os) (hf : ∀ i, i < l.length → needV l lo hi os i ≤ aA os (i + 1)) : os = momL l lo hi := by
  have hlow : ∀ k, k ≤ l.length → (pkA l k).low ≤ aA os k := fun k hk => by
    cases k with
    | zero => simp [pkA, Pk.low, aA]
    | succ k => exact h.low k (by omega)
  refine momL_eq h.len fun j hj => ?_
  have hl := h.len
  rw [List.getElem?_eq_getElem (by omega), ← aA_get (by omega)]
  congr 1
  refine Int.le_antisymm (h.top j hj) (mom_le (h.low j hj) fun k hk => ?_)
  have h1 := hlow k hk
  unfold mtrm
  split
  · rename_i hkj
    have := chain_up hf k (j + 1 - k) (by omega)
    rw [show k + (j + 1 - k) = j + 1 by omega] at this
    omega
  · rename_i hkj
    have := chain_dn hf j (k - (j + 1)) (by omega)
    rw [show j + 1 + (k - (j + 1)) = k by omega] at this
    omega
def lowL (l : List Pk) : List Int := l.map Pk.low
theorem Inv.init (l : List Pk) (lo hi : Int) : Inv l lo hi (lowL l) := by
  have key : ∀ i, i < l.length → aA (lowL l) (i + 1) = (pkA l (i + 1)).low := fun i hi => by
    rw [aA_get (by simpa [lowL] using hi), pkA_succ hi]
    simp [lowL]
  exact ⟨by simp [lowL], fun i hi => by rw [key i hi]; exact Int.le_refl _, fun i hi => by rw [key i hi]; exact low_le_mom ..⟩
end Go.Proofs.YtkongcnmkiihjaaGreatDoor

namespace Go.Proofs.YtkongcnmkiihjaaGreatDoor
open Go Go.Ab Go.Proofs
/-! ### the least moments by the reference -/
theorem ic_snoc (a : List Int) (x : Int) : ic a ++ [iv x] = ic (a ++ [x]) := by simp [ic]
theorem ic_take {l : List Int} {k : Nat} (h : l.length ≤ k) : List.take k (ic l) = ic l := List.take_of_length_le (by simpa using h)
def lowT (l : List Pk) (i : Nat) : List Int := (lowL l).take i
theorem lowT_length {l : List Pk} {i : Nat} (h : i ≤ l.length) : (lowT l i).length = i := by simp [lowT, lowL]; omega
theorem lowT_succ {l : List Pk} {i : Nat} (h : i < l.length) : lowT l i ++ [l[i].low] = lowT l (i + 1) := by
  unfold lowT
  rw [List.take_succ_eq_append_getElem (by simpa [lowL] using h)]
  simp [lowL]
theorem lowT_all (l : List Pk) : lowT l l.length = lowL l := List.take_of_length_le (by simp [lowL])
def A53 (l : List Pk) (o c : Nat) (lo hi : Int) : Nat → St
  | 0 => { fr := [(0, inpV o l.length c), (3, .pointer (some ⟨10, 0, none⟩)), (8, .slice none 0 0), (9, iv 0)], sz := 95, H := [(10, .cells [iv lo, iv hi] 74), (9, .inp o (pcs l))], n := 11, marks := [], vs := [0, 3, 8, 9, 10, 11] }
  | i + 1 => { fr := [(0, inpV o l.length c), (3, .pointer (some ⟨10, 0, none⟩)), (8, .slice (some ⟨11, 0, some 0⟩) (i + 1) 0), (9, iv (i + 1 : Nat))], sz := 95, H := [(11, .ext (ic (lowT l (i + 1))) 3 1), (10, .cells [iv lo, iv hi] 74), (9, .inp o (pcs l))], n := 12, marks := [], vs := [0, 3, 8, 9, 10, 11] }
abbrev B53 (l : List Pk) (o c : Nat) (lo hi : Int) (ch : Bool) (os : List Int) : St := { fr := [(0, inpV o l.length c), (3, .pointer (some ⟨10, 0, none⟩)), (8, .slice (some ⟨11, 0, some 0⟩) l.length 0), (10, .bool ch)], sz := 95, H := [(11, .ext (ic os) 3 1), (10, .cells [iv lo, iv hi] 74), (9, .inp o (pcs l))], n := 12, marks := [], vs := [0, 3, 8, 9, 10, 11] }
abbrev C53 (l : List Pk) (o c : Nat) (lo hi : Int) (ch : Bool) (os : List Int) (i : Nat) : St := { fr := [(0, inpV o l.length c), (3, .pointer (some ⟨10, 0, none⟩)), (8, .slice (some ⟨11, 0, some 0⟩) l.length 0), (10, .bool ch), (11, iv i)], sz := 95, H := [(11, .ext (ic os) 3 1), (10, .cells [iv lo, iv hi] 74), (9, .inp o (pcs l))], n := 12, marks := [], vs := [0, 3, 8, 9, 10, 11] }
def mo2Q (b : Nat) (l : List Int) (v : Value) (H : Heap) : Prop := ∃ m, v = .tuple #[.slice (some ⟨m, 0, some 0⟩) l.length 0, iv 0] ∧ hget H m = some (.ext (ic l) 3 1) ∧ b ≤ m
theorem aA_bnd {l : List Pk} {lo hi : Int} {os : List Int} (hok : PksOk l) (hb : BndIn lo hi) (h : Inv l lo hi os) {k : Nat} (hk : k ≤ l.length) : -4000000000000 ≤ aA os k ∧ aA os k ≤ 4000000000000 := by
  cases k with
  | zero => simp [aA]
  | succ j =>
    have h1 := h.low j (by omega)
    have h2 := h.top j (by omega)
    have h3 := mom_hi hok hb (show j < l.length by omega)
    have h4 := (hok.pkA hk).2.2.1
    omega
set_option maxRecDepth 20000 in
theorem w53 (l : List Pk) (o c : Nat) (lo hi : Int) (hne : l ≠ []) (h : refE l lo hi = 0) (hs : seek l lo hi = none) : ∃ u H1 n1 H2, AC Tryz.prog 53 [inpV o l.length c, ivl lo hi] [(9, .inp o (pcs l))] 10 u H1 n1 ∧ mo2Q 10 (momL l lo hi) u H2 ∧ (af u = false → H1 = H2) := by
  have hr := recT_ok (P := Tryz.prog) (l := [(52, g52), (125, g125), (126, g126)]) (by simp [ok52, ok125, ok126])
  obtain ⟨hok, h64, hb⟩ := refE_ok h
  have hrise : Rising l := by
    refine pksE_rise ?_
    simp only [refE, firstV] at h
    by_cases hz : pksE l = 0
    · exact hz
    · rw [if_neg hz] at h; exact absurd h hz
  have hlh : lo ≤ hi := hb.2.2.2.2
  have hl' : l.length < 9223372036854775808 := by omega
  have hpos : 0 < l.length := List.length_pos_iff.2 hne
  have ht : List.take (l.length * 3) (pcs l) = pcs l := List.take_of_length_le (by simp)
  refine AC.out Tryz.func53 rfl (by kernel_rfl) rfl [0, 3, 8, 9, 10, 11] ?_
  refine E.seq ?_
  refine E.reg hr (by simp; rfl) ?_ -- region 0
  refine E.seq ?_
  refine E.seq ?_
  refine E.reg hr (by simp [g52, pksR, pksAt, flat, ht, pksOf_pcs, hl', h, hs, prA, prB]; rfl) ?_ -- region 1
  refine E.seq ?_
  refine E.reg hr (by simp; rfl) ?_ -- region 2
  refine E.cond (t := false) (by simp) (fun h => by cases h) (fun _ => ?_)
  refine E.skip ?_
  refine E.seq ?_
  refine E.reg hr (by simp; rfl) ?_ -- region 4
  refine E.seq ?_
  refine E.seq ?_
  refine E.reg hr (by simp; rfl) ?_ -- region 5
  refine E.block ?_ -- 0
  refine E.loop ?_
  refine EL.ind (A53 l o c lo hi) (fun i => l.length - i) (fun i => i ≤ l.length) 0 (Leads.ren [10] rfl rfl rfl ⟨rfl, rfl⟩ (by simp [A53]) (by simp [A53])) (Nat.zero_le _) (fun i => by cases i <;> rfl) ?_
  intro i hi0
  have hwi : IntKind.i64.wrap ((i : Int) + 1) = (i : Int) + 1 := W_in (by omega) (by omega)
  refine E.seq ?_
  refine E.seq ?_
  rcases i with _ | i
  · refine E.reg hr (by simp [A53]; rfl) ?_ -- region 6
    have aI : atOk l 0 = true := atOk_nat hok (j := 0) hpos
    have pI : pkI l 0 = l[0] := by rw [show pkI l 0 = pkA l 1 from pkI_nat l 0, pkA_succ hpos]
    have hl1 : ic (lowT l 1) = [iv l[0].low] := by rw [← lowT_succ hpos]; simp [lowT, ic]
    refine E.cond (t := true) (by simp; omega) (fun _ => ?_) (fun h => by cases h)
    refine E.skip ?_
    refine E.seq ?_
    refine E.block ?_ -- 1
    refine E.reg hr (by simp [g126, pksAt, flat, ht, pksOf_pcs, hl', aI, pI]; rfl) ?_ -- region 8
    refine E.reg hr (by simp [show IntKind.i64.wrap 1 = 1 from W_in (by omega) (by omega)]; rfl) ?_ -- region 7
    exact ⟨1, Leads.ren [10, 12] rfl rfl rfl ⟨rfl, rfl⟩ (by simp [A53]) (by simp [A53, hl1]), by omega, by dsimp only; omega⟩
  · refine E.reg hr (by simp [A53]; rfl) ?_ -- region 6
    by_cases h1 : i + 1 < l.length
    · have aI : atOk l ((i : Int) + 1) = true := by have := atOk_nat hok (j := i + 1) h1; simpa using this
      have pI : pkI l ((i : Int) + 1) = l[i + 1] := by
        have := pkI_nat l (i + 1)
        rw [pkA_succ h1] at this
        simpa using this
      have hlen : (lowT l (i + 1)).length = i + 1 := lowT_length hi0
      have htk : List.take (i + 1) (ic (lowT l (i + 1))) = ic (lowT l (i + 1)) := ic_take (by omega)
      have hsm : (i + 1 + 1) * 8 ≤ 1099511627776 ∧ i + 1 + 1 ≤ 1099511627776 := by omega
      have hsn := ic_snoc (lowT l (i + 1)) l[i + 1].low
      rw [lowT_succ h1] at hsn
      have hw2 : IntKind.i64.wrap ((i : Int) + 1 + 1) = (i : Int) + 1 + 1 := W_in (by omega) (by omega)
      have hI : (i : Int) + 1 < l.length := by omega
      refine E.cond (t := true) (by simp; omega) (fun _ => ?_) (fun h => by cases h)
      refine E.skip ?_
      refine E.seq ?_
      refine E.block ?_ -- 1
      refine E.reg hr (by simp [g126, pksAt, flat, ht, pksOf_pcs, hl', aI, pI, hlen, htk, hsm, hsn]; rfl) ?_ -- region 8
      refine E.reg hr (by simp [hw2]; rfl) ?_ -- region 7
      exact ⟨i + 1 + 1, Leads.ren [10, 13] rfl rfl rfl ⟨rfl, rfl⟩ (by simp [A53]) (by simp [A53]), by omega, by dsimp only; omega⟩
    · have hll : l.length = i + 1 := by omega
      refine E.cond (t := false) (by simp; omega) (fun h => by cases h) (fun _ => ?_)
      refine E.exit ?_ -- 0
      refine E.seq ?_
      refine E.seq ?_
      refine E.reg hr (by simp; rfl) ?_ -- region 9
      refine E.block ?_ -- 2
      refine E.loop ?_
      refine EL.ind (fun a : Bool × List Int => B53 l o c lo hi a.1 a.2) (fun a => gap l lo hi a.2 + (if a.1 then 1 else 0)) (fun a => Inv l lo hi a.2 ∧ (a.1 = false → ∀ i, i < l.length → needV l lo hi a.2 i ≤ aA a.2 (i + 1))) (true, lowL l) (.less rfl rfl rfl (by simp [hll]) (by simp [← lowT_all, hll])) ⟨Inv.init l lo hi, fun e => by cases e⟩ (fun _ => rfl) ?_
      rintro ⟨ch, os⟩ ⟨hI, hfix⟩
      dsimp only at hI hfix
      refine E.seq ?_
      refine E.seq ?_
      refine E.reg hr (by simp; rfl) ?_ -- region 10
      cases ch with
      | false =>
        have := fix_eq hI (hfix rfl)
        subst this
        refine E.cond (t := false) (by simp) (fun h => by cases h) (fun _ => ?_)
        refine E.exit ?_ -- 2
        refine E.seq ?_
        refine E.reg hr (by simp; rfl) ?_ -- region 23
        refine E.ret ?_
        refine outK.ret rfl rfl ?_
        exact ⟨11, by simp, by simp, by omega⟩
      | true =>
        refine E.cond (t := true) (by simp) (fun _ => ?_) (fun h => by cases h)
        refine E.skip ?_
        refine E.block ?_ -- 3
        refine E.seq ?_
        refine E.reg hr (by simp; rfl) ?_ -- region 11
        refine E.seq ?_
        refine E.reg hr (by simp; rfl) ?_ -- region 12
        refine E.block ?_ -- 4
        refine E.loop ?_
        refine EL.ind (fun a : Nat × Bool × List Int => C53 l o c lo hi a.2.1 a.2.2 a.1) (fun a => l.length - a.1) (fun a => a.1 ≤ l.length ∧ Inv l lo hi a.2.2 ∧ (a.2.1 = false → a.2.2 = os ∧ ∀ k, k < a.1 → needV l lo hi os k ≤ aA os (k + 1)) ∧ (a.2.1 = true → gap l lo hi a.2.2 < gap l lo hi os)) (0, false, os) (.less rfl rfl rfl (by simp) (by simp)) ⟨Nat.zero_le _, hI, fun _ => ⟨rfl, fun k hk => by omega⟩, fun e => by cases e⟩ (fun _ => rfl) ?_
        rintro ⟨i, cg, ot⟩ ⟨hin, hJ, hsame, hless⟩
        dsimp only at hin hJ hsame hless
        have hol := hJ.len
        refine E.seq ?_
        refine E.seq ?_
        refine E.reg hr (by simp; rfl) ?_ -- region 13
        by_cases hil : i < l.length
        · have hgo : ∀ v, aA ot (i + 1) < v → v ≤ momV l lo hi i → Inv l lo hi (ot.set i v) ∧ gap l lo hi (ot.set i v) < gap l lo hi os := fun v hv1 hv2 => by
            refine ⟨hJ.set hil (by omega) hv2, ?_⟩
            have h1 := gap_lt (l := l) (lo := lo) (hi := hi) hol hil hv1 hv2
            cases cg with
            | false => rw [(hsame rfl).1] at h1 ⊢; exact h1
            | true => have := hless rfl; omega
          have hstay : needV l lo hi ot i ≤ aA ot (i + 1) → (cg = false → ot = os ∧ ∀ k, k < i + 1 → needV l lo hi os k ≤ aA os (k + 1)) := fun hn e => by
            obtain ⟨e1, e2⟩ := hsame e
            refine ⟨e1, fun k hk => ?_⟩
            by_cases hki : k = i
            · subst hki; rw [← e1]; exact hn
            · exact e2 k (by omega)
          have hneed := need_le hrise hlh hJ hil
          refine E.cond (t := true) (by simp; omega) (fun _ => ?_) (fun h => by cases h)
          refine E.skip ?_
          refine E.seq ?_
          refine E.block ?_ -- 5
          refine E.seq ?_
          refine E.reg hr (by simp; rfl) ?_ -- region 15
          refine E.seq ?_
          refine E.seq ?_
          obtain ⟨x1, x2, ⟨x3, x4⟩, x5, x6⟩ := hok.pkA (show i ≤ l.length by omega)
          obtain ⟨y1, y2, ⟨y3, y4⟩, y5, y6⟩ := hok.pkA (show i + 1 ≤ l.length by omega)
          have hbk := hb
          obtain ⟨b1, b2, b3, b4, b5⟩ := hbk
          have ba := aA_bnd hok hb hJ (show i ≤ l.length by omega)
          have m1 := mul_in2 b1 b2 (show -1024 ≤ (pkA l (i + 1)).t - (pkA l i).t by omega) (by omega)
          have e0 : IntKind.i64.wrap ((pkA l (i + 1)).t - (pkA l i).t) = (pkA l (i + 1)).t - (pkA l i).t := W_in (by omega) (by omega)
          have e1 : IntKind.i64.wrap (lo * ((pkA l (i + 1)).t - (pkA l i).t)) = lo * ((pkA l (i + 1)).t - (pkA l i).t) := W_in (by omega) (by omega)
          have e2 : IntKind.i64.wrap (aA ot i + lo * ((pkA l (i + 1)).t - (pkA l i).t)) = upV l lo ot i := by rw [W_in (by omega) (by omega)]; rfl
          have hcur : ∀ (hx : i < ot.length), ot[i] = aA ot (i + 1) := fun hx => (aA_get hx).symm
          have hio : i < ot.length := by omega
          have hsetv := fun v => ic_set hio v
          cases i with
          | zero =>
            have hwP : IntKind.i64.wrap (-1) = -1 := W_in (by omega) (by omega)
            have hwN : IntKind.i64.wrap 1 = 1 := W_in (by omega) (by omega)
            have aI : atOk l 0 = true := atOk_nat hok (j := 0) hil
            have pI : pkI l 0 = pkA l (0 + 1) := pkI_nat l 0
            have aP : atOk l (-1) = true := by have := atOk_pred hok (k := 0) (by omega); simpa using this
            have pP : pkI l (-1) = pkA l 0 := by have := pkI_pred l 0; simpa using this
            have ha0 : aA ot 0 = 0 := rfl
            simp only [Nat.zero_add] at pI e0 e1 e2 hcur
            rw [ha0, Int.zero_add] at e2
            have hup : lo * ((pkA l 1).t - (pkA l 0).t) = upV l lo ot 0 := by simp [upV, aA]
            rw [hup] at e1 e2
            clear e1
            have e1 := hup
            have hilI : (0 : Int) < (l.length : Int) := by omega
            have hi1o : 1 ≤ ot.length := hio
            have hq : True := trivial
            have hqn : True := trivial
            have hset0 : ∀ v, ic (ot.set 0 v) = iv v :: (ic ot).tail := fun v => by have := hsetv v; simpa using this.symm
            have hsetv : True := trivial
            refine E.reg hr (by simp; rfl) ?_ -- region 16
            refine E.cond (t := false) (by simp) (fun h => by cases h) (fun _ => ?_)
            refine E.skip ?_
            refine E.seq ?_
            refine E.drawC mixed hr [] [5, 9] [2, 5, 9] (by kernel_rfl) (by simp [g125, pksAt, flat, ht, pksOf_pcs, hl', hwP, aI, pI, aP, pP, e0, e1, e2]; rfl) ?_ -- region 18
            refine E.seq ?_
            refine E.seq ?_
            refine E.reg hr (by simp [hwN]; rfl) ?_ -- region 19
            by_cases hn : 0 + 1 < l.length
            · have aN : atOk l 1 = true := by have := atOk_nat hok (j := 0 + 1) hn; simpa using this
              have pN : pkI l 1 = pkA l (0 + 1 + 1) := by have := pkI_nat l (0 + 1); simpa using this
              obtain ⟨z1, z2, ⟨z3, z4⟩, z5, z6⟩ := hok.pkA (show 0 + 1 + 1 ≤ l.length by omega)
              have bc := aA_bnd hok hb hJ (show 0 + 1 + 1 ≤ l.length by omega)
              have m2 := mul_in2 b3 b4 (show -1024 ≤ (pkA l (0 + 1 + 1)).t - (pkA l (0 + 1)).t by omega) (by omega)
              have f0 : IntKind.i64.wrap ((pkA l (0 + 1 + 1)).t - (pkA l (0 + 1)).t) = (pkA l (0 + 1 + 1)).t - (pkA l (0 + 1)).t := W_in (by omega) (by omega)
              have f1 : IntKind.i64.wrap (hi * ((pkA l (0 + 1 + 1)).t - (pkA l (0 + 1)).t)) = hi * ((pkA l (0 + 1 + 1)).t - (pkA l (0 + 1)).t) := W_in (by omega) (by omega)
              have f2 : IntKind.i64.wrap (aA ot (0 + 1 + 1) - hi * ((pkA l (0 + 1 + 1)).t - (pkA l (0 + 1)).t)) = dnV l hi ot (0) := by rw [W_in (by omega) (by omega)]; rfl
              have hno : 0 + 1 < ot.length := by omega
              have hnv : ot[0 + 1] = aA ot (0 + 1 + 1) := (aA_get hno).symm
              have hnI : 1 < (l.length : Int) := by omega
              have hmax : max (upV l lo ot (0)) (dnV l hi ot (0)) = needV l lo hi ot (0) := by rw [needV, if_pos hn]
              refine E.cond (t := true) (by simp; omega) (fun _ => ?_) (fun h => by cases h)
              refine E.drawC mixed hr [] [11, 14] [5, 7, 11, 14] (by kernel_rfl) (by simp [g125, pksAt, flat, ht, pksOf_pcs, hl', hwN, aI, pI, aN, pN, f0, f1, f2, hno, hnv, hnI, max33, hmax]; rfl) ?_ -- region 20
              refine E.seq ?_
              refine E.reg hr (by simp [hil, hio, hcur]; rfl) ?_ -- region 21
              by_cases hgt : aA ot (0 + 1) < needV l lo hi ot (0)
              · obtain ⟨hJ2, hgap⟩ := hgo _ hgt hneed
                refine E.cond (t := true) (by simpa using hgt) (fun _ => ?_) (fun h => by cases h)
                refine E.reg hr (by simp [hil, hi1o]; rfl) ?_ -- region 22
                refine E.reg hr (by simp [hwN]; rfl) ?_ -- region 14
                exact ⟨(0 + 1, true, ot.set (0) (needV l lo hi ot (0))), .less rfl rfl rfl (by simp) (by simp [hset0]), ⟨hil, hJ2, fun e => (by cases e), fun _ => hgap⟩, by dsimp only; omega⟩
              · refine E.cond (t := false) (by simpa using hgt) (fun h => by cases h) (fun _ => ?_)
                refine E.skip ?_
                refine E.reg hr (by simp [hwN]; rfl) ?_ -- region 14
                exact ⟨(0 + 1, cg, ot), .less rfl rfl rfl (by simp) (by simp), ⟨hil, hJ, hstay (by omega), hless⟩, by dsimp only; omega⟩
            · have hmax : upV l lo ot (0) = needV l lo hi ot (0) := by rw [needV, if_neg hn]
              refine E.cond (t := false) (by simp; omega) (fun h => by cases h) (fun _ => ?_)
              refine E.skip ?_
              rw [hmax]
              refine E.seq ?_
              refine E.reg hr (by simp [hil, hio, hcur]; rfl) ?_ -- region 21
              by_cases hgt : aA ot (0 + 1) < needV l lo hi ot (0)
              · obtain ⟨hJ2, hgap⟩ := hgo _ hgt hneed
                refine E.cond (t := true) (by simpa using hgt) (fun _ => ?_) (fun h => by cases h)
                refine E.reg hr (by simp [hil, hi1o]; rfl) ?_ -- region 22
                refine E.reg hr (by simp [hwN]; rfl) ?_ -- region 14
                exact ⟨(0 + 1, true, ot.set (0) (needV l lo hi ot (0))), .less rfl rfl rfl (by simp) (by simp [hset0]), ⟨hil, hJ2, fun e => (by cases e), fun _ => hgap⟩, by dsimp only; omega⟩
              · refine E.cond (t := false) (by simpa using hgt) (fun h => by cases h) (fun _ => ?_)
                refine E.skip ?_
                refine E.reg hr (by simp [hwN]; rfl) ?_ -- region 14
                exact ⟨(0 + 1, cg, ot), .less rfl rfl rfl (by simp) (by simp), ⟨hil, hJ, hstay (by omega), hless⟩, by dsimp only; omega⟩
          | succ j =>
            have hwP : IntKind.i64.wrap (j : Int) = (j : Int) := W_in (by omega) (by omega)
            have hwN : IntKind.i64.wrap ((j : Int) + 1 + 1) = (j : Int) + 1 + 1 := W_in (by omega) (by omega)
            have aI : atOk l ((j : Int) + 1) = true := by have := atOk_nat hok (j := j + 1) hil; simpa using this
            have pI : pkI l ((j : Int) + 1) = pkA l (j + 1 + 1) := by have := pkI_nat l (j + 1); simpa using this
            have aP : atOk l (j : Int) = true := atOk_nat hok (j := j) (by omega)
            have pP : pkI l (j : Int) = pkA l (j + 1) := pkI_nat l j
            have hjl : j < l.length := by omega
            have hjo : j < ot.length := by omega
            have hjv : ot[j] = aA ot (j + 1) := (aA_get hjo).symm
            have hilI : (j : Int) + 1 < (l.length : Int) := by omega
            have hi1o : j + 1 + 1 ≤ ot.length := hio
            have hset0 : True := trivial
            have hp : (0 : Int) < (j : Int) + 1 := by omega
            have hq : (0 : Int) ≤ (j : Int) + 1 + 1 := by omega
            have hqn : ((j : Int) + 1 + 1).toNat = j + 1 + 1 := by omega
            refine E.reg hr (by simp; rfl) ?_ -- region 16
            refine E.cond (t := true) (by simp <;> omega) (fun _ => ?_) (fun h => by cases h)
            refine E.reg hr (by simp [hwP, hjl, hjo, hjv]; rfl) ?_ -- region 17
            refine E.seq ?_
            refine E.drawC mixed hr [] [5, 9] [2, 5, 9] (by kernel_rfl) (by simp [g125, pksAt, flat, ht, pksOf_pcs, hl', hwP, aI, pI, aP, pP, e0, e1, e2]; rfl) ?_ -- region 18
            refine E.seq ?_
            refine E.seq ?_
            refine E.reg hr (by simp [hwN]; rfl) ?_ -- region 19
            by_cases hn : j + 1 + 1 < l.length
            · have aN : atOk l ((j : Int) + 1 + 1) = true := by have := atOk_nat hok (j := j + 1 + 1) hn; simpa using this
              have pN : pkI l ((j : Int) + 1 + 1) = pkA l (j + 1 + 1 + 1) := by have := pkI_nat l (j + 1 + 1); simpa using this
              obtain ⟨z1, z2, ⟨z3, z4⟩, z5, z6⟩ := hok.pkA (show j + 1 + 1 + 1 ≤ l.length by omega)
              have bc := aA_bnd hok hb hJ (show j + 1 + 1 + 1 ≤ l.length by omega)
              have m2 := mul_in2 b3 b4 (show -1024 ≤ (pkA l (j + 1 + 1 + 1)).t - (pkA l (j + 1 + 1)).t by omega) (by omega)
              have f0 : IntKind.i64.wrap ((pkA l (j + 1 + 1 + 1)).t - (pkA l (j + 1 + 1)).t) = (pkA l (j + 1 + 1 + 1)).t - (pkA l (j + 1 + 1)).t := W_in (by omega) (by omega)
              have f1 : IntKind.i64.wrap (hi * ((pkA l (j + 1 + 1 + 1)).t - (pkA l (j + 1 + 1)).t)) = hi * ((pkA l (j + 1 + 1 + 1)).t - (pkA l (j + 1 + 1)).t) := W_in (by omega) (by omega)
              have f2 : IntKind.i64.wrap (aA ot (j + 1 + 1 + 1) - hi * ((pkA l (j + 1 + 1 + 1)).t - (pkA l (j + 1 + 1)).t)) = dnV l hi ot (j + 1) := by rw [W_in (by omega) (by omega)]; rfl
              have hno : j + 1 + 1 < ot.length := by omega
              have hnv : ot[j + 1 + 1] = aA ot (j + 1 + 1 + 1) := (aA_get hno).symm
              have hnI : ((j : Int) + 1 + 1) < (l.length : Int) := by omega
              have hmax : max (upV l lo ot (j + 1)) (dnV l hi ot (j + 1)) = needV l lo hi ot (j + 1) := by rw [needV, if_pos hn]
              refine E.cond (t := true) (by simp; omega) (fun _ => ?_) (fun h => by cases h)
              refine E.drawC mixed hr [] [11, 14] [5, 7, 11, 14] (by kernel_rfl) (by simp [g125, pksAt, flat, ht, pksOf_pcs, hl', hwN, aI, pI, aN, pN, f0, f1, f2, hno, hnv, hnI, hq, hqn, max33, hmax]; rfl) ?_ -- region 20
              refine E.seq ?_
              refine E.reg hr (by simp [hil, hilI, hio, hcur]; rfl) ?_ -- region 21
              by_cases hgt : aA ot (j + 1 + 1) < needV l lo hi ot (j + 1)
              · obtain ⟨hJ2, hgap⟩ := hgo _ hgt hneed
                refine E.cond (t := true) (by simpa using hgt) (fun _ => ?_) (fun h => by cases h)
                refine E.reg hr (by simp [hilI, hi1o, hsetv]; rfl) ?_ -- region 22
                refine E.reg hr (by simp [hwN]; rfl) ?_ -- region 14
                exact ⟨(j + 1 + 1, true, ot.set (j + 1) (needV l lo hi ot (j + 1))), .less rfl rfl rfl (by simp) (by simp), ⟨hil, hJ2, fun e => (by cases e), fun _ => hgap⟩, by dsimp only; omega⟩
              · refine E.cond (t := false) (by simpa using hgt) (fun h => by cases h) (fun _ => ?_)
                refine E.skip ?_
                refine E.reg hr (by simp [hwN]; rfl) ?_ -- region 14
                exact ⟨(j + 1 + 1, cg, ot), .less rfl rfl rfl (by simp) (by simp), ⟨hil, hJ, hstay (by omega), hless⟩, by dsimp only; omega⟩
            · have hmax : upV l lo ot (j + 1) = needV l lo hi ot (j + 1) := by rw [needV, if_neg hn]
              refine E.cond (t := false) (by simp; omega) (fun h => by cases h) (fun _ => ?_)
              refine E.skip ?_
              rw [hmax]
              refine E.seq ?_
              refine E.reg hr (by simp [hil, hilI, hio, hcur]; rfl) ?_ -- region 21
              by_cases hgt : aA ot (j + 1 + 1) < needV l lo hi ot (j + 1)
              · obtain ⟨hJ2, hgap⟩ := hgo _ hgt hneed
                refine E.cond (t := true) (by simpa using hgt) (fun _ => ?_) (fun h => by cases h)
                refine E.reg hr (by simp [hilI, hi1o, hsetv]; rfl) ?_ -- region 22
                refine E.reg hr (by simp [hwN]; rfl) ?_ -- region 14
                exact ⟨(j + 1 + 1, true, ot.set (j + 1) (needV l lo hi ot (j + 1))), .less rfl rfl rfl (by simp) (by simp), ⟨hil, hJ2, fun e => (by cases e), fun _ => hgap⟩, by dsimp only; omega⟩
              · refine E.cond (t := false) (by simpa using hgt) (fun h => by cases h) (fun _ => ?_)
                refine E.skip ?_
                refine E.reg hr (by simp [hwN]; rfl) ?_ -- region 14
                exact ⟨(j + 1 + 1, cg, ot), .less rfl rfl rfl (by simp) (by simp), ⟨hil, hJ, hstay (by omega), hless⟩, by dsimp only; omega⟩
        · have hieq : i = l.length := by omega
          subst hieq
          refine E.cond (t := false) (by simp) (fun h => by cases h) (fun _ => ?_)
          refine E.exit ?_ -- 4
          refine ⟨(cg, ot), .less rfl rfl rfl (by simp) (by simp), ⟨hJ, fun e => ?_⟩, ?_⟩
          · obtain ⟨e1, e2⟩ := hsame e
            dsimp only at e1 ⊢
            subst e1
            exact e2
          · dsimp only
            cases cg with
            | false => rw [(hsame rfl).1]; simp
            | true => have := hless rfl; simp; omega
end Go.Proofs.YtkongcnmkiihjaaGreatDoor

namespace Go.Proofs.YtkongcnmkiihjaaGreatDoor
open Go Go.Ab Go.Proofs
set_option maxRecDepth 20000 in
theorem w53e (o c : Nat) (lo hi : Int) (h : refE [] lo hi = 0) : AC Tryz.prog 53 [inpV o 0 c, ivl lo hi] [(9, .inp o (pcs []))] 10 (.tuple #[.slice none 0 0, iv 0]) [(9, .inp o (pcs []))] 10 := by
  have hr := recT_ok (P := Tryz.prog) (l := [(52, g52), (125, g125), (126, g126)]) (by simp [ok52, ok125, ok126])
  refine AC.pure Tryz.func53 rfl (by kernel_rfl) rfl [0, 3, 8, 9, 10, 11] rfl ?_
  refine E.seq ?_
  refine E.reg hr (by simp; rfl) ?_ -- region 0
  refine E.seq ?_
  refine E.seq ?_
  refine E.reg hr (by simp [g52, pksR, pksAt, flat, pcs, pksOf, h, seek_nil, prA, prB]; rfl) ?_ -- region 1
  refine E.seq ?_
  refine E.reg hr (by simp; rfl) ?_ -- region 2
  refine E.cond (t := false) (by simp) (fun h => by cases h) (fun _ => ?_)
  refine E.skip ?_
  refine E.seq ?_
  refine E.reg hr (by simp; rfl) ?_ -- region 4
  refine E.seq ?_
  refine E.seq ?_
  refine E.reg hr (by simp; rfl) ?_ -- region 5
  refine E.block ?_ -- 0
  refine E.loop ?_
  refine EL.step ?_
  refine E.seq ?_
  refine E.seq ?_
  refine E.reg hr (by simp; rfl) ?_ -- region 6
  refine E.cond (t := false) (by simp) (fun h => by cases h) (fun _ => ?_)
  refine E.exit ?_ -- 0
  refine E.seq ?_
  refine E.seq ?_
  refine E.reg hr (by simp; rfl) ?_ -- region 9
  refine E.block ?_ -- 2
  refine E.loop ?_
  refine EL.step ?_
  refine E.seq ?_
  refine E.seq ?_
  refine E.reg hr (by simp; rfl) ?_ -- region 10
  refine E.cond (t := true) (by simp) (fun _ => ?_) (fun h => by cases h)
  refine E.skip ?_
  refine E.block ?_ -- 3
  refine E.seq ?_
  refine E.reg hr (by simp; rfl) ?_ -- region 11
  refine E.seq ?_
  refine E.reg hr (by simp; rfl) ?_ -- region 12
  refine E.block ?_ -- 4
  refine E.loop ?_
  refine EL.step ?_
  refine E.seq ?_
  refine E.seq ?_
  refine E.reg hr (by simp; rfl) ?_ -- region 13
  refine E.cond (t := false) (by simp) (fun h => by cases h) (fun _ => ?_)
  refine E.exit ?_ -- 4
  refine EL.step ?_
  refine E.seq ?_
  refine E.seq ?_
  refine E.reg hr (by simp; rfl) ?_ -- region 10
  refine E.cond (t := false) (by simp) (fun h => by cases h) (fun _ => ?_)
  refine E.exit ?_ -- 2
  refine E.seq ?_
  refine E.reg hr (by simp; rfl) ?_ -- region 23
  refine E.ret ?_
  exact pureK.ret rfl rfl (by simp) (by repeat first | exact sub_refl _ | refine sub_cons rfl ?_)
set_option maxRecDepth 20000 in
theorem w53n (lo hi : Int) (h : refE [] lo hi = 0) : AC Tryz.prog 53 [.slice none 0 0, ivl lo hi] [] 9 (.tuple #[.slice none 0 0, iv 0]) [] 9 := by
  have hr := recT_ok (P := Tryz.prog) (l := [(52, g52), (125, g125), (126, g126)]) (by simp [ok52, ok125, ok126])
  refine AC.pure Tryz.func53 rfl (by kernel_rfl) rfl [0, 3, 8, 9, 10, 11] rfl ?_
  refine E.seq ?_
  refine E.reg hr (by simp; rfl) ?_ -- region 0
  refine E.seq ?_
  refine E.seq ?_
  refine E.reg hr (by simp [g52, pksR, h, seek_nil, prA, prB]; rfl) ?_ -- region 1
  refine E.seq ?_
  refine E.reg hr (by simp; rfl) ?_ -- region 2
  refine E.cond (t := false) (by simp) (fun h => by cases h) (fun _ => ?_)
  refine E.skip ?_
  refine E.seq ?_
  refine E.reg hr (by simp; rfl) ?_ -- region 4
  refine E.seq ?_
  refine E.seq ?_
  refine E.reg hr (by simp; rfl) ?_ -- region 5
  refine E.block ?_ -- 0
  refine E.loop ?_
  refine EL.step ?_
  refine E.seq ?_
  refine E.seq ?_
  refine E.reg hr (by simp; rfl) ?_ -- region 6
  refine E.cond (t := false) (by simp) (fun h => by cases h) (fun _ => ?_)
  refine E.exit ?_ -- 0
  refine E.seq ?_
  refine E.seq ?_
  refine E.reg hr (by simp; rfl) ?_ -- region 9
  refine E.block ?_ -- 2
  refine E.loop ?_
  refine EL.step ?_
  refine E.seq ?_
  refine E.seq ?_
  refine E.reg hr (by simp; rfl) ?_ -- region 10
  refine E.cond (t := true) (by simp) (fun _ => ?_) (fun h => by cases h)
  refine E.skip ?_
  refine E.block ?_ -- 3
  refine E.seq ?_
  refine E.reg hr (by simp; rfl) ?_ -- region 11
  refine E.seq ?_
  refine E.reg hr (by simp; rfl) ?_ -- region 12
  refine E.block ?_ -- 4
  refine E.loop ?_
  refine EL.step ?_
  refine E.seq ?_
  refine E.seq ?_
  refine E.reg hr (by simp; rfl) ?_ -- region 13
  refine E.cond (t := false) (by simp) (fun h => by cases h) (fun _ => ?_)
  refine E.exit ?_ -- 4
  refine EL.step ?_
  refine E.seq ?_
  refine E.seq ?_
  refine E.reg hr (by simp; rfl) ?_ -- region 10
  refine E.cond (t := false) (by simp) (fun h => by cases h) (fun _ => ?_)
  refine E.exit ?_ -- 2
  refine E.seq ?_
  refine E.reg hr (by simp; rfl) ?_ -- region 23
  refine E.ret ?_
  exact pureK.ret rfl rfl (by simp) (by repeat first | exact sub_refl _ | refine sub_cons rfl ?_)
theorem w53x (l : List Pk) (o c : Nat) (lo hi : Int) (hl' : l.length < 9223372036854775808) (h : refE l lo hi = 0) (hs : (seek l lo hi).isSome = true) : AC Tryz.prog 53 [inpV o l.length c, ivl lo hi] [(9, .inp o (pcs l))] 10 (.tuple #[.slice none 0 0, iv 18]) [(9, .inp o (pcs l))] 10 := by
  have hr := recT_ok (P := Tryz.prog) (l := [(52, g52)]) (by simp [ok52])
  have ht : List.take (l.length * 3) (pcs l) = pcs l := List.take_of_length_le (by simp)
  refine AC.pure Tryz.func53 rfl (by kernel_rfl) rfl [0, 3, 8, 9, 10, 11] rfl ?_
  refine E.seq ?_
  refine E.reg hr (by simp; rfl) ?_ -- region 0
  refine E.seq ?_
  refine E.seq ?_
  refine E.reg hr (by simp [g52, pksR, pksAt, flat, ht, pksOf_pcs, hl', h, hs]; rfl) ?_ -- region 1
  refine E.seq ?_
  refine E.reg hr (by simp; rfl) ?_ -- region 2
  refine E.cond (t := true) (by simp) (fun _ => ?_) (fun h => by cases h)
  refine E.seq ?_
  refine E.reg hr (by simp; rfl) ?_ -- region 3
  refine E.ret ?_
  exact pureK.ret rfl rfl (by simp) (by repeat first | exact sub_refl _ | refine sub_cons rfl ?_)
theorem names_mo2 (k : Nat) (e : Int) : Names1 fun m => .tuple #[.slice (some ⟨m, 0, some 0⟩) k 0, iv e] := ⟨fun φ ψ m n h1 h2 => by simp [den, denL, h1, h2], fun p n h => by simp [sc, scL, h]⟩
def g53 (args : List Value) (H : Heap) (n : Nat) : R := match args with
  | [t, .agg ⟨[.int .i64 lo, .int .i64 hi]⟩] => match pksR H t with
    | some l => if refE l lo hi = 0 then (if (seek l lo hi).isSome = true then some (.tuple #[.slice none 0 0, iv 18], H, n) else if l = [] then some (.tuple #[.slice none 0 0, iv 0], H, n) else some (.tuple #[.slice (some ⟨n, 0, some 0⟩) l.length 0, iv 0], (n, .ext (ic (momL l lo hi)) 3 1) :: H, n + 1)) else none
    | none => none
  | _ => none
theorem ok53 : EntOk Tryz.prog (53, g53) := by
  intro args H n v H' n' h
  simp only [g53] at h
  split at h
  · rename_i t lo hi
    split at h
    · rename_i l h1
      split at h
      · rename_i hz
        split at h
        · rename_i hs
          injection h with h; injection h with e1 e2; injection e2 with e2 e3; subst e1 e2 e3
          unfold pksR at h1
          split at h1
          · injection h1 with h1; subst h1; cases hs
          · obtain ⟨hf, hc, rfl, hlt⟩ := pksAt_ok h1
            exact AC.liftP (by simp) (Part.one (fun x => [x, ivl _ _]) bnd_den bnd_sc hf hc (afL_pcs l) [] (by simp [Seen]) gsz fun c0 => ⟨_, _, w53x l _ c0 _ _ (by omega) hz hs⟩)
          · cases h1
        · rename_i hs
          split at h
          · rename_i hl
            subst hl
            injection h with h; injection h with e1 e2; injection e2 with e2 e3; subst e1 e2 e3
            unfold pksR at h1
            split at h1
            · exact AC.liftP (by simp) (Part.plain (by simp) [] (by simp [Seen]) gsz ⟨_, _, w53n _ _ hz⟩)
            · obtain ⟨hf, hc, rfl, hlt⟩ := pksAt_ok h1
              exact AC.liftP (by simp) (Part.one (fun x => [x, ivl _ _]) bnd_den bnd_sc hf hc (afL_pcs []) [] (by simp [Seen]) gsz fun c0 => ⟨_, _, w53e _ c0 _ _ hz⟩)
            · cases h1
          · rename_i hne
            have hs' : seek l lo hi = none := by
              cases hq : seek l lo hi with
              | none => rfl
              | some _ => rw [hq] at hs; exact absurd rfl hs
            injection h with h; injection h with e1 e2; injection e2 with e2 e3; subst e1 e2 e3
            unfold pksR at h1
            split at h1
            · injection h1 with h1; exact absurd h1.symm hne
            · obtain ⟨hf, hc, rfl, hlt⟩ := pksAt_ok h1
              refine AC.liftF (names_mo2 _ _) (.inr ⟨_, _, _, rfl, afL_iv _⟩) (Part.one (fun x => [x, ivl _ _]) bnd_den bnd_sc hf hc (afL_pcs l) [] (by simp [Seen]) gsz fun c0 => ?_)
              obtain ⟨u, H1, n1, H2, hAC, ⟨m, hu, hm, hle⟩, hh⟩ := w53 l _ c0 _ _ hne hz hs'
              subst hu
              rw [momL_length] at hAC hh
              have := hh (by simp)
              subst this
              exact ⟨m, _, _, by omega, hm, hAC⟩
            · cases h1
      · cases h
    · cases h
  · cases h
end Go.Proofs.YtkongcnmkiihjaaGreatDoor
