/-
The law's copies of lists and the reference's least potentials, walked: both hold what the program's hold.
-/
import Derived.Test.YtkongcnmkiihjaaGreatDoorZd
namespace Go.Proofs.YtkongcnmkiihjaaGreatDoor
open Go Go.Ab Go.Proofs
theorem Fresh.pair {n n2 : Nat} {H B H1 : Heap} {v u : Value} (h : Fresh n n2 H v B u H1) (e : Int) : Fresh n n2 H (.tuple #[v, iv e]) B (.tuple #[u, iv e]) H1 := by
  obtain ⟨ρ, h1, h2, h3⟩ := h
  exact ⟨ρ, h1, by rw [h2]; simp [ren], h3⟩
theorem potR_lt {up dn : Int} {p : List (List Int)} : (potR up dn p).length = p.length := potR_len p
def g101 (args : List Value) (H : Heap) (n : Nat) : R := match args with
  | [v, .agg ⟨[.int .i64 up, .int .i64 dn]⟩] => match nestV H v with
    | some p => if panE p = 0 then some (ndV oMake n (potR up dn p), ndB kMake oMake n (potR up dn p) ++ H, n + 1 + (potR up dn p).length) else none
    | none => none
  | _ => none
theorem ok101 : EntOk Tryz.prog (101, g101) := by
  intro args H n v H' n' h
  simp only [g101] at h
  split at h
  · split at h
    · rename_i h1
      split at h
      · rename_i h2
        injection h with h; injection h with e1 e2; injection e2 with e2 e3; subst e1 e2 e3
        exact w101 _ _ h1 h2
      · cases h
    · cases h
  · cases h
theorem names_ge : ∀ (k c m : Nat), m ∈ names c k → c ≤ m ∧ m < c + k
  | 0, _, _, h => by cases h
  | k + 1, c, m, h => by
    rcases List.mem_cons.1 h with rfl | h
    · omega
    · have := names_ge k (c + 1) m h
      omega
theorem names_nodup : ∀ (k c : Nat), (names c k).Nodup
  | 0, _ => List.nodup_nil
  | k + 1, c => List.nodup_cons.2 ⟨fun h => by have := names_ge k (c + 1) c h; omega, names_nodup k (c + 1)⟩
theorem names_at {k c i m : Nat} (h : (names c k)[i]? = some m) : m = c + i ∧ i < k := by
  have hi : i < (names c k).length := (List.getElem?_eq_some_iff.1 h).1
  rw [names_len] at hi
  rw [names_get _ _ _ hi] at h
  injection h with h
  exact ⟨h.symm, hi⟩
/-- a made list as a call gave it, names shifted -/
theorem outK_mv {K : Kd} {O : Od} {n o : Nat} {ls : List (List Int)} {H H1 : Heap} (ho : n ≤ o) (hs : Sub H H1) (hH1 : ∀ j, o ≤ j → hget H1 j = none) : Fresh n (n + 1 + ls.length) H (ndV O n ls) (ndB K O n ls) (ndV O o ls) (ndB K O o ls ++ H1) := by
  refine outK_nd (o := o) (ms := names (o + 1) ls.length) rfl (names_len _ _) ho (fun m hm => ?_) (names_nodup _ _) ?_ (fun i m l h1 h2 => ?_) (hs.trans (sub_nd hH1))
  · have := names_ge _ _ _ hm
    omega
  · rw [ndB, List.cons_append, hget_cons, if_pos rfl]
  · obtain ⟨rfl, hi⟩ := names_at h1
    rw [ndB, List.cons_append, hget_cons, if_neg (by omega)]
    exact kbs_at K _ _ ls i _ rfl h2 H1
def potV (n : Nat) (p : List (List Int)) (up dn : Int) : Value := if chkE p up dn = 0 then .tuple #[ndV oMake n (potR up dn p), iv 0] else .tuple #[.slice none 0 0, iv (chkE p up dn)]
def potB (n : Nat) (p : List (List Int)) (up dn : Int) : Heap := if chkE p up dn = 0 then ndB kMake oMake n (potR up dn p) else []
def potN (n : Nat) (p : List (List Int)) (up dn : Int) : Nat := if chkE p up dn = 0 then n + 1 + (potR up dn p).length else n
set_option maxRecDepth 20000 in
theorem w24 {H : Heap} {n : Nat} {v : Value} {p : List (List Int)} (up dn : Int) (hP : nestV H v = some p) (h0 : hget H 0 = some (.inp 0 freeV)) : AC Tryz.prog 24 [v, limA up dn] H n (potV n p up dn) (potB n p up dn ++ H) (potN n p up dn) := by
  refine AC.given fun hold hsc hgn => AC.tidied (fun x hx => ?_) ?_
  · unfold potB at hx
    split at hx
    · exact (ndB_names x hx).1
    · cases hx
  rw [gsz] at hgn
  replace hP := nest_tidy hold hP
  replace hold := tidy_old hold
  replace h0 := global_tidy hgn h0
  have hr := recT_ok (P := Tryz.prog) (l := [(100, g100), (101, g101)]) (by simp [ok100, ok101])
  have hn0 : (n = 0) = False := eq_false (by omega)
  have hS : Sub (tidy n H) ((n, .cells [iv up, iv dn] 45) :: tidy n H) := Sub.cons (by simp) (Sub.refl _)
  have hP' : nestV ((n, .cells [iv up, iv dn] 45) :: tidy n H) v = some p := listV_mono decNI_mono hS hP
  by_cases hz : chkE p up dn = 0
  · have hz1 := (chkE_zero hz).1
    rw [potV, potB, potN, if_pos hz, if_pos hz, if_pos hz]
    refine AC.fresh Tryz.func24 rfl (by kernel_rfl) rfl [0, 1, 3, 4, 5, 6, 11] (by omega) (by simp [sc, scL]; exact oMake.sc _ _ _ (by omega)) (fun ρ => by simp [ren, af]; rw [ndV, oMake.ren]; exact oMake.af _ _) ?_
    refine E.seq ?_
    refine E.reg hr (by simp; rfl) ?_ -- region 0
    refine E.seq ?_
    refine E.seq ?_
    refine E.reg hr (by simp [g100, hP', hn0, h0, hz]; rfl) ?_ -- region 1
    refine E.seq ?_
    refine E.reg hr (by simp; rfl) ?_ -- region 2
    refine E.cond (t := false) (by simp) (fun h => by cases h) (fun _ => ?_)
    refine E.skip ?_
    refine E.seq ?_
    refine E.reg hr (by simp [g101, hP', hz1]; rfl) ?_ -- region 4
    refine E.ret ?_
    refine outK.ret rfl rfl (Fresh.pair (outK_mv (o := n + 1) (by omega) hS (fun j hj => ?_)) 0)
    rw [hget_cons, if_neg (by omega)]
    exact (no_new tidy_lt).2 (j - n) |> fun h => by rwa [show n + (j - n) = j by omega] at h
  · rw [potV, potB, potN, if_neg hz, if_neg hz, if_neg hz]
    refine AC.pure Tryz.func24 rfl (by kernel_rfl) rfl [0, 1, 3, 4, 5, 6, 11] rfl ?_
    refine E.seq ?_
    refine E.reg hr (by simp; rfl) ?_ -- region 0
    refine E.seq ?_
    refine E.seq ?_
    refine E.reg hr (by simp [g100, hP', hn0, h0]; rfl) ?_ -- region 1
    refine E.seq ?_
    refine E.reg hr (by simp; rfl) ?_ -- region 2
    refine E.cond (t := true) (by simp [hz]) (fun _ => ?_) (fun h => by cases h)
    refine E.seq ?_
    refine E.reg hr (by simp; rfl) ?_ -- region 3
    refine E.ret ?_
    exact pureK.ret rfl rfl (by simp) hS
open Classical in
noncomputable def g24 (args : List Value) (H : Heap) (n : Nat) : R := match args with
  | [v, .agg ⟨[.int .i64 up, .int .i64 dn]⟩] => match nestV H v with
    | some p => if hget H 0 = some (.inp 0 freeV) then some (potV n p up dn, potB n p up dn ++ H, potN n p up dn) else none
    | none => none
  | _ => none
theorem ok24 : EntOk Tryz.prog (24, g24) := by
  intro args H n v H' n' h
  simp only [g24] at h
  split at h
  · split at h
    · rename_i h1
      split at h
      · rename_i h2
        injection h with h; injection h with e1 e2; injection e2 with e2 e3; subst e1 e2 e3
        exact w24 _ _ h1 h2
      · cases h
    · cases h
  · cases h
theorem app_copy {H : Heap} {n m : Nat} {l : List Int} {v : Value} (h : intV ((n, .cells [] 3) :: H) v = some l) (hne : l ≠ []) :
    builtinA Tryz.prog .append #[24, 24] ((n, .cells [] 3) :: H) m [.slice (some ⟨n, 0, none⟩) 0 0, v] = some (.slice (some ⟨m, 0, some 0⟩) l.length 0, (m, .ext (l.map iv) 3 1) :: (n, .cells [] 3) :: H, m + 1) := by
  have hlt : l.length < 2147483648 := by
    obtain ⟨_, _, _, hlt, _⟩ := intV_form h
    exact hlt
  obtain ⟨a, c, rfl, hf, hc⟩ := intV_src h hne
  have h1 : ¬ l.length = 0 := fun e => hne (List.length_eq_zero_iff.1 e)
  have h2 : ¬ 0 + l.length ≤ 0 := by omega
  have hsm : l.length * 8 ≤ 1099511627776 ∧ l.length ≤ 1099511627776 := by omega
  have h0 : cellsA ((n, .cells [] 3) :: H) n 0 0 = some [] := by rw [cellsA_eq, hget_cons, if_pos rfl]; rfl
  simp [-cellsA, -flat, hf, hc, h1, hsm, h0]
theorem w34b {H : Heap} {n : Nat} {v : Value} {l : List Int} (hl : intV H v = some l) : AC Tryz.prog 34 [v] H n (kCopy.val n l) ([(n, kCopy.blk l)] ++ H) (n + 1) := by
  refine AC.given fun hold hsc hgn => AC.tidied (fun x hx => ?_) ?_
  · rw [List.mem_singleton] at hx; subst hx; exact Nat.le_refl _
  replace hl := int_tidy hold hl
  replace hold := tidy_old hold
  have hr := recT_ok (P := Tryz.prog) (l := []) (by simp)
  have hS : Sub (tidy n H) ((n, .cells [] 3) :: tidy n H) := Sub.cons (by simp) (Sub.refl _)
  have hl' := listV_mono decI_mono hS hl
  refine AC.fresh Tryz.func34 rfl (by kernel_rfl) rfl [0, 2] (by omega) (kCopy.sc _ _ _ (by omega)) (fun ρ => by rw [kCopy.ren]; simp only [kCopy]; split <;> rfl) ?_
  refine E.seq ?_
  refine E.reg hr (by simp; rfl) ?_ -- region 0
  by_cases hne : l = []
  · subst hne
    obtain ⟨oa, c, rfl, _, _, _⟩ := intV_form hl
    have hfin : Fresh n (n + 1) (tidy n H) (kCopy.val n []) [(n, kCopy.blk [])] (.slice (some ⟨n, 0, none⟩) 0 0) ((n, .cells [] 3) :: tidy n H) := by
      refine ⟨id, fun _ _ => rfl, rfl, fun k b hk => ?_, fun j b k c hj hk e => e, hS⟩
      rw [hget_cons] at hk
      split at hk
      · rename_i e; subst e; injection hk with hk; subst hk
        exact ⟨Nat.le_refl _, Nat.lt_succ_self _, Nat.le_refl _, by simp [kCopy, renB], trivial, trivial, rfl⟩
      · cases hk
    cases oa with
    | none =>
      refine E.seq ?_
      refine E.reg hr (by simp; rfl) ?_
      refine E.ret ?_
      exact outK.ret rfl rfl hfin
    | some a =>
      refine E.seq ?_
      refine E.reg hr (by simp; rfl) ?_
      refine E.ret ?_
      exact outK.ret rfl rfl hfin
  · have happ := app_copy (m := n + 1) hl' hne
    refine E.seq ?_
    refine E.reg hr (by simp [-builtinA, happ]; rfl) ?_
    refine E.ret ?_
    refine outK.ret rfl rfl ⟨fun k => if k = n then n + 1 else k, fun k hk => if_neg (by omega), ?_, fun k b hk => ?_, fun j b k c hj hk _ => ?_, hS.trans (Sub.cons (by simp) (Sub.refl _))⟩
    · simp [kCopy, hne, ren]
    · rw [hget_cons] at hk
      split at hk
      · rename_i e; subst e; injection hk with hk; subst hk
        refine ⟨Nat.le_refl _, Nat.lt_succ_self _, by simp, ?_, kCopy.scB _ _, kCopy.car _, kCopy.own _⟩
        simp [kCopy, hne, renB]
      · cases hk
    · rw [hget_cons] at hj hk
      split at hj
      · split at hk
        · omega
        · cases hk
      · cases hj
def g34b (args : List Value) (H : Heap) (n : Nat) : R := match args with
  | [v] => (intV H v).map fun l => (kCopy.val n l, (n, kCopy.blk l) :: H, n + 1)
  | _ => none
theorem ok34b : EntOk Tryz.prog (34, g34b) := by
  intro args H n v H' n' h
  simp only [g34b] at h
  split at h
  · rw [Option.map_eq_some_iff] at h
    obtain ⟨ls, h1, h⟩ := h
    injection h with e1 e2; injection e2 with e2 e3; subst e1 e2 e3
    exact w34b h1
  · cases h
end Go.Proofs.YtkongcnmkiihjaaGreatDoor

namespace Go.Proofs.YtkongcnmkiihjaaGreatDoor
open Go Go.Ab Go.Proofs
theorem z24 : Tryz.t24.zero = some (.slice none 0 0) := by kernel_rfl
theorem b24 : Tryz.t24.bytes = 24 := by kernel_rfl
theorem s24 : Tryz.t24.size = 1 := by kernel_rfl
theorem app_nil38 {H : Heap} {k m : Nat} {x : Value} (hk : cellsA H k 0 1 = some [x]) (h1 : oneL [x] = true) : builtinA Tryz.prog .append #[38, 38] H m [.slice none 0 0, .slice (some ⟨k, 0, none⟩) 1 1] = some (.slice (some ⟨m, 0, some 0⟩) 1 0, (m, .ext [x] 24 1) :: H, m + 1) := by
  simp [-cellsA, inf24, z24, b24, s24, hk, h1]
theorem app_ext38 {H : Heap} {o k m : Nat} {cs : List Value} {x : Value} (hk : cellsA H k 0 1 = some [x]) (h1 : oneL [x] = true) (ho : hget H o = some (.ext cs 24 1)) (hl : cs.length < 2147483648) :
    builtinA Tryz.prog .append #[38, 38] H m [.slice (some ⟨o, 0, some 0⟩) cs.length 0, .slice (some ⟨k, 0, none⟩) 1 1] = some (.slice (some ⟨m, 0, some 0⟩) (cs.length + 1) 0, (m, .ext (cs ++ [x]) 24 1) :: hdel H o, m + 1) := by
  have hsm : (cs.length + 1) * 24 ≤ 1099511627776 ∧ cs.length + 1 ≤ 1099511627776 := by omega
  simp [-cellsA, inf24, z24, b24, s24, hk, h1, ho, hsm]
def nm3 (n i : Nat) : List Nat := (List.range i).map fun j => n + 3 * j
theorem nm3_len (n i : Nat) : (nm3 n i).length = i := by simp [nm3]
theorem nm3_succ (n i : Nat) : nm3 n (i + 1) = nm3 n i ++ [n + 3 * i] := by simp [nm3, List.range_succ]
theorem nm3_at {n i j m : Nat} (h : (nm3 n i)[j]? = some m) : m = n + 3 * j ∧ j < i := by
  have hj : j < (nm3 n i).length := (List.getElem?_eq_some_iff.1 h).1
  rw [nm3_len] at hj
  unfold nm3 at h
  rw [List.getElem?_map, List.getElem?_range hj] at h
  simp at h
  omega
theorem nm3_mem {n i m : Nat} (h : m ∈ nm3 n i) : ∃ j, j < i ∧ m = n + 3 * j := by
  obtain ⟨j, hj, e⟩ := List.mem_map.1 h
  exact ⟨j, List.mem_range.1 hj, e.symm⟩
theorem nm3_nodup (n i : Nat) : (nm3 n i).Nodup := by
  rw [List.nodup_iff_pairwise_ne]
  unfold nm3
  rw [List.pairwise_map]
  exact List.Pairwise.imp (fun h e => by omega) (List.pairwise_lt_range (n := i))
theorem kCopy_form (m : Nat) (l : List Int) : ∃ s, kCopy.val m l = .slice (some ⟨m, 0, s⟩) l.length 0 := by
  by_cases h : l = []
  · exact ⟨none, by simp [kCopy, h]⟩
  · exact ⟨some 0, by simp [kCopy, h]⟩
structure LI (n : Nat) (H : Heap) (p : List (List Int)) (i : Nat) (Hx : Heap) : Prop where
  row : ∀ j l, j < i → p[j]? = some l → hget Hx (n + 3 * j) = some (kCopy.blk l)
  out : 0 < i → hget Hx (n + 3 * i - 1) = some (.ext (kvs kCopy (nm3 n i) (p.take i)) 24 1)
  sub : Sub (tidy n H) Hx
  new : ∀ j, n + 3 * i ≤ j → hget Hx j = none
def lsV (n i : Nat) : Value := if i = 0 then .slice none 0 0 else .slice (some ⟨n + 3 * i - 1, 0, some 0⟩) i 0
theorem kvs_take_len {K : Kd} {n i : Nat} {p : List (List Int)} (hi : i ≤ p.length) : (kvs K (nm3 n i) (p.take i)).length = i := by
  rw [kvs_len _ _ _ (by rw [nm3_len, List.length_take]; omega), List.length_take]; omega
theorem LI.more {n i : Nat} {H Hx : Heap} {p : List (List Int)} {s : Option Nat} (h : LI n H p i Hx) (hi : i < p.length) (hl : p.length < 2147483648) (hs : kCopy.val (n + 3 * i) p[i] = .slice (some ⟨n + 3 * i, 0, s⟩) p[i].length 0) :
    ∃ Hz, builtinA Tryz.prog .append #[38, 38] ((n + 3 * i + 1, .cells [.slice (some ⟨n + 3 * i, 0, s⟩) p[i].length 0] 24) :: (n + 3 * i, kCopy.blk p[i]) :: Hx) (n + 3 * i + 1 + 1) [lsV n i, .slice (some ⟨n + 3 * i + 1, 0, none⟩) 1 1] = some (lsV n (i + 1), Hz, n + 3 * i + 1 + 1 + 1) ∧ LI n H p (i + 1) Hz := by
  obtain ⟨q, hq⟩ : ∃ q, n + 3 * i = q := ⟨_, rfl⟩
  rw [hq] at hs ⊢
  have hk : cellsA ((q + 1, .cells [.slice (some ⟨q, 0, s⟩) p[i].length 0] 24) :: (q, kCopy.blk p[i]) :: Hx) (q + 1) 0 1 = some [.slice (some ⟨q, 0, s⟩) p[i].length 0] := by
    rw [cellsA_eq, hget_cons, if_pos rfl]; rfl
  have hts : p.take (i + 1) = p.take i ++ [p[i]] := List.take_succ_eq_append_getElem hi
  have hkv : kvs kCopy (nm3 n (i + 1)) (p.take (i + 1)) = kvs kCopy (nm3 n i) (p.take i) ++ [.slice (some ⟨q, 0, s⟩) p[i].length 0] := by
    rw [hts, nm3_succ, kvs_snoc _ _ _ (by rw [nm3_len, List.length_take]; omega), hq, hs]
  have hlv : lsV n (i + 1) = .slice (some ⟨q + 1 + 1, 0, some 0⟩) (i + 1) 0 := by
    unfold lsV
    rw [if_neg (by omega), show n + 3 * (i + 1) - 1 = q + 1 + 1 by omega]
  rw [hlv]
  by_cases h0 : i = 0
  · subst h0
    refine ⟨_, app_nil38 hk rfl, ⟨fun j l hj hl => ?_, fun _ => ?_, ?_, fun j hj => ?_⟩⟩
    · obtain rfl : j = 0 := by omega
      rw [List.getElem?_eq_getElem hi] at hl
      injection hl with hl
      rw [hget_cons, if_neg (by omega), hget_cons, if_neg (by omega), hget_cons, if_pos (by omega), hl]
    · rw [hget_cons, if_pos (by omega), hkv]; rfl
    · refine Sub.trans h.sub (Sub.cons ?_ (Sub.cons ?_ (Sub.cons ?_ (Sub.refl _))))
      · exact h.new _ (by omega)
      · exact h.new _ (by omega)
      · exact h.new _ (by omega)
    · rw [hget_cons, if_neg (by omega), hget_cons, if_neg (by omega), hget_cons, if_neg (by omega)]
      exact h.new j (by omega)
  · have hout := h.out (by omega)
    obtain ⟨o, ho⟩ : ∃ o, n + 3 * i - 1 = o := ⟨_, rfl⟩
    rw [ho] at hout
    have hlv0 : lsV n i = .slice (some ⟨o, 0, some 0⟩) (kvs kCopy (nm3 n i) (p.take i)).length 0 := by
      unfold lsV
      rw [if_neg h0, ho, kvs_take_len (by omega)]
    have hox : hget ((q + 1, Blk.cells [.slice (some ⟨q, 0, s⟩) p[i].length 0] 24) :: (q, kCopy.blk p[i]) :: Hx) o = some (.ext (kvs kCopy (nm3 n i) (p.take i)) 24 1) := by
      rw [hget_cons, if_neg (by omega), hget_cons, if_neg (by omega), hout]
    have happ := app_ext38 (m := q + 1 + 1) hk rfl hox (by rw [kvs_take_len (by omega)]; omega)
    rw [← hlv0, kvs_take_len (by omega)] at happ
    refine ⟨_, happ, ⟨fun j l hj hl => ?_, fun _ => ?_, ?_, fun j hj => ?_⟩⟩
    · by_cases e : j = i
      · subst e
        rw [List.getElem?_eq_getElem hi] at hl
        injection hl with hl
        rw [hget_cons, if_neg (by omega), hget_hdel, if_neg (by omega), hget_cons, if_neg (by omega), hget_cons, if_pos (by omega), hl]
      · rw [hget_cons, if_neg (by omega), hget_hdel, if_neg (by omega), hget_cons, if_neg (by omega), hget_cons, if_neg (by omega)]
        exact h.row j l (by omega) hl
    · rw [hget_cons, if_pos (by omega), hkv]
    · intro k b hk
      have := tidy_lt k b hk
      rw [hget_cons, if_neg (by omega), hget_hdel, if_neg (by omega), hget_cons, if_neg (by omega), hget_cons, if_neg (by omega)]
      exact h.sub k b hk
    · rw [hget_cons, if_neg (by omega), hget_hdel, if_neg (by omega), hget_cons, if_neg (by omega), hget_cons, if_neg (by omega)]
      exact h.new j (by omega)
def lisV (n : Nat) (p : List (List Int)) : Value := if p = [] then .slice none 0 0 else ndV oExt n p
def lisB (n : Nat) (p : List (List Int)) : Heap := if p = [] then [] else ndB kCopy oExt n p
def lisN (n : Nat) (p : List (List Int)) : Nat := if p = [] then n else n + 1 + p.length
set_option maxRecDepth 20000 in
theorem w25 {H : Heap} {n : Nat} {v : Value} {p : List (List Int)} (hP : nestV H v = some p) : AC Tryz.prog 25 [v] H n (lisV n p) (lisB n p ++ H) (lisN n p) := by
  refine AC.given fun hold hsc hgn => AC.tidied (fun x hx => ?_) ?_
  · unfold lisB at hx
    split at hx
    · cases hx
    · exact (ndB_names x hx).1
  replace hP := nest_tidy hold hP
  replace hold := tidy_old hold
  have hr := recT_ok (P := Tryz.prog) (l := [(34, g34b)]) (by simp [ok34b])
  obtain ⟨oa, c, rfl, hlt, _, hrow⟩ := nestV_form hP
  by_cases h0 : p = []
  · subst h0
    refine AC.pure Tryz.func25 rfl (by kernel_rfl) rfl [0, 2, 3, 5, 6, 7, 8, 9] rfl ?_
    refine E.seq ?_
    refine E.reg hr (by simp; rfl) ?_ -- region 0
    refine E.seq ?_
    refine E.reg hr (by simp; rfl) ?_ -- region 1
    refine E.seq ?_
    refine E.seq ?_
    refine E.reg hr (by simp; rfl) ?_ -- region 2
    refine E.block ?_ -- 0
    refine E.loop ?_
    refine EL.ind (fun x : Nat => { fr := [(3, .slice none 0 0), (7, iv 0), (8, iv 0)], sz := 19, H := tidy n H, n := n, marks := [], vs := [0, 2, 3, 5, 6, 7, 8, 9] }) (fun x => 0 - x) (fun x => True) 0 (.keep rfl rfl rfl (by simp) (Sub.refl _)) trivial (fun _ => rfl) ?_
    rintro i -
    refine E.seq ?_
    refine E.reg hr (by simp; rfl) ?_ -- region 3
    refine E.seq ?_
    refine E.cond (t := false) (by simp) (fun h => by cases h) (fun _ => ?_)
    refine E.exit ?_ -- 0
    refine E.seq ?_
    refine E.reg hr (by simp; rfl) ?_ -- region 7
    refine E.ret ?_
    exact pureK.ret rfl rfl (by simp [lisV]) (Sub.refl _)
  have hpos : 0 < p.length := List.length_pos_iff.2 h0
  rw [show lisV n p = ndV oExt n p from if_neg h0, show lisB n p = ndB kCopy oExt n p from if_neg h0, show lisN n p = n + 1 + p.length from if_neg h0]
  refine AC.fresh Tryz.func25 rfl (by kernel_rfl) rfl [0, 2, 3, 5, 6, 7, 8, 9] (by omega) (oExt.sc _ _ _ (by omega)) (fun ρ => by rw [ndV, oExt.ren]; exact oExt.af _ _) ?_
  refine E.seq ?_
  refine E.reg hr (by simp; rfl) ?_ -- region 0
  refine E.seq ?_
  refine E.reg hr (by simp; rfl) ?_ -- region 1
  refine E.seq ?_
  refine E.seq ?_
  refine E.reg hr (by simp; rfl) ?_ -- region 2
  refine E.block ?_ -- 0
  refine E.loop ?_
  refine EL.ind (fun x : Nat × Heap => { fr := [(3, lsV n x.1), (6, .slice oa p.length c), (7, iv p.length), (8, iv x.1)], sz := 19, H := x.2, n := n + 3 * x.1, marks := [], vs := [0, 2, 3, 5, 6, 7, 8, 9] }) (fun x => p.length - x.1) (fun x => x.1 ≤ p.length ∧ LI n H p x.1 x.2) (0, tidy n H) (.keep rfl rfl rfl (by simp [lsV]) (Sub.refl _)) ⟨Nat.zero_le _, ⟨fun j l hj => by omega, fun h => by omega, Sub.refl _, fun j hj => ?_⟩⟩ (fun _ => rfl) ?_
  · have := (no_new (tidy_lt (n := n) (H := H))).2 (j - n)
    rwa [show n + (j - n) = j by omega] at this
  rintro ⟨i, Hx⟩ ⟨hi, hI⟩
  dsimp only at hi hI ⊢
  have hw : IntKind.i64.wrap ((i : Int) + 1) = (i : Int) + 1 := W_in (by omega) (by omega)
  refine E.seq ?_
  refine E.reg hr (by simp; rfl) ?_ -- region 3
  refine E.seq ?_
  by_cases hil : i < p.length
  · obtain ⟨a, r, rfl, hf, hc, hv⟩ := hrow i hil
    have hc2 := hI.sub.cell hc
    have hv2 := listV_mono decI_mono hI.sub hv
    obtain ⟨s, hs⟩ := kCopy_form (n + 3 * i) p[i]
    obtain ⟨Hz, happ, hIz⟩ := hI.more hil hlt hs
    obtain ⟨q, hq⟩ : ∃ q, n + 3 * i = q := ⟨_, rfl⟩
    rw [hq] at happ hs ⊢
    have hg34 : g34b [r] Hx q = some (.slice (some ⟨q, 0, s⟩) p[i].length 0, (q, kCopy.blk p[i]) :: Hx, q + 1) := by
      simp only [g34b]
      rw [show intV Hx r = some p[i] from hv2, Option.map_some, hs]
    obtain ⟨lv, hlv⟩ : ∃ lv, lsV n i = lv := ⟨_, rfl⟩
    rw [hlv] at happ ⊢
    refine E.cond (t := true) (by simp [hil]) (fun _ => ?_) (fun h => by cases h)
    refine E.skip ?_
    refine E.seq ?_
    refine E.block ?_ -- 1
    refine E.seq ?_
    refine E.reg hr (by simp [-cellA, -flat, hil, hf, hc2]; rfl) ?_ -- region 4
    refine E.reg hr (by simp [-builtinA, hg34, happ]; rfl) ?_ -- region 5
    refine E.reg hr (by simp [hw]; rfl) ?_ -- region 6
    exact ⟨(i + 1, Hz), .keep (by dsimp only; omega) rfl rfl (by simp) (Sub.refl _), ⟨hil, hIz⟩, by dsimp only; omega⟩
  · obtain rfl : i = p.length := by omega
    refine E.cond (t := false) (by simp) (fun h => by cases h) (fun _ => ?_)
    refine E.exit ?_ -- 0
    refine E.seq ?_
    refine E.reg hr (by simp; rfl) ?_ -- region 7
    refine E.ret ?_
    refine outK.ret rfl rfl ?_
    refine outK_nd (o := n + 3 * p.length - 1) (ms := nm3 n p.length) ?_ (nm3_len _ _) (by omega) (fun m hm => ?_) (nm3_nodup _ _) ?_ (fun i m l h1 h2 => ?_) hI.sub
    · unfold lsV
      rw [if_neg (by omega)]
      rfl
    · obtain ⟨j, hj, rfl⟩ := nm3_mem hm
      omega
    · have := hI.out hpos
      rwa [List.take_length] at this
    · obtain ⟨rfl, hi⟩ := nm3_at h1
      exact hI.row i l hi h2
def g25 (args : List Value) (H : Heap) (n : Nat) : R := match args with
  | [v] => (nestV H v).map fun p => (lisV n p, lisB n p ++ H, lisN n p)
  | _ => none
theorem ok25 : EntOk Tryz.prog (25, g25) := by
  intro args H n v H' n' h
  simp only [g25] at h
  split at h
  · rw [Option.map_eq_some_iff] at h
    obtain ⟨ls, h1, h⟩ := h
    injection h with e1 e2; injection e2 with e2 e3; subst e1 e2 e3
    exact w25 h1
  · cases h
end Go.Proofs.YtkongcnmkiihjaaGreatDoor

namespace Go.Proofs.YtkongcnmkiihjaaGreatDoor
open Go Go.Ab Go.Proofs
theorem handA_nil : ∀ H : Heap, handA [] [] H = []
  | [] => rfl
  | (k, b) :: H => by simp only [handA]; exact handA_nil H
theorem namesOk_iff {k : Nat} : ∀ {H : Heap}, namesOk k H = true ↔ ∀ x ∈ H, x.1 < k
  | [] => by simp [namesOk]
  | (i, b) :: H => by
    rw [namesOk]
    by_cases h : i < k
    · rw [(blt_iff _ _).2 h]
      simp [namesOk_iff (H := H), h]
    · have : Nat.blt i k = false := by rw [← Bool.not_eq_true, blt_iff]; exact h
      rw [this]
      simp [h]
theorem hget_mem : ∀ {H : Heap} {k : Nat} {b : Blk}, hget H k = some b → ∃ x ∈ H, x.1 = k
  | [], _, _, h => by cases h
  | (j, c) :: H, k, b, h => by
    rw [hget_cons] at h
    split at h
    · rename_i e; exact ⟨(j, c), List.mem_cons_self .., e⟩
    · obtain ⟨x, hx, e⟩ := hget_mem h
      exact ⟨x, List.mem_cons_of_mem _ hx, e⟩
theorem namesOk_none {H : Heap} {k : Nat} (h : namesOk k H = true) : ∀ j, k ≤ j → hget H j = none := fun j hj => by
  cases e : hget H j with
  | none => rfl
  | some b =>
    obtain ⟨x, hx, e⟩ := hget_mem e
    have := namesOk_iff.1 h x hx
    omega
theorem hdel_mem : ∀ {H : Heap} {k : Nat} {x : Nat × Blk}, x ∈ hdel H k → x ∈ H
  | [], _, _, h => h
  | (i, b) :: H, k, x, h => by
    rw [hdel] at h
    split at h
    · exact List.mem_cons_of_mem _ (hdel_mem h)
    · rcases List.mem_cons.1 h with rfl | h
      · exact List.mem_cons_self ..
      · exact List.mem_cons_of_mem _ (hdel_mem h)
theorem hset_mem : ∀ {H : Heap} {k : Nat} {c : Blk} {x : Nat × Blk}, x ∈ hset H k c → ∃ y ∈ H, y.1 = x.1
  | [], _, _, _, h => by cases h
  | (i, b) :: H, k, c, x, h => by
    rw [hset] at h
    split at h
    · rcases List.mem_cons.1 h with rfl | h
      · exact ⟨(i, b), List.mem_cons_self .., rfl⟩
      · first
        | exact ⟨x, List.mem_cons_of_mem _ h, rfl⟩
        | (obtain ⟨y, hy, e⟩ := hset_mem h; exact ⟨y, List.mem_cons_of_mem _ hy, e⟩)
    · rcases List.mem_cons.1 h with rfl | h
      · exact ⟨(i, b), List.mem_cons_self .., rfl⟩
      · obtain ⟨y, hy, e⟩ := hset_mem h
        exact ⟨y, List.mem_cons_of_mem _ hy, e⟩
theorem namesOk_hdel {H : Heap} {k j : Nat} (h : namesOk k H = true) : namesOk k (hdel H j) = true := namesOk_iff.2 fun x hx => namesOk_iff.1 h x (hdel_mem hx)
theorem namesOk_hset {H : Heap} {k j : Nat} {c : Blk} (h : namesOk k H = true) : namesOk k (hset H j c) = true := namesOk_iff.2 fun x hx => by
  obtain ⟨y, hy, e⟩ := hset_mem hx
  have := namesOk_iff.1 h y hy
  omega
theorem namesOk_put {H : Heap} {k j : Nat} {c : Blk} (hj : j < k) (h : namesOk k H = true) : namesOk k ((j, c) :: H) = true := by
  rw [namesOk, (blt_iff _ _).2 hj]; exact h
theorem app24 {H : Heap} {o k m : Nat} {l : List Int} {x : Int} (hk : cellsA H k 0 1 = some [iv x]) (ho : l ≠ [] → hget H o = some (.ext (l.map iv) 3 1)) (hl : l.length < 2147483648) :
    builtinA Tryz.prog .append #[24, 24] H m [outI o l, .slice (some ⟨k, 0, none⟩) 1 1] = some (outI m (l ++ [x]), (m, .ext ((l ++ [x]).map iv) 3 1) :: (if l = [] then H else hdel H o), m + 1) := by
  have hne : l ++ [x] ≠ [] := by simp
  have hsm : (l.length + 1) * 8 ≤ 1099511627776 ∧ l.length + 1 ≤ 1099511627776 := by omega
  rw [outI_ne hne]
  by_cases h : l = []
  · subst h
    simp [-cellsA, hk]
  · rw [outI_ne h, if_neg h]
    simp [-cellsA, hk, ho h, hsm]
    exact List.take_of_length_le (by simp)
/-! ### rows that grow by appends, the list itself made -/
def ovs : List Nat → List (List Int) → List Value
  | m :: ms, l :: R => outI m l :: ovs ms R
  | _, _ => []
theorem ovs_len : ∀ (ms : List Nat) (R : List (List Int)), ms.length = R.length → (ovs ms R).length = R.length
  | [], [], _ => rfl
  | m :: ms, l :: R, h => by simp [ovs, ovs_len ms R (by simpa using h)]
  | [], _ :: _, h => by simp at h
  | _ :: _, [], h => by simp at h
theorem ovs_get : ∀ (ms : List Nat) (R : List (List Int)) (i m : Nat) (l : List Int), ms[i]? = some m → R[i]? = some l → (ovs ms R)[i]? = some (outI m l)
  | m' :: ms, l' :: R, 0, m, _, h1, h2 => by simp at h1 h2; subst h1 h2; simp [ovs]
  | m' :: ms, l' :: R, i + 1, m, l, h1, h2 => by
    simp only [List.getElem?_cons_succ] at h1 h2
    rw [ovs, List.getElem?_cons_succ]
    exact ovs_get ms R i m l h1 h2
  | [], _, i, m, l, h1, _ => by simp at h1
  | _ :: _, [], i, m, l, _, h2 => by simp at h2
theorem ovs_set {m : Nat} {l : List Int} : ∀ (ms : List Nat) (R : List (List Int)) (u : Nat), ovs (ms.set u m) (R.set u l) = (ovs ms R).set u (outI m l)
  | m' :: ms, l' :: R, 0 => by simp [ovs]
  | m' :: ms, l' :: R, u + 1 => by simp [ovs, ovs_set ms R u]
  | [], R, u => by cases R.set u l <;> cases R <;> simp [ovs]
  | m' :: ms, [], u => by cases u <;> simp [ovs]
theorem ovs_nils : ∀ k : Nat, ovs (List.replicate k 0) (List.replicate k []) = nils k
  | 0 => rfl
  | k + 1 => by
    rw [List.replicate_succ, List.replicate_succ, ovs, ovs_nils k, nils, nils, List.replicate_succ]
    rfl
theorem ovs_kvs : ∀ (ms : List Nat) (R : List (List Int)), (∀ l ∈ R, l ≠ []) → ovs ms R = kvs kCopy ms R
  | m :: ms, l :: R, h => by
    have hl := h l (List.mem_cons_self ..)
    rw [ovs, kvs, ovs_kvs ms R fun x hx => h x (List.mem_cons_of_mem _ hx), outI_ne hl]
    simp [kCopy, hl]
  | [], _, _ => rfl
  | _ :: _, [], _ => rfl
structure PJ (n : Nat) (H : Heap) (up dn : Int) (ms : List Nat) (R : List (List Int)) (Hx : Heap) (N : Nat) : Prop where
  len : ms.length = R.length
  box : hget Hx n = some (.cells [iv up, iv dn] 40)
  out : hget Hx (n + 1) = some (.cells (ovs ms R) 24)
  row : ∀ (i m : Nat) (l : List Int), ms[i]? = some m → R[i]? = some l → l ≠ [] → hget Hx m = some (.ext (l.map iv) 3 1) ∧ n + 1 + 1 ≤ m ∧ m < N
  inj : ∀ (i j m : Nat) (l l' : List Int), ms[i]? = some m → ms[j]? = some m → R[i]? = some l → R[j]? = some l' → l ≠ [] → l' ≠ [] → i = j
  sub : Sub (tidy n H) Hx
  nm : namesOk N Hx = true
  big : n + 1 + 1 ≤ N
section
variable {n N : Nat} {H Hx : Heap} {up dn : Int} {R : List (List Int)} {ms : List Nat}
theorem PJ.at (h : PJ n H up dn ms R Hx N) {i : Nat} {l : List Int} (hl : R[i]? = some l) : ∃ m, ms[i]? = some m ∧ cellA Hx (n + 1) i = some (outI m l) := by
  have hi : i < R.length := (List.getElem?_eq_some_iff.1 hl).1
  have him : i < ms.length := by rw [h.len]; exact hi
  have hm : ms[i]? = some ms[i] := List.getElem?_eq_getElem him
  refine ⟨_, hm, ?_⟩
  rw [cellA_eq, h.out]
  exact ovs_get ms R i _ l hm hl
theorem PJ.cell (h : PJ n H up dn ms R Hx N) {i m k : Nat} {l : List Int} (hm : ms[i]? = some m) (hl : R[i]? = some l) (hk : k < l.length) : cellA Hx m k = some (iv l[k]) := by
  have hne : l ≠ [] := fun e => by subst e; simp at hk
  rw [cellA_eq, (h.row i m l hm hl hne).1]
  simp [cellB, hk]
theorem PJ.more (h : PJ n H up dn ms R Hx N) {u m : Nat} {l : List Int} {x : Int} (hm : ms[u]? = some m) (hl : R[u]? = some l) (hlen : l.length < 2147483648) :
    ∃ Ha Hz, builtinA Tryz.prog .append #[24, 24] ((N, .cells [iv x] 3) :: Hx) (N + 1) [outI m l, .slice (some ⟨N, 0, none⟩) 1 1] = some (outI (N + 1) (l ++ [x]), Ha, N + 1 + 1) ∧ storeA Ha (n + 1) u [outI (N + 1) (l ++ [x])] = some Hz ∧ namesOk (N + 1) ((N, .cells [iv x] 3) :: Hx) = true ∧ namesOk (N + 1 + 1) Ha = true ∧ namesOk (N + 1 + 1) Hz = true ∧
      PJ n H up dn (ms.set u (N + 1)) (R.set u (l ++ [x])) Hz (N + 1 + 1) := by
  have hu : u < R.length := (List.getElem?_eq_some_iff.1 hl).1
  have hbig := h.big
  have hk : cellsA ((N, .cells [iv x] 3) :: Hx) N 0 1 = some [iv x] := by rw [cellsA_eq, hget_cons, if_pos rfl]; rfl
  have ho : l ≠ [] → hget ((N, .cells [iv x] 3) :: Hx) m = some (.ext (l.map iv) 3 1) := fun hne => by
    obtain ⟨h1, h2, h3⟩ := h.row u m l hm hl hne
    rw [hget_cons, if_neg (by omega), h1]
  have happ := app24 (m := N + 1) hk ho hlen
  have n1 : namesOk (N + 1) ((N, .cells [iv x] 3) :: Hx) = true := namesOk_put (by omega) (namesOk_mono (by omega) _ h.nm)
  obtain ⟨Hd, hHd⟩ : ∃ Hd, (if l = [] then (N, Blk.cells [iv x] 3) :: Hx else hdel ((N, .cells [iv x] 3) :: Hx) m) = Hd := ⟨_, rfl⟩
  have hgd : ∀ j, j < N → (l ≠ [] → j ≠ m) → hget Hd j = hget Hx j := fun j hj hne => by
    rw [← hHd]
    split
    · rw [hget_cons, if_neg (by omega)]
    · rename_i e
      rw [hget_hdel, if_neg (hne e), hget_cons, if_neg (by omega)]
  have n2 : namesOk (N + 1) Hd = true := by
    rw [← hHd]
    split
    · exact n1
    · exact namesOk_hdel n1
  rw [hHd] at happ
  have n3 : namesOk (N + 1 + 1) ((N + 1, .ext ((l ++ [x]).map iv) 3 1) :: Hd) = true := namesOk_put (by omega) (namesOk_mono (by omega) _ n2)
  have hmm : l ≠ [] → n + 1 + 1 ≤ m ∧ m < N := fun e => (h.row u m l hm hl e).2
  have hout : hget ((N + 1, .ext ((l ++ [x]).map iv) 3 1) :: Hd) (n + 1) = some (.cells (ovs ms R) 24) := by
    rw [hget_cons, if_neg (by omega), hgd _ (by omega) (fun e => by have := hmm e; omega)]
    exact h.out
  have hst := store_at (v := outI (N + 1) (l ++ [x])) hout (i := u) (by rw [ovs_len _ _ h.len]; exact hu)
  rw [← ovs_set] at hst
  have hgz : ∀ j, j ≠ n + 1 → hget (hset ((N + 1, .ext ((l ++ [x]).map iv) 3 1) :: Hd) (n + 1) (.cells (ovs (ms.set u (N + 1)) (R.set u (l ++ [x]))) 24)) j = if N + 1 = j then some (.ext ((l ++ [x]).map iv) 3 1) else hget Hd j := fun j hj => by
    rw [hget_set, if_neg (fun e => hj e.symm), hget_cons]
  have hrow : ∀ (i m' : Nat) (l' : List Int), i ≠ u → ms[i]? = some m' → R[i]? = some l' → l' ≠ [] → hget Hd m' = some (.ext (l'.map iv) 3 1) ∧ n + 1 + 1 ≤ m' ∧ m' < N := fun i m' l' hi h1 h2 h3 => by
    obtain ⟨e1, e2, e3⟩ := h.row i m' l' h1 h2 h3
    refine ⟨?_, e2, e3⟩
    rw [hgd m' e3 fun e4 e5 => hi (h.inj i u m' l' l h1 (e5 ▸ hm) h2 hl h3 e4), e1]
  refine ⟨_, _, happ, hst, n1, n3, namesOk_hset n3, ⟨by rw [List.length_set, List.length_set, h.len], ?_, ?_, fun i m' l' h1 h2 h3 => ?_, fun i j m' l1 l2 h1 h2 h3 h4 h5 h6 => ?_, fun k b hk => ?_, namesOk_hset n3, by omega⟩⟩
  · rw [hgz _ (by omega), if_neg (by omega), hgd _ (by omega) (fun e => by have := hmm e; omega)]
    exact h.box
  · rw [hget_set, if_pos rfl, hout]; rfl
  · by_cases hi : i = u
    · subst hi
      rw [List.getElem?_set_self (by rw [h.len]; exact hu)] at h1
      rw [List.getElem?_set_self hu] at h2
      injection h1 with h1; injection h2 with h2
      subst h1 h2
      rw [hgz _ (by omega), if_pos rfl]
      exact ⟨rfl, by omega, by omega⟩
    · rw [List.getElem?_set_ne (fun e => hi e.symm)] at h1 h2
      obtain ⟨e1, e2, e3⟩ := hrow i m' l' hi h1 h2 h3
      rw [hgz _ (by omega), if_neg (by omega)]
      exact ⟨e1, e2, by omega⟩
  · by_cases hi : i = u <;> by_cases hj : j = u
    · omega
    · subst hi
      rw [List.getElem?_set_self (by rw [h.len]; exact hu)] at h1
      rw [List.getElem?_set_ne (fun e => hj e.symm)] at h2 h4
      injection h1 with h1
      have := (h.row j m' l2 h2 h4 h6).2
      omega
    · subst hj
      rw [List.getElem?_set_self (by rw [h.len]; exact hu)] at h2
      rw [List.getElem?_set_ne (fun e => hi e.symm)] at h1 h3
      injection h2 with h2
      have := (h.row i m' l1 h1 h3 h5).2
      omega
    · rw [List.getElem?_set_ne (fun e => hi e.symm)] at h1 h3
      rw [List.getElem?_set_ne (fun e => hj e.symm)] at h2 h4
      exact h.inj i j m' l1 l2 h1 h2 h3 h4 h5 h6
  · have := tidy_lt k b hk
    rw [hgz _ (by omega), if_neg (by omega), hgd _ (by omega) (fun e => by have := hmm e; omega)]
    exact h.sub k b hk
end
/-! ### the rows, while the row 'u' is worked on -/
def rowJ (up dn : Int) (p : List (List Int)) (u : Nat) : List Int := addB up dn (nxt up dn p (u + 1)) 0 (p.getD u [])
def rowsJ (up dn : Int) (p : List (List Int)) (u k : Nat) : List (List Int) := List.replicate u [] ++ (rowJ up dn p u).take k :: potR up dn (p.drop (u + 1))
def rowsO (up dn : Int) (p : List (List Int)) (t : Nat) : List (List Int) := List.replicate t [] ++ potR up dn (p.drop t)
section
variable {up dn : Int} {p : List (List Int)}
theorem rowsO_all : rowsO up dn p p.length = List.replicate p.length [] := by
  unfold rowsO
  rw [List.drop_length]
  simp [potR]
theorem rowsO_zero : rowsO up dn p 0 = potR up dn p := rfl
theorem rowsJ_zero {u : Nat} : rowsJ up dn p u 0 = rowsO up dn p (u + 1) := by
  unfold rowsJ rowsO
  rw [List.take_zero, List.replicate_succ', List.append_assoc]
  rfl
theorem rowJ_len {u : Nat} (hu : u < p.length) : (rowJ up dn p u).length = p[u].length := by
  unfold rowJ
  rw [addB_len, getD_at hu]
theorem rowsJ_full {u : Nat} (hu : u < p.length) : rowsJ up dn p u p[u].length = rowsO up dn p u := by
  unfold rowsJ rowsO
  rw [List.take_of_length_le (by rw [rowJ_len hu]; exact Nat.le_refl _), potR_drop hu]
  unfold rowJ
  rw [getD_at hu]
theorem rowsJ_at {u k : Nat} : (rowsJ up dn p u k)[u]? = some ((rowJ up dn p u).take k) := by
  unfold rowsJ
  rw [List.getElem?_append_right (by simp), List.length_replicate, Nat.sub_self]
  rfl
theorem rowsJ_next {u k : Nat} (hu : u + 1 < p.length) : (rowsJ up dn p u k)[u + 1]? = some (nxt up dn p (u + 1)) := by
  unfold rowsJ
  rw [List.getElem?_append_right (by simp), List.length_replicate, show u + 1 - u = 1 by omega, List.getElem?_cons_succ]
  exact nxt_get hu
theorem rowJ_step {u k : Nat} (hu : u < p.length) (hk : k < p[u].length) : (rowJ up dn p u).take k ++ [p[u][k] + bst up dn k 0 0 (nxt up dn p (u + 1))] = (rowJ up dn p u).take (k + 1) := by
  have hk2 : k < (rowJ up dn p u).length := by rw [rowJ_len hu]; exact hk
  rw [List.take_succ_eq_append_getElem hk2]
  congr 2
  have : (rowJ up dn p u)[k]? = some (p[u][k] + bst up dn k 0 0 (nxt up dn p (u + 1))) := by
    unfold rowJ
    rw [addB_get, getD_at hu, List.getElem?_eq_getElem hk, Nat.zero_add]
    rfl
  rw [List.getElem?_eq_getElem hk2] at this
  exact (Option.some.inj this).symm
theorem rowsJ_set {u k : Nat} : (rowsJ up dn p u k).set u ((rowJ up dn p u).take (k + 1)) = rowsJ up dn p u (k + 1) := by
  unfold rowsJ
  rw [List.set_append_right _ _ (by simp), List.length_replicate, Nat.sub_self]
  rfl
theorem potR_ne {k0 : Nat} (h : ∀ l ∈ p, l.length = k0) (h0 : 0 < k0) : ∀ l ∈ potR up dn p, l ≠ [] := fun l hl e => by
  have := potR_rows (up := up) (dn := dn) p h l hl
  rw [e] at this
  simp at this
  omega
end
end Go.Proofs.YtkongcnmkiihjaaGreatDoor

namespace Go.Proofs.YtkongcnmkiihjaaGreatDoor
open Go Go.Ab Go.Proofs
theorem load40 {H : Heap} {n : Nat} {a b : Int} (h : hget H n = some (.cells [iv a, iv b] 40)) : loadA Tryz.prog 40 H (.pointer (some ⟨n, 0, none⟩)) = some (limA a b) := by
  have : cellsA H n 0 2 = some [iv a, iv b] := by rw [cellsA_eq, h]; rfl
  simp only [loadA, ag40, sz40, this, Option.map_some]
theorem r30 {HX : Heap} {n m : Nat} {up dn x y : Int} {b : Bool} {gm : List Value → Heap → Nat → R} {f0 f5 f6 f8 : Value} {fr : Fr} {vs : List Nat} (hld : loadA Tryz.prog 40 HX (.pointer (some ⟨n, 0, none⟩)) = some (limA up dn)) (hgm : ∀ H n, gm [.agg #[iv up, iv dn], iv x, iv y] H n = some (.bool b, H, n)) :
    opsF Tryz.prog (recT [(111, gm)]) #[⟨some 45, .load 40 (.tmp 3), 40, "ref.go:268", #[], none⟩, ⟨some 46, .move (.tmp 7), 3, "ref.go:268", #[], none⟩, ⟨some 47, .move (.tmp 9), 3, "ref.go:268", #[], none⟩, ⟨some 48, .call ⟨.value (.func 111), #[.tmp 45, .tmp 46, .tmp 47], #[40, 3, 3]⟩, 4, "ref.go:268", #[⟨0, .data⟩, ⟨1, .data⟩, ⟨2, .data⟩], none⟩] [⟨some 45, .load 40 (.tmp 3), 40, "ref.go:268", #[], none⟩, ⟨some 46, .move (.tmp 7), 3, "ref.go:268", #[], none⟩, ⟨some 47, .move (.tmp 9), 3, "ref.go:268", #[], none⟩, ⟨some 48, .call ⟨.value (.func 111), #[.tmp 45, .tmp 46, .tmp 47], #[40, 3, 3]⟩, 4, "ref.go:268", #[⟨0, .data⟩, ⟨1, .data⟩, ⟨2, .data⟩], none⟩]
      { fr := (0, f0) :: (3, .pointer (some ⟨n, 0, none⟩)) :: (5, f5) :: (6, f6) :: (7, iv x) :: (8, f8) :: (9, iv y) :: fr, sz := 78, H := HX, n := m, marks := [], vs := vs } = some { fr := (48, .bool b) :: (47, iv y) :: (46, iv x) :: (45, .agg #[iv up, iv dn]) :: (0, f0) :: (3, .pointer (some ⟨n, 0, none⟩)) :: (5, f5) :: (6, f6) :: (7, iv x) :: (8, f8) :: (9, iv y) :: fr, sz := 78, H := HX, n := m, marks := [], vs := vs } := by
  simp [-loadA, hld, hgm]
set_option maxRecDepth 50000 in
theorem w30 {H : Heap} {n : Nat} {v : Value} {p : List (List Int)} (up dn : Int) (hP : nestV H v = some p) (hp0 : panE p = 0) : AC Tryz.prog 30 [v, limA up dn] H n (ndV oMake n (potR up dn p)) (ndB kCopy oMake n (potR up dn p) ++ H) (n + 1 + (potR up dn p).length) := by
  obtain ⟨q1, q2, q3, q4, q5, q6⟩ := panE_zero hp0
  have hLp : (potR up dn p).length = p.length := potR_len p
  refine AC.given fun hold hsc hgn => AC.tidied (fun x hx => (ndB_names x hx).1) ?_
  replace hP := nest_tidy hold hP
  replace hold := tidy_old hold
  have hr := recT_ok (P := Tryz.prog) (l := [(111, gMay)]) (by simp [ok111])
  have hS : Sub (tidy n H) (tidy n H) := Sub.refl _
  obtain ⟨oa, c, rfl, hlt, _, hrow⟩ := nestV_form hP
  refine AC.fresh Tryz.func30 rfl (by kernel_rfl) rfl [0, 1, 3, 4, 5, 6, 7, 8, 9, 17, 26, 42, 48] (by omega) (oMake.sc _ _ _ (by omega)) (fun ρ => by rw [ndV, oMake.ren]; exact oMake.af _ _) ?_
  have hwL : IntKind.i64.wrap ((p.length : Int) - 1) = (p.length : Int) - 1 := W_in (by omega) (by omega)
  refine E.seq ?_
  refine E.reg hr (by simp; rfl) ?_ -- region 0
  refine E.seq ?_
  refine E.reg hr (by simp [-builtinA, len38, mkZ38 (k := p.length) _ _ (show p.length < 4294967296 by omega)]; rfl) ?_ -- region 1
  refine E.seq ?_
  refine E.seq ?_
  refine E.reg hr (by simp [hwL]; rfl) ?_ -- region 2
  refine E.block ?_ -- 0
  refine E.loop ?_
  have hI0 : PJ n H up dn (List.replicate p.length 0) (List.replicate p.length []) ((n + 1, .cells (nils p.length) 24) :: (n, .cells [iv up, iv dn] 40) :: tidy n H) (n + 1 + 1) := by
    refine ⟨by simp, ?_, ?_, fun i m l h1 h2 h3 => ?_, fun i j m l l' h1 h2 h3 h4 h5 => ?_, Sub.cons (by simp) (Sub.cons (by simp) hS), ?_, Nat.le_refl _⟩
    · rw [hget_cons, if_neg (by omega), hget_cons, if_pos rfl]
    · rw [hget_cons, if_pos rfl, ovs_nils]
    · rw [List.getElem?_replicate] at h2
      split at h2
      · injection h2 with h2; exact absurd h2.symm h3
      · cases h2
    · rw [List.getElem?_replicate] at h3
      split at h3
      · injection h3 with h3; exact absurd h3.symm h5
      · cases h3
    · exact namesOk_put (by omega) (namesOk_put (by omega) snm2)
  refine EL.ind (fun x : Nat × Heap × Nat => { fr := [(0, .slice oa p.length c), (3, .pointer (some ⟨n, 0, none⟩)), (5, .slice (some ⟨n + 1, 0, none⟩) p.length p.length), (6, iv ((x.1 : Int) - 1))], sz := 78, H := x.2.1, n := x.2.2, marks := [], vs := [0, 1, 3, 4, 5, 6, 7, 8, 9, 17, 26, 42, 48] }) (fun x => x.1) (fun x => x.1 ≤ p.length ∧ ∃ ms, PJ n H up dn ms (rowsO up dn p x.1) x.2.1 x.2.2) (p.length, (n + 1, .cells (nils p.length) 24) :: (n, .cells [iv up, iv dn] 40) :: tidy n H, n + 1 + 1) (.keep rfl rfl rfl (by simp) (Sub.refl _)) ⟨Nat.le_refl _, _, by rw [rowsO_all]; exact hI0⟩ (fun _ => rfl) ?_
  clear hI0
  rintro ⟨t, Hx, N⟩ ⟨ht, ms, hI⟩
  dsimp only at ht hI ⊢
  refine E.seq ?_
  refine E.seq ?_
  refine E.reg hr (by simp; rfl) ?_ -- region 3
  rcases t with _ | u
  · refine E.cond (t := false) (by simp) (fun h => by cases h) (fun _ => ?_)
    refine E.exit ?_ -- 0
    refine E.seq ?_
    refine E.reg hr (by simp; rfl) ?_ -- region 15
    refine E.ret ?_
    rw [rowsO_zero] at hI
    have hne := potR_ne (up := up) (dn := dn) q5 q3
    have hout := hI.out
    rw [ovs_kvs _ _ hne] at hout
    refine outK.ret rfl rfl ?_
    refine outK_nd (o := n + 1) (ms := ms) (K := kCopy) (O := oMake) (by simp only [hLp]; rfl) hI.len (by omega) (fun m hm => ?_) ?_ hout (fun i m l h1 h2 => ?_) hI.sub
    · obtain ⟨i, hi, rfl⟩ := List.getElem_of_mem hm
      have hi' : i < (potR up dn p).length := by rw [← hI.len]; exact hi
      have := (hI.row i ms[i] _ (List.getElem?_eq_getElem hi) (List.getElem?_eq_getElem hi') (hne _ (List.getElem_mem hi'))).2
      omega
    · rw [List.nodup_iff_pairwise_ne, List.pairwise_iff_getElem]
      intro i j hi hj hij e
      have hi' : i < (potR up dn p).length := by rw [← hI.len]; exact hi
      have hj' : j < (potR up dn p).length := by rw [← hI.len]; exact hj
      have := hI.inj i j ms[j] _ _ (by rw [List.getElem?_eq_getElem hi, e]) (List.getElem?_eq_getElem hj) (List.getElem?_eq_getElem hi') (List.getElem?_eq_getElem hj') (hne _ (List.getElem_mem hi')) (hne _ (List.getElem_mem hj'))
      omega
    · have hl := hne l (List.mem_of_getElem? h2)
      have := (hI.row i m l h1 h2 hl).1
      simpa [kCopy, hl] using this
  · have hu : u < p.length := by omega
    refine E.cond (t := true) (by simp; omega) (fun _ => ?_) (fun h => by cases h)
    have hc8 : ((u + 1 : Nat) : Int) - 1 = u := by omega
    rw [hc8]
    refine E.skip ?_
    rw [← rowsJ_zero] at hI
    have hpu : p[u].length = len0 p := q5 _ (List.getElem_mem hu)
    refine E.lead { fr := [(0, .slice oa p.length c), (3, .pointer (some ⟨n, 0, none⟩)), (5, .slice (some ⟨n + 1, 0, none⟩) p.length p.length), (6, iv u)], sz := 78, H := Hx, n := N, marks := [], vs := [0, 1, 3, 4, 5, 6, 7, 8, 9, 17, 26, 42, 48] } (.keep rfl rfl rfl (by simp) (Sub.refl _)) ?_
    obtain ⟨a, r, rfl, hf, hc, hv⟩ := hrow u hu
    obtain ⟨orr, cr, rfl, hlr, _, hcl⟩ := intV_form hv
    have ha := cellA_lt tidy_lt hc
    refine E.seq ?_
    refine E.block ?_ -- 1
    refine E.seq ?_
    refine E.reg hr (by simp; rfl) ?_ -- region 5
    refine E.block ?_ -- 2
    refine E.loop ?_
    refine EL.ind (fun x : Nat × Heap × Nat => { fr := [(0, .slice (some a) p.length c), (3, .pointer (some ⟨n, 0, none⟩)), (5, .slice (some ⟨n + 1, 0, none⟩) p.length p.length), (6, iv u), (7, iv x.1)], sz := 78, H := x.2.1, n := x.2.2, marks := [], vs := [0, 1, 3, 4, 5, 6, 7, 8, 9, 17, 26, 42, 48] }) (fun x => p[u].length - x.1) (fun x => x.1 ≤ p[u].length ∧ ∃ ms, PJ n H up dn ms (rowsJ up dn p u x.1) x.2.1 x.2.2) (0, Hx, N) (.keep rfl rfl rfl (by simp) (Sub.refl _)) ⟨Nat.zero_le _, ms, hI⟩ (fun _ => rfl) ?_
    clear hI ms
    rintro ⟨k, Hx, N⟩ ⟨hk, ms, hI⟩
    dsimp only at hk hI ⊢
    have hw : IntKind.i64.wrap ((k : Int) + 1) = (k : Int) + 1 := W_in (by omega) (by omega)
    have hwu : IntKind.i64.wrap ((u : Int) + 1) = (u : Int) + 1 := W_in (by omega) (by omega)
    have hwm : IntKind.i64.wrap ((u : Int) - 1) = (u : Int) - 1 := W_in (by omega) (by omega)
    have hcx := hI.sub.cell hc
    refine E.seq ?_
    refine E.seq ?_
    refine E.reg hr (by simp [-cellA, -flat, hu, hf, hcx]; rfl) ?_ -- region 6
    by_cases hkl : k < p[u].length
    · refine E.cond (t := true) (by simp [hkl]) (fun _ => ?_) (fun h => by cases h)
      refine E.skip ?_
      refine E.seq ?_
      refine E.block ?_ -- 3
      refine E.seq ?_
      refine E.reg hr (by simp; rfl) ?_ -- region 8
      refine E.seq ?_
      refine E.seq ?_
      refine E.reg hr (by simp; rfl) ?_ -- region 9
      refine E.block ?_ -- 4
      refine E.loop ?_
      obtain ⟨nx, hnxe⟩ : ∃ nx, nxt up dn p (u + 1) = nx := ⟨_, rfl⟩
      have hnl : nx.length = if u + 1 < p.length then p[u].length else 0 := by
        rw [← hnxe]
        split
        · rename_i h; rw [nxt_rows h q5, hpu]
        · rename_i h
          unfold nxt
          rw [List.drop_eq_nil_of_le (by omega)]
          rfl
      have hnb : ∀ x ∈ nx, 0 ≤ x ∧ x ≤ 1024 * (p.length : Int) := by
        rw [← hnxe]
        by_cases h : u + 1 < p.length
        · exact nxt_bound h q6
        · unfold nxt
          rw [List.drop_eq_nil_of_le (by omega)]
          intro x hx
          simp [potR] at hx
      have hnl2 : nx.length ≤ 16 := by rw [hnl]; split <;> omega
      refine EL.ind (fun x : Nat × Int => { fr := [(0, .slice (some a) p.length c), (3, .pointer (some ⟨n, 0, none⟩)), (5, .slice (some ⟨n + 1, 0, none⟩) p.length p.length), (6, iv u), (7, iv k), (8, iv x.2), (9, iv x.1)], sz := 78, H := Hx, n := N, marks := [], vs := [0, 1, 3, 4, 5, 6, 7, 8, 9, 17, 26, 42, 48] }) (fun x => nx.length - x.1) (fun x => x.1 ≤ nx.length ∧ bst up dn k x.1 x.2 (nx.drop x.1) = bst up dn k 0 0 nx) (0, 0) (.keep rfl rfl rfl (by simp) (Sub.refl _)) ⟨Nat.zero_le _, rfl⟩ (fun _ => rfl) ?_
      rintro ⟨j, acc⟩ ⟨hj, hq⟩
      dsimp only at hj hq ⊢
      have hwj : IntKind.i64.wrap ((j : Int) + 1) = (j : Int) + 1 := W_in (by omega) (by omega)
      refine E.seq ?_
      refine E.seq ?_
      by_cases hjl : j < nx.length
      · have hu1 : u + 1 < p.length := by
          rcases Nat.lt_or_ge (u + 1) p.length with h | h
          · exact h
          · rw [if_neg (by omega)] at hnl; omega
        have huI : (u : Int) + 1 < p.length := by omega
        rw [if_pos hu1] at hnl
        have hjp : j < p[u].length := by omega
        have hnx := rowsJ_next (up := up) (dn := dn) (k := k) hu1
        rw [hnxe] at hnx
        obtain ⟨m1, hm1, hat1⟩ := hI.at hnx
        have hne : nx ≠ [] := fun e => by rw [e] at hjl; simp at hjl
        rw [outI_ne hne] at hat1
        have hcj := hI.cell hm1 hnx hjl
        have hld := load40 hI.box
        have hgm := gMay_eq (up := up) (dn := dn) (show k < 2147483648 by omega) (show j < 2147483648 by omega)
        rw [bst_drop hjl] at hq
        refine E.reg hr (by simp [-cellA, -flat, hwu, huI, hu, hf, hcx, hjp, yieldedA]; rfl) ?_ -- region 10
        refine E.cond (t := true) (by simp) (fun _ => ?_) (fun h => by cases h)
        refine E.skip ?_
        refine E.seq ?_
        refine E.block ?_ -- 5
        refine E.seq ?_
        refine E.lead { fr := [(0, .slice (some a) p.length c), (3, .pointer (some ⟨n, 0, none⟩)), (5, .slice (some ⟨n + 1, 0, none⟩) p.length p.length), (6, iv u), (7, iv k), (8, iv acc), (9, iv j)], sz := 78, H := Hx, n := N, marks := [], vs := [0, 1, 3, 4, 5, 6, 7, 8, 9, 17, 26, 42, 48] } (.keep rfl rfl rfl (by simp) (Sub.refl _)) ?_
        refine E.reg hr (r30 hld hgm) ?_ -- region 12
        by_cases hmay : mayB up dn k j = true
        · rw [if_pos hmay] at hq
          refine E.cond (t := true) (by simp [hmay]) (fun _ => ?_) (fun h => by cases h)
          refine E.reg hr (by simp [-cellA, -flat, flat_n, flat_z, hwu, huI, hat1, hjl, hcj, max33]; rfl) ?_ -- region 13
          refine E.reg hr (by simp [hwj]; rfl) ?_ -- region 11
          exact ⟨(j + 1, max acc nx[j]), .keep rfl rfl rfl (by simp) (Sub.refl _), ⟨hjl, hq⟩, by dsimp only; omega⟩
        · rw [if_neg hmay] at hq
          refine E.cond (t := false) (by simp [hmay]) (fun h => by cases h) (fun _ => ?_)
          refine E.skip ?_
          refine E.reg hr (by simp [hwj]; rfl) ?_ -- region 11
          exact ⟨(j + 1, acc), .keep rfl rfl rfl (by simp) (Sub.refl _), ⟨hjl, hq⟩, by dsimp only; omega⟩
      · rw [List.drop_eq_nil_of_le (by omega), bst] at hq
        have hacc : acc = bst up dn k 0 0 nx := hq
        obtain ⟨b, rfl, hfb, hcb⟩ := hcl k hkl
        have hb := cellA_lt tidy_lt hcb
        have hb1 := bst_bound (up := up) (dn := dn) (row := k) nx 0 0 ⟨by omega, (show (0 : Int) ≤ 1024 * (p.length : Int) by omega)⟩ hnb
        have hb2 := q6 _ (List.getElem_mem hu) _ (List.getElem_mem hkl)
        have hws : IntKind.i64.wrap (p[u][k] + acc) = p[u][k] + acc := W_in (by omega) (by omega)
        have hbig := hI.big
        have hA0 : n + 1 < N := by omega
        have hA1 : a.block < N := by omega
        have hA2 : b.block < N := by omega
        obtain ⟨m, hm, hat⟩ := hI.at (rowsJ_at (up := up) (dn := dn) (p := p) (u := u) (k := k))
        obtain ⟨Ha, Hz, happ, hst, n1, n3, n4, hI2⟩ := hI.more (x := p[u][k] + acc) hm rowsJ_at (by rw [List.length_take]; omega)
        have hstep := rowJ_step (up := up) (dn := dn) hu hkl
        rw [hnxe, ← hacc] at hstep
        rw [hstep] at happ hst hI2
        rw [rowsJ_set] at hI2
        obtain ⟨L0, hL0⟩ : ∃ L0, (rowJ up dn p u).take k = L0 := ⟨_, rfl⟩
        obtain ⟨L1, hL1⟩ : ∃ L1, (rowJ up dn p u).take (k + 1) = L1 := ⟨_, rfl⟩
        rw [hL0] at happ hat
        rw [hL1] at happ hst hstep
        have hL1n : L1 ≠ [] := fun e => by rw [e] at hstep; simp at hstep
        rw [outI_ne hL1n] at happ hst
        have hrd1 : cellA (readA [n + 1] Hx) (n + 1) u = some (outI m L0) := by rw [cell_read (by simp)]; exact hat
        have hrd2 : cellA (readA [a.block] Hx) a.block (a.off + u) = some (.slice (some b) p[u].length cr) := by rw [cell_read (by simp)]; exact hcx
        have hrd3 : cellA (readA [b.block] Hx) b.block (b.off + k) = some (iv p[u][k]) := by rw [cell_read (by simp)]; exact hI.sub.cell hcb
        have hnm := hI.nm
        rcases Nat.lt_or_ge (u + 1) p.length with hu1 | hu1
        case' inl =>
          have huI : (u : Int) + 1 < p.length := by omega
          rw [if_pos hu1] at hnl
          have hjp : ¬ j < p[u].length := by omega
          refine E.reg hr (by simp [-cellA, -flat, hwu, huI, hu, hf, hcx, hjp, yieldedA]; rfl) ?_ -- region 10
          refine E.cond (t := false) (by simp) (fun h => by cases h) (fun _ => ?_)
        case' inr =>
          have huI : ¬ (u : Int) + 1 < p.length := by omega
          refine E.reg hr (by simp [-cellA, -flat, hwu, huI, yieldedA, undefV]; rfl) ?_ -- region 10
          refine E.cond (t := false) (by simp) (fun h => by cases h) (fun _ => ?_)
        all_goals
          refine E.exit ?_ -- 4
          refine E.lead { fr := [(0, .slice (some a) p.length c), (3, .pointer (some ⟨n, 0, none⟩)), (5, .slice (some ⟨n + 1, 0, none⟩) p.length p.length), (6, iv u), (7, iv k), (8, iv acc)], sz := 78, H := Hx, n := N, marks := [], vs := [0, 1, 3, 4, 5, 6, 7, 8, 9, 17, 26, 42, 48] } (.keep rfl rfl rfl (by simp) (Sub.refl _)) ?_
          refine E.drawU mixed hr [16, 18] [15, 16, 18] [5, 9, 12, 15, 16, 18] (by kernel_rfl) (by simp [-cellA, -flat, -readA, -builtinA, -storeA, flat_n, hnm, hA0, hA1, hA2, hu, hf, hfb, hkl, hrd1, hrd2, hrd3, handA_nil, hws, happ, hst, n3, n4]; rfl) ?_ -- region 14
          refine E.reg hr (by simp [hw]; rfl) ?_ -- region 7
          exact ⟨(k + 1, Hz, N + 1 + 1), .keep rfl rfl rfl (by simp) (Sub.refl _), ⟨hkl, _, hI2⟩, by dsimp only; omega⟩
    · refine E.cond (t := false) (by simp [hkl]) (fun h => by cases h) (fun _ => ?_)
      refine E.exit ?_ -- 2
      refine E.reg hr (by simp [hwm]; rfl) ?_ -- region 4
      have hk2 : k = p[u].length := by omega
      rw [hk2, rowsJ_full hu] at hI
      exact ⟨(u, Hx, N), .keep rfl rfl rfl (by simp) (Sub.refl _), ⟨by dsimp only; omega, ms, hI⟩, by dsimp only; omega⟩
def g30 (args : List Value) (H : Heap) (n : Nat) : R := match args with
  | [v, .agg ⟨[.int .i64 up, .int .i64 dn]⟩] => match nestV H v with
    | some p => if panE p = 0 then some (ndV oMake n (potR up dn p), ndB kCopy oMake n (potR up dn p) ++ H, n + 1 + (potR up dn p).length) else none
    | none => none
  | _ => none
theorem ok30 : EntOk Tryz.prog (30, g30) := by
  intro args H n v H' n' h
  simp only [g30] at h
  split at h
  · split at h
    · rename_i h1
      split at h
      · rename_i h2
        injection h with h; injection h with e1 e2; injection e2 with e2 e3; subst e1 e2 e3
        exact w30 _ _ h1 h2
      · cases h
    · cases h
  · cases h
end Go.Proofs.YtkongcnmkiihjaaGreatDoor
