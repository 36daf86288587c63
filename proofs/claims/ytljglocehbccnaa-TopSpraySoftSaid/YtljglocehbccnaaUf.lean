/-
The walk through what TopSpraySoft reaches, and the plain law behind it (no condition).
-/
import Derived.Test.YtljglocehbccnaaRows
import Derived.JoinedOf
import Derived.KernelRfl
import Derived.Test.YtljglocehbccnaaUe
namespace Go.Proofs.Ytljglocehbccnaa.Gn
open Go Go.Ab Go.Proofs Go.Soft
theorem strAt_form {H : Heap} {v : Value} {l : List Gun} (h : strAt H (.agg ⟨[v]⟩) = some l) : ∃ oa c, v = .slice oa l.length c := by
  unfold strAt at h
  split at h
  · rename_i e
    simp only [Value.agg.injEq, Array.mk.injEq, List.cons.injEq, and_true] at e
    subst e
    injection h with h
    subst h
    exact ⟨none, 0, rfl⟩
  · rename_i a len c e
    simp only [Value.agg.injEq, Array.mk.injEq, List.cons.injEq, and_true] at e
    subst e
    obtain ⟨_, _, hlen, _⟩ := gunsAt_ok h
    subst hlen
    exact ⟨some a, c, rfl⟩
  · cases h
theorem rowGuns_at {H : Heap} {b : Nat} {l : List Gun} (h : hget H b = some (.ext (gcs l) 79 7)) (hl : l.length < 2 ^ 63) : rowGuns H b l.length = some l := by
  unfold rowGuns rowOf
  rw [h]
  simp only [gunsOf_gcs]
  rw [if_pos ⟨trivial, hl⟩]
theorem len61 {H : Heap} {m k c : Nat} {oa : Option Addr} : builtinA Try.prog .len #[61] H m [.slice oa k c] = some (iv k, H, m) := by simp
set_option maxRecDepth 20000 in
set_option maxHeartbeats 4000000 in
theorem w4 {H : Heap} {n : Nat} {v : Value} {l : List Gun} (b : Brg) {oa : Option Addr} {L c : Nat} {sl : List Sg} (hs : strAt H (.agg ⟨[v]⟩) = some l) (hV : shortV b.t L = true → sigV H (.slice oa L c) = some sl) (p q r : Int) : AC Try.prog 4 [.agg ⟨[v]⟩, b.run (.slice oa L c) p q r] H n (.bool true) H n := by
  refine AC.given fun hold hsc hgn => AC.tidied (B := []) (by simp) ?_
  have hlt0 := fun k b h => (hold k b h).1
  replace hV : shortV b.t L = true → sigV (tidy n H) (.slice oa L c) = some sl := fun h => listV_tidy decG_tidy hlt0 (hV h)
  replace hs := strAt_tidy hlt0 hs
  have hr := recT_ok (P := Try.prog) (l := [(5, g5), (6, g6), (9, g9), (10, g10), (13, gStr fun l => .bool (shortS l)), (14, gStr fun l => iv (strE l)), (15, g15), (16, g16), (17, gStrR volR), (18, g18)]) (by simp only [List.forall_mem_cons]; exact ⟨ok5, ok6, ok9, ok10, ok13, ok14, ok15, ok16, ok17, ok18, by simp⟩)
  have h6 : ∀ H n, g6 [] H n = some (.bool true, H, n) := fun _ _ => rfl
  obtain ⟨ru, hru⟩ : ∃ ru, runV b L sl = ru := ⟨_, rfl⟩
  obtain ⟨ga, gc, hvf⟩ := strAt_form hs
  obtain ⟨X0, hX0⟩ : ∃ X0, (n + 1, Blk.cells [iv b.x, iv b.y, iv b.dx, iv b.dy, iv b.t, iv b.r, iv b.s, iv b.l, iv b.c, iv b.f, .slice oa L c, .int .u8 p, .int .u8 q, .int .u8 r] 30) :: (n, Blk.cells [v] 58) :: tidy n H = X0 := ⟨_, rfl⟩
  have hS0 : Sub (tidy n H) X0 := by rw [← hX0]; exact Sub.cons (by simp) (Sub.cons (by simp) (Sub.refl _))
  have hn0 : namesOk (n + 1 + 1) X0 = true := by rw [← hX0]; exact namesOk_put (by omega) (namesOk_put (by omega) (by simp))
  have hp0 : plainH X0 = true := by rw [← hX0]; simp [plainH]
  have hb0 : hget X0 n = some (.cells [v] 58) := by rw [← hX0, hget_cons, if_neg (by omega), hget_cons, if_pos rfl]
  have hb1 : hget X0 (n + 1) = some (.cells [iv b.x, iv b.y, iv b.dx, iv b.dy, iv b.t, iv b.r, iv b.s, iv b.l, iv b.c, iv b.f, .slice oa L c, .int .u8 p, .int .u8 q, .int .u8 r] 30) := by rw [← hX0, hget_cons, if_pos rfl]
  have h5 : ∀ m, g5 [.agg ⟨[iv b.x, iv b.y, iv b.dx, iv b.dy, iv b.t, iv b.r, iv b.s, iv b.l, iv b.c, iv b.f, .slice oa L c, .int .u8 p, .int .u8 q, .int .u8 r]⟩] X0 m = some (.bool ru, X0, m) := fun m => by
    simp only [g5]
    by_cases hs : shortV b.t L = true
    · have : sigV X0 (.slice oa L c) = some sl := listV_mono decG_mono hS0 (hV hs)
      rw [if_pos hs, this, ← hru]
      rfl
    · rw [if_neg hs, ← hru, runV, show shortV b.t L = false from by simpa using hs, Bool.false_and]
  have h13 : ∀ m, gStr (fun l => .bool (shortS l)) [.agg ⟨[v]⟩] X0 m = some (.bool (shortS l), X0, m) := fun m => by
    simp only [gStr, strAt_mono hS0 hs, Option.map_some]
  have h14 : ∀ m, gStr (fun l => iv (strE l)) [.agg ⟨[v]⟩] X0 m = some (iv (strE l), X0, m) := fun m => by
    simp only [gStr, strAt_mono hS0 hs, Option.map_some]
  have c0 : ∀ {X : Heap}, Sub X0 X → cellsA X n 0 1 = some [v] ∧ cellA X n 0 = some v := fun h => ⟨by rw [cellsA_eq, h _ _ hb0]; rfl, by rw [cellA_eq, h _ _ hb0]; rfl⟩
  have c1 : ∀ {X : Heap}, Sub X0 X → cellsA X (n + 1) 0 5 = some [iv b.x, iv b.y, iv b.dx, iv b.dy, iv b.t] ∧ cellsA X (n + 1) 5 5 = some [iv b.r, iv b.s, iv b.l, iv b.c, iv b.f] ∧ cellA X (n + 1) 10 = some (.slice oa L c) ∧ cellA X (n + 1) 4 = some (iv b.t) ∧ cellsA X (n + 1) 0 14 = some [iv b.x, iv b.y, iv b.dx, iv b.dy, iv b.t, iv b.r, iv b.s, iv b.l, iv b.c, iv b.f, .slice oa L c, .int .u8 p, .int .u8 q, .int .u8 r] := fun h =>
    ⟨by rw [cellsA_eq, h _ _ hb1]; rfl, by rw [cellsA_eq, h _ _ hb1]; rfl, by rw [cellA_eq, h _ _ hb1]; rfl, by rw [cellA_eq, h _ _ hb1]; rfl, by rw [cellsA_eq, h _ _ hb1]; rfl⟩
  obtain ⟨k1, k2⟩ := c0 (Sub.refl X0)
  obtain ⟨_, _, _, _, k3⟩ := c1 (Sub.refl X0)
  unfold Brg.run
  refine AC.pure Try.func4 rfl (by kernel_rfl) rfl [2, 3, 5, 7, 9, 13, 15, 17, 18, 20, 23, 77, 78, 79, 124, 125, 126, 136, 137, 138, 143, 144, 145, 171, 172, 173] rfl ?_
  refine E.seq ?_
  refine E.reg hr (by simp; rfl) ?_ -- region 0
  rw [hX0]
  refine E.seq ?_
  refine E.seq ?_
  subst hvf
  cases hsh : shortS l with
  | false =>
    rw [hsh] at h13
    refine E.reg hr (by simp [-cellsA, -cellA, k1, h13, yieldedA, undefV]; rfl) ?_ -- region 1
    refine E.cond (t := true) (by simp) (fun _ => ?_) (fun h => by cases h)
    refine E.seq ?_
    refine E.reg hr (by simp [h6]; rfl) ?_ -- region 2
    refine E.ret ?_
    exact pureK.ret rfl rfl (by simp) hS0
  | true =>
  rw [hsh] at h13
  by_cases hl6 : l.length ≤ 6
  case neg =>
    have hl6' : (6 : Int) < l.length := by omega
    refine E.reg hr (by simp [-cellsA, -cellA, k1, k2, h13, hl6', yieldedA, undefV]; rfl) ?_ -- region 1
    refine E.cond (t := true) (by simp) (fun _ => ?_) (fun h => by cases h)
    refine E.seq ?_
    refine E.reg hr (by simp [h6]; rfl) ?_ -- region 2
    refine E.ret ?_
    exact pureK.ret rfl rfl (by simp) hS0
  have hl6' : ¬ (6 : Int) < l.length := by omega
  by_cases hE : strE l = 0
  case neg =>
    refine E.reg hr (by simp [-cellsA, -cellA, k1, k2, h13, h14, hl6', hE, yieldedA, undefV]; rfl) ?_ -- region 1
    refine E.cond (t := true) (by simp) (fun _ => ?_) (fun h => by cases h)
    refine E.seq ?_
    refine E.reg hr (by simp [h6]; rfl) ?_ -- region 2
    refine E.ret ?_
    exact pureK.ret rfl rfl (by simp) hS0
  rw [hE] at h14
  cases ru with
  | false =>
    refine E.reg hr (by simp [-cellsA, -cellA, k1, k2, k3, h13, h14, h5, hl6', yieldedA]; rfl) ?_ -- region 1
    refine E.cond (t := true) (by simp) (fun _ => ?_) (fun h => by cases h)
    refine E.seq ?_
    refine E.reg hr (by simp [h6]; rfl) ?_ -- region 2
    refine E.ret ?_
    exact pureK.ret rfl rfl (by simp) hS0
  | true =>
  refine E.reg hr (by simp [-cellsA, -cellA, k1, k2, k3, h13, h14, h5, hl6', yieldedA]; rfl) ?_ -- region 1
  refine E.cond (t := false) (by simp) (fun h => by cases h) (fun _ => ?_)
  refine E.skip ?_
  refine E.seq ?_
  have hrun := hru
  unfold runV at hrun
  rw [Bool.and_eq_true] at hrun
  obtain ⟨hsh2, hbr⟩ := hrun
  replace hV := hV hsh2
  have hEb : brE b sl = 0 := by simpa using hbr
  obtain ⟨hne, _, hd, hb⟩ := strE_zero hE
  have hpos : 0 < l.length := List.length_pos_iff.2 hne
  have hG := strAt_guns hs hne (by omega)
  obtain ⟨hK1, hK0⟩ := softL_len2 hpos
  obtain ⟨K, hK⟩ : ∃ K, (softL l).length = K := ⟨_, rfl⟩
  rw [hK] at hK1 hK0
  have hKd : (softD l).length = K := by rw [← hK]; unfold softL; rw [List.length_map]
  have h16 : ∀ X m, Sub X0 X → g16 [.agg ⟨[.slice ga l.length gc]⟩] X m = some (.agg ⟨[.slice (some ⟨m, 0, some 0⟩) l.length 0]⟩, (m, .ext (gcs l) 79 7) :: X, m + 1) := fun X m hX => strAt_own (strAt_mono (hS0.trans hX) hs) hne (by omega)
  /- the string once more, and its soft start -/
  obtain ⟨m0, hm0⟩ : ∃ m0, n + 1 + 1 = m0 := ⟨_, rfl⟩
  rw [hm0] at hn0 ⊢
  have a1 := h16 X0 m0 (Sub.refl _)
  have hO1 := own_row (n := m0) (H := X0) hne (by omega)
  obtain ⟨X1, hX1⟩ : ∃ X1, (m0, Blk.ext (gcs l) 79 7) :: X0 = X1 := ⟨_, rfl⟩
  have hS1 : Sub X0 X1 := by rw [← hX1]; exact Sub.cons (namesOk_none hn0 _ (Nat.le_refl _)) (Sub.refl _)
  have hn1 : namesOk (m0 + 1) X1 = true := by rw [← hX1]; exact namesOk_put (Nat.lt_succ_self _) (namesOk_mono (by omega) _ hn0)
  have hp1 : plainH X1 = true := by rw [← hX1]; simp [plainH, hp0]
  rw [hX1] at a1 hO1
  obtain ⟨W, hW⟩ : ∃ W, Value.slice (some ⟨m0, 0, some 0⟩) l.length 0 = W := ⟨_, rfl⟩
  rw [hW] at a1 hO1
  have a2 := g15_own (n := m0 + 1) hO1
  rw [if_pos hE] at a2
  have hsn := soft_nest (l := l) (n := m0 + 1) (H := X1) (by omega)
  obtain ⟨hd1, hd2, hd3⟩ := ndbD_ok (n := m0 + 1) (ds := softD l)
  obtain ⟨N2, hN2⟩ : ∃ N2, m0 + 1 + 1 + (softD l).length = N2 := ⟨_, rfl⟩
  obtain ⟨X2, hX2⟩ : ∃ X2, ndbD kT oT (m0 + 1) (softD l) ++ X1 = X2 := ⟨_, rfl⟩
  have hS2 : Sub X1 X2 := by rw [← hX2]; exact sub_app hd1 hn1
  have hn2 : namesOk N2 X2 = true := by
    rw [← hX2, ← hN2]
    refine namesOk_app (fun x hx => ?_) (namesOk_mono (by omega) _ hn1)
    have := (ndbD_names x hx).2
    omega
  have hp2 : plainH X2 = true := by rw [← hX2]; exact plainH_app hd3 hp1
  obtain ⟨sa, sc', hsv, _, _, hrow⟩ := decL_form hsn
  rw [hK] at hsv
  rw [hN2, hX2, hsv] at a2
  rw [hX2] at hrow
  have hT2 : Sub X0 X2 := hS1.trans hS2
  obtain ⟨q1, _⟩ := c0 (Sub.refl X0)
  refine E.reg hr (by simp [-cellsA, q1, a1, a2]; rfl) ?_ -- region 3
  refine E.seq ?_
  /- its volume -/
  have a3 := h16 X2 N2 hT2
  obtain ⟨X3, hX3⟩ : ∃ X3, (N2, Blk.ext (gcs l) 79 7) :: X2 = X3 := ⟨_, rfl⟩
  have hS3 : Sub X2 X3 := by rw [← hX3]; exact Sub.cons (namesOk_none hn2 _ (Nat.le_refl _)) (Sub.refl _)
  have hn3 : namesOk (N2 + 1) X3 = true := by rw [← hX3]; exact namesOk_put (Nat.lt_succ_self _) (namesOk_mono (by omega) _ hn2)
  have hp3 : plainH X3 = true := by rw [← hX3]; simp [plainH, hp2]
  have a4 : gStrR volR [.agg ⟨[.slice (some ⟨N2, 0, some 0⟩) l.length 0]⟩] X3 (N2 + 1) = some (.tuple #[iv (volW l), iv 0], X3, N2 + 1) := by
    have : rowGuns X3 N2 l.length = some l := rowGuns_at (by rw [← hX3, hget_cons, if_pos rfl]) (by omega)
    simp only [gStrR, this, Option.map_some, volR, hE, if_true]
  rw [hX3] at a3
  obtain ⟨q1, q2⟩ := c0 hT2
  refine E.reg hr (by simp [-cellsA, q1, a3, a4]; rfl) ?_ -- region 4
  refine E.seq ?_
  refine E.seq ?_
  obtain ⟨q1, q2⟩ := c0 (hT2.trans hS3)
  have f1 : ¬ (K : Int) < 1 := by omega
  have f2 : ¬ (l.length : Int) < K := by omega
  refine E.reg hr (by simp [-cellA, q2, f1, f2, yieldedA]; rfl) ?_ -- region 5
  refine E.cond (t := false) (by simp) (fun h => by cases h) (fun _ => ?_)
  refine E.skip ?_
  refine E.seq ?_
  refine E.reg hr (by simp; rfl) ?_ -- region 7
  refine E.seq ?_
  refine E.seq ?_
  refine E.reg hr (by simp; rfl) ?_ -- region 8
  refine E.block ?_ -- 0
  refine E.loop ?_
  obtain ⟨N3, hN3⟩ : ∃ N3, N2 + 1 = N3 := ⟨_, rfl⟩
  rw [hN3] at hn3 ⊢
  have hT3 : Sub X0 X3 := hT2.trans hS3
  have hrow3 : ∀ (i : Nat) (hi : i < (softL l).length), ∃ a r, sa = some a ∧ flat a = true ∧ cellA X3 a.block (a.off + i) = some r ∧ Ab.strV X3 r = some (softL l)[i] := fun i hi => by
    obtain ⟨a, r, e1, e2, e3, e4⟩ := hrow i hi
    exact ⟨a, r, e1, e2, hS3.cell e3, listV_mono decS_mono hS3 e4⟩
  clear hrow
  have hq3 : ∀ k b, hget X3 k = some b → k < N3 := fun k b h => by
    by_cases hk : k < N3
    · exact hk
    · rw [namesOk_none hn3 k (by omega)] at h; cases h
  have hL0 : LC N3 X3 [] [] N3 X3 N3 := ⟨Sub.refl _, hn3, hp3, rfl, fun _ _ _ h => (by cases h), fun h => absurd rfl h, fun m hm => (List.not_mem_nil hm).elim, Nat.le_refl _⟩
  refine EL.ind (fun x : Nat × Heap × Nat × Nat × List Nat => { fr := [(2, .pointer (some ⟨n, 0, none⟩)), (3, .pointer (some ⟨n + 1, 0, none⟩)), (5, .slice sa K sc'), (7, iv (volW l)), (9, lcV x.2.2.2.1 x.1), (77, .slice sa K sc'), (78, iv K), (79, iv x.1)], sz := 222, H := x.2.1, n := x.2.2.1, marks := [], vs := [2, 3, 5, 7, 9, 13, 15, 17, 18, 20, 23, 77, 78, 79, 124, 125, 126, 136, 137, 138, 143, 144, 145, 171, 172, 173] }) (fun x => K - x.1) (fun x => x.1 ≤ K ∧ LC N3 X3 x.2.2.2.2 ((softL l).take x.1) x.2.2.2.1 x.2.1 x.2.2.1) (0, X3, N3, N3, []) (.keep rfl rfl rfl (by simp [lcV]) (Sub.refl _)) ⟨Nat.zero_le _, by simpa using hL0⟩ (fun _ => rfl) ?_
  rintro ⟨i, Y, M, o, ms⟩ ⟨hi, hL⟩
  dsimp only at hi hL ⊢
  have hw : IntKind.i64.wrap ((i : Int) + 1) = (i : Int) + 1 := W_in (by omega) (by omega)
  refine E.seq ?_
  refine E.reg hr (by simp; rfl) ?_ -- region 9
  refine E.seq ?_
  by_cases hiK : i < K
  · have hiL : i < (softL l).length := by omega
    obtain ⟨a, r, rfl, hf, hc, hR⟩ := hrow3 i hiL
    have hrne : (softL l)[i] ≠ [] := (softL_row (List.getElem_mem hiL)).1
    have hrln : (softL l)[i].length ≤ l.length + 1 := (softL_row (List.getElem_mem hiL)).2
    obtain ⟨R, hRe⟩ : ∃ R, (softL l)[i] = R := ⟨_, rfl⟩
    rw [hRe] at hR hrne hrln
    have hR0 : R.length ≠ 0 := fun e => hrne (List.length_eq_zero_iff.1 e)
    have hcY := hL.sub.cell hc
    have hL1 := hL.skip hq3 (.cells [] 9) rfl
    have hL2 := hL1.skip hq3 (.ext (R.map enS.to) 9 1) rfl
    have hwd := app_words (n := M) (m := M + 1) (H := (M, .cells [] 9) :: Y) (listV_mono decS_mono (hL.sub.trans (Sub.cons (namesOk_none hL.nm _ (Nat.le_refl _)) (Sub.refl _))) hR) hR0 (by rw [cellsA_eq, hget_cons, if_pos rfl]; rfl)
    have hkv : kS.val (M + 1) R = .slice (some ⟨M + 1, 0, some 0⟩) R.length 0 := if_neg hR0
    have hkb : kS.blk R = .ext (R.map enS.to) 9 1 := if_neg hR0
    have hlo := hL.low
    obtain ⟨Z, hap, hLZ⟩ := hL2.more hq3 (m := M + 1) (r := R) (by rw [hget_cons, if_pos rfl, hkb]) ⟨by omega, by omega, fun hne => by have := (hL.out hne).2.2; omega⟩ (by rw [List.length_take]; omega)
    have htl : ((softL l).take i).length = i := by rw [List.length_take]; omega
    have hts : (softL l).take i ++ [R] = (softL l).take (i + 1) := by rw [← hRe]; exact (List.take_succ_eq_append_getElem hiL).symm
    rw [htl, hkv] at hap
    rw [hts] at hLZ
    refine E.cond (t := true) (by simp [hiK]) (fun _ => ?_) (fun h => by cases h)
    refine E.skip ?_
    refine E.seq ?_
    refine E.block ?_ -- 1
    refine E.seq ?_
    refine E.reg hr (by simp [-cellA, -flat, hiK, hf, hcY]; rfl) ?_ -- region 10
    refine E.reg hr (by simp [-builtinA, hwd, hap]; rfl) ?_ -- region 11
    refine E.reg hr (by simp [hw]; rfl) ?_ -- region 12
    exact ⟨(i + 1, Z, M + 1 + 1 + 1 + 1, M + 1 + 1 + 1, ms ++ [M + 1]), .keep rfl rfl rfl (by simp) (Sub.refl _), ⟨hiK, hLZ⟩, by dsimp only; omega⟩
  refine E.cond (t := false) (by simp [hiK]) (fun h => by cases h) (fun _ => ?_)
  refine E.exit ?_ -- 0
  obtain rfl : i = K := by omega
  rw [List.take_of_length_le (by omega)] at hL
  have hsne : softL l ≠ [] := fun e => by rw [e] at hK; simp at hK; omega
  have hown := hL.nest hsne (by omega) fun r hr => by have := (softL_row hr).2; omega
  rw [hK] at hown
  obtain ⟨ow, how⟩ : ∃ ow, lcV o i = ow := ⟨_, rfl⟩
  rw [how] at hown ⊢
  obtain ⟨sgl, hsgl, hlt⟩ : ∃ sgl : Value, sgl = .slice oa L c ∧ sl.length < 2147483648 := by
    obtain ⟨_, _, _, hlt, _⟩ := sigV_form hV
    exact ⟨_, rfl, hlt⟩
  obtain ⟨⟨ht1, ht2⟩, _, _⟩ := wat_of hEb
  obtain ⟨T, hT⟩ : ∃ T : Nat, b.t = T := ⟨b.t.toNat, by omega⟩
  have hS4 : Sub X0 Y := hT3.trans hL.sub
  have hn4 := hL.nm
  have hp4 := hL.pl
  have hlo := hL.low
  have hwK : IntKind.i64.wrap ((i : Int) - 1) = (i : Int) - 1 := W_in (by omega) (by omega)
  obtain ⟨e1, e2, e3, e4, _⟩ := c1 hS4
  have hS3Y := hL.sub
  clear hL hw
  refine E.seq ?_
  refine E.reg hr (by simp [-cellsA, e2]; rfl) ?_ -- region 13
  refine E.seq ?_
  refine E.reg hr (by simp [hwK]; rfl) ?_ -- region 14
  refine E.seq ?_
  /- the levels -/
  have hn5 : namesOk (M + 1) ((M, Blk.cells [iv b.r, iv b.s, iv b.l, iv b.c, iv ((i : Int) - 1)] 27) :: Y) = true := namesOk_put (Nat.lt_succ_self _) (namesOk_mono (by omega) _ hn4)
  have hp5 : plainH ((M, Blk.cells [iv b.r, iv b.s, iv b.l, iv b.c, iv ((i : Int) - 1)] 27) :: Y) = true := by simp [plainH, hp4]
  have hSY : Sub Y ((M, Blk.cells [iv b.r, iv b.s, iv b.l, iv b.c, iv ((i : Int) - 1)] 27) :: Y) := Sub.cons (namesOk_none hn4 _ (Nat.le_refl _)) (Sub.refl _)
  have hwb : cellsA ((M, Blk.cells [iv b.r, iv b.s, iv b.l, iv b.c, iv ((i : Int) - 1)] 27) :: Y) M 0 5 = some [iv b.r, iv b.s, iv b.l, iv b.c, iv ((i : Int) - 1)] := by rw [cellsA_eq, hget_cons, if_pos rfl]; rfl
  obtain ⟨X5, hX5⟩ : ∃ X5, (M, Blk.cells [iv b.r, iv b.s, iv b.l, iv b.c, iv ((i : Int) - 1)] 27) :: Y = X5 := ⟨_, rfl⟩
  rw [hX5] at hn5 hp5 hSY hwb
  have hS5 : Sub X0 X5 := hS4.trans hSY
  have hn0M : n < M + 1 ∧ n + 1 < M + 1 := by omega
  obtain ⟨M5, hM5⟩ : ∃ M5, M + 1 = M5 := ⟨_, rfl⟩
  rw [hM5] at hn5 hn0M
  refine E.lead { fr := [(2, .pointer (some ⟨n, 0, none⟩)), (3, .pointer (some ⟨n + 1, 0, none⟩)), (5, .slice sa i sc'), (7, iv (volW l)), (9, ow), (12, .pointer (some ⟨M, 0, none⟩))], sz := 222, H := X5, n := M5, marks := [], vs := [2, 3, 5, 7, 9, 13, 15, 17, 18, 20, 23, 77, 78, 79, 124, 125, 126, 136, 137, 138, 143, 144, 145, 171, 172, 173] } (.keep hM5.symm rfl rfl (by simp) (by rw [← hX5]; exact Sub.refl _)) ?_
  have hE5 : brE { b with f := (i : Int) - 1 } sl = 0 := brE_soft hEb (by omega)
  obtain ⟨e1, e2, e3, e4, _⟩ := c1 hS5
  have hM5' : M < M5 := by omega
  obtain ⟨nN, nN1⟩ := hn0M
  have hf9 : g9 [.slice oa L c] (frzH X5) M5 = some (outS M5 sl.length, outSB M5 90 3 sl.length (sgs sl) ++ frzH X5, M5 + 1) := seen_at ((listV_frz decG_frz _ _).trans (listV_mono decG_mono (hS0.trans hS5) hV))
  have htk : takeNew M5 (outSB M5 90 3 sl.length (sgs sl) ++ frzH X5) = outSB M5 90 3 sl.length (sgs sl) := by rw [takeNew_app outSB_ge, takeNew_frz hn5, List.append_nil]
  have hno : namesOk (M5 + 1) (outSB M5 90 3 sl.length (sgs sl)) = true := by
    unfold outSB
    split
    · rfl
    · exact namesOk_put (by omega) rfl
  have h10 := lev_at (b := { b with f := (i : Int) - 1 }) (m := M5 + 1) (seen_sig (l := sl) (Z := X5) (m := M5) hlt) hE5
  dsimp only at h10
  have hnS : namesOk (M5 + 1) (outSB M5 90 3 sl.length (sgs sl) ++ X5) = true := namesOk_app (namesOk_iff.1 hno) (namesOk_mono (by omega) _ hn5)
  have hpS : plainH (outSB M5 90 3 sl.length (sgs sl) ++ X5) = true := plainH_app (by unfold outSB; split <;> rfl) hp5
  have hn6 : namesOk (M5 + 1 + 1) (outSB M5 90 3 sl.length (sgs sl) ++ X5) = true := namesOk_mono (by omega) _ hnS
  refine E.drawU mixed hr [6] [5, 6] [1, 2, 4, 5, 6] (by kernel_rfl) (by simp [-cellA, -cellsA, -flat, -readA, cellA_read, cellsA_read, hn5, hp5, e1, e3, hwb, nN1, hM5', hf9, htk, hno, hn6, h10]; rfl) ?_ -- region 15
  obtain ⟨LV, hLV⟩ : ∃ LV, levL { b with f := (i : Int) - 1 } sl = LV := ⟨_, rfl⟩
  have hLVat : ∀ τ, τ < T → LV[τ]? = some (iv (levV { b with f := (i : Int) - 1 } sl τ)) := fun τ hτ => by
    rw [← hLV]
    exact levL_at (by dsimp only; omega)
  rw [hLV]
  have hTn : b.t.toNat = T := by omega
  rw [hTn]
  have hlv6 : hget ((M5 + 1, Blk.cells LV 3) :: (outSB M5 90 3 sl.length (sgs sl) ++ X5)) (M5 + 1) = some (.cells LV 3) := by rw [hget_cons, if_pos rfl]
  have hSX : Sub X5 ((M5 + 1, Blk.cells LV 3) :: (outSB M5 90 3 sl.length (sgs sl) ++ X5)) := Sub.trans (sub_to (namesOk_none hn5 M5 (Nat.le_refl _))) (Sub.cons (namesOk_none hnS _ (Nat.le_refl _)) (Sub.refl _))
  have hn7 : namesOk (M5 + 1 + 1) ((M5 + 1, Blk.cells LV 3) :: (outSB M5 90 3 sl.length (sgs sl) ++ X5)) = true := namesOk_put (Nat.lt_succ_self _) hn6
  have hp7 : plainH ((M5 + 1, Blk.cells LV 3) :: (outSB M5 90 3 sl.length (sgs sl) ++ X5)) = true := by simp [plainH, hpS]
  obtain ⟨X6, hX6⟩ : ∃ X6, (M5 + 1, Blk.cells LV 3) :: (outSB M5 90 3 sl.length (sgs sl) ++ X5) = X6 := ⟨_, rfl⟩
  rw [hX6] at hlv6 hSX hn7 hp7
  obtain ⟨M6, hM6⟩ : ∃ M6, M5 + 1 + 1 = M6 := ⟨_, rfl⟩
  rw [hM6] at hn7
  obtain ⟨kl, hkl⟩ : ∃ kl, M5 + 1 = kl := ⟨_, rfl⟩
  rw [hkl] at hlv6
  refine E.lead { fr := [(2, .pointer (some ⟨n, 0, none⟩)), (3, .pointer (some ⟨n + 1, 0, none⟩)), (5, .slice sa i sc'), (7, iv (volW l)), (9, ow), (13, .slice (some ⟨kl, 0, none⟩) T T), (14, iv 0)], sz := 222, H := X6, n := M6, marks := [], vs := [2, 3, 5, 7, 9, 13, 15, 17, 18, 20, 23, 77, 78, 79, 124, 125, 126, 136, 137, 138, 143, 144, 145, 171, 172, 173] } (.keep hM6.symm rfl rfl (by simp [hkl]) (by rw [← hX6]; exact Sub.refl _)) ?_
  have hS6 : Sub X0 X6 := hS5.trans hSX
  /- the soft start is permitted -/
  have a5 := h16 X6 M6 hS6
  have hS7 : Sub X6 ((M6, Blk.ext (gcs l) 79 7) :: X6) := Sub.cons (namesOk_none hn7 _ (Nat.le_refl _)) (Sub.refl _)
  have hfl : (softL l).flatten.length ≤ 4096 := by rw [softL_flat hpos, nms_len, sorted_len]; omega
  have a6 := g18_at (n := M6 + 1) (own_row (n := M6) (H := X6) hne (by omega)) (listV_mono (decL_mono decS_mono) ((hSY.trans hSX).trans hS7) hown) hfl
  rw [soft_start hE] at a6
  have hn8 : namesOk (M6 + 1) ((M6, Blk.ext (gcs l) 79 7) :: X6) = true := namesOk_put (Nat.lt_succ_self _) (namesOk_mono (by omega) _ hn7)
  have hp8 : plainH ((M6, Blk.ext (gcs l) 79 7) :: X6) = true := by simp [plainH, hp7]
  obtain ⟨X7, hX7⟩ : ∃ X7, (M6, Blk.ext (gcs l) 79 7) :: X6 = X7 := ⟨_, rfl⟩
  rw [hX7] at a5 a6 hS7 hn8 hp8
  have hS7' := hS6.trans hS7
  obtain ⟨q1, q2⟩ := c0 hS6
  obtain ⟨_, _, _, e4, _⟩ := c1 hS7'
  rw [hT] at e4
  refine E.seq ?_
  refine E.seq ?_
  refine E.reg hr (by simp [-cellsA, -cellA, q1, a5, a6, e4, yieldedA]; rfl) ?_ -- region 16
  refine E.cond (t := false) (by simp) (fun h => by cases h) (fun _ => ?_)
  refine E.skip ?_
  refine E.seq ?_
  /- the volumes at the levels -/
  refine E.reg hr (by simp; rfl) ?_ -- region 18
  refine E.seq ?_
  refine E.seq ?_
  refine E.reg hr (by simp; rfl) ?_ -- region 19
  refine E.block ?_ -- 2
  refine E.loop ?_
  obtain ⟨M7, hM7⟩ : ∃ M7, M6 + 1 = M7 := ⟨_, rfl⟩
  rw [hM7] at hn8 ⊢
  have hq7 : ∀ k b, hget X7 k = some b → k < M7 := fun k b h => by
    by_cases hk : k < M7
    · exact hk
    · rw [namesOk_none hn8 k (by omega)] at h; cases h
  have hF0 : FI M7 X7 (fireL l 1) M7 ((M7, .cells [iv 0] 3) :: X7) (M7 + 1) := by
    have h1 : fireL l 1 = [iv 0] := by simp [fireL, fire_zero]
    rw [h1]
    exact ⟨Sub.cons (namesOk_none hn8 _ (Nat.le_refl _)) (Sub.refl _), namesOk_put (Nat.lt_succ_self _) (namesOk_mono (by omega) _ hn8), by simp [plainH, hp8], by rw [hget_cons, if_pos rfl]; rfl, ⟨Nat.le_refl _, Nat.lt_succ_self _⟩, by simp, fun v hv => ⟨0, by simpa using hv⟩⟩
  have hrow7 : ∀ (j : Nat) (hj : j < (softL l).length), ∃ a r, sa = some a ∧ flat a = true ∧ cellA X7 a.block (a.off + j) = some r ∧ Ab.strV X7 r = some (softL l)[j] := fun j hj => by
    obtain ⟨a, r, e1, e2, e3, e4⟩ := hrow3 j hj
    have hs37 : Sub X3 X7 := hS3Y.trans ((hSY.trans hSX).trans hS7)
    exact ⟨a, r, e1, e2, hs37.cell e3, listV_mono decS_mono hs37 e4⟩
  obtain ⟨gad, gcp, hge, hgf, hgcs, _, _⟩ := hG
  injection hge with hga1 _ hga3
  subst hga1 hga3
  have hg7 : cellsA X7 gad.block gad.off (l.length * 7) = some (gcs l) := (hS0.trans hS7').cells hgcs
  refine EL.ind (fun x : Nat × Heap × Nat × Nat => { fr := [(2, .pointer (some ⟨n, 0, none⟩)), (3, .pointer (some ⟨n + 1, 0, none⟩)), (5, .slice sa i sc'), (7, iv (volW l)), (13, .slice (some ⟨kl, 0, none⟩) T T), (15, oI.val x.2.2.2 (x.1 + 1)), (124, .slice sa i sc'), (125, iv i), (126, iv x.1)], sz := 222, H := x.2.1, n := x.2.2.1, marks := [], vs := [2, 3, 5, 7, 9, 13, 15, 17, 18, 20, 23, 77, 78, 79, 124, 125, 126, 136, 137, 138, 143, 144, 145, 171, 172, 173] }) (fun x => i - x.1) (fun x => x.1 ≤ i ∧ FI M7 X7 (fireL l (x.1 + 1)) x.2.2.2 x.2.1 x.2.2.1) (0, (M7, .cells [iv 0] 3) :: X7, M7 + 1, M7) (.keep rfl rfl rfl (by simp; rfl) (Sub.refl _)) ⟨Nat.zero_le _, hF0⟩ (fun _ => rfl) ?_
  rintro ⟨j, Y1, M1, o1⟩ ⟨hji, hF⟩
  dsimp only at hji hF ⊢
  have hw : IntKind.i64.wrap ((j : Int) + 1) = (j : Int) + 1 := W_in (by omega) (by omega)
  have hw0 : IntKind.i64.wrap (j : Int) = (j : Int) := W_in (by omega) (by omega)
  refine E.seq ?_
  refine E.reg hr (by simp; rfl) ?_ -- region 20
  refine E.seq ?_
  by_cases hjK : j < i
  · have hjL : j < (softL l).length := by omega
    obtain ⟨a, r, rfl, hf, hc, hR⟩ := hrow7 j hjL
    have hrln : (softL l)[j].length ≤ l.length + 1 := (softL_row (List.getElem_mem hjL)).2
    have hnx := fire_next hjL
    rw [rowAt_eq hjL] at hnx
    obtain ⟨R, hRe⟩ : ∃ R, (softL l)[j] = R := ⟨_, rfl⟩
    rw [hRe] at hR hrln hnx
    obtain ⟨ra, rc, rfl, _, _, hcr⟩ := strV_form hR
    obtain ⟨os, oc, hval, hofl⟩ := oI.form o1 (j + 1)
    have hfj := hF.at (j := j) (fireL_at (Nat.lt_succ_self j))
    have hfb := fire_bound hE (i := j) (by omega)
    have hsl := seen_len l (i := j) (by omega) hpos
    rw [hval]
    refine E.cond (t := true) (by simp [hjK]) (fun _ => ?_) (fun h => by cases h)
    refine E.skip ?_
    refine E.seq ?_
    refine E.block ?_ -- 3
    refine E.seq ?_
    refine E.reg hr (by simp [-cellA, -flat, hjK, hf, hF.sub.cell hc]; rfl) ?_ -- region 21
    refine E.seq ?_
    refine E.reg hr (by simp [-cellA, -flat, hofl, hw0, hfj]; rfl) ?_ -- region 22
    refine E.seq ?_
    refine E.seq ?_
    refine E.reg hr (by simp; rfl) ?_ -- region 23
    refine E.block ?_ -- 4
    refine E.loop ?_
    refine EL.ind (fun x : Nat × Heap × Nat => { fr := [(2, .pointer (some ⟨n, 0, none⟩)), (3, .pointer (some ⟨n + 1, 0, none⟩)), (5, .slice (some a) i sc'), (7, iv (volW l)), (13, .slice (some ⟨kl, 0, none⟩) T T), (15, .slice (some ⟨o1, 0, os⟩) (j + 1) oc), (18, iv (sumN l (seenN (softL l) j ++ R.take x.1))), (124, .slice (some a) i sc'), (125, iv i), (126, iv j), (136, .slice ra R.length rc), (137, iv R.length), (138, iv x.1)], sz := 222, H := x.2.1, n := x.2.2, marks := [], vs := [2, 3, 5, 7, 9, 13, 15, 17, 18, 20, 23, 77, 78, 79, 124, 125, 126, 136, 137, 138, 143, 144, 145, 171, 172, 173] }) (fun x => R.length - x.1) (fun x => x.1 ≤ R.length ∧ FI M7 X7 (fireL l (j + 1)) o1 x.2.1 x.2.2) (0, Y1, M1) (.keep rfl rfl rfl (by simp [fireV]) (Sub.refl _)) ⟨Nat.zero_le _, hF⟩ (fun _ => rfl) ?_
    clear hF hfj
    rintro ⟨k, Y2, M2⟩ ⟨hkR, hF⟩
    dsimp only at hkR hF ⊢
    have hwk : IntKind.i64.wrap ((k : Int) + 1) = (k : Int) + 1 := W_in (by omega) (by omega)
    refine E.seq ?_
    refine E.reg hr (by simp; rfl) ?_ -- region 24
    refine E.seq ?_
    by_cases hkl2 : k < R.length
    · obtain ⟨ra', rfl, hrf, hrc⟩ := hcr k hkl2
      have hts : R.take (k + 1) = R.take k ++ [R[k]] := List.take_succ_eq_append_getElem hkl2
      obtain ⟨S, hSe⟩ : ∃ S, sumN l (seenN (softL l) j ++ R.take k) = S := ⟨_, rfl⟩
      have hSb := sumN_bound hb (seenN (softL l) j ++ R.take k)
      have hSl : (seenN (softL l) j ++ R.take k).length ≤ 16 := by
        rw [List.length_append, List.length_take]
        omega
      have hsn2 : sumN l (seenN (softL l) j ++ R.take (k + 1)) = S + volN l R[k] := by
        rw [hts, ← List.append_assoc, sumN_snoc, hSe]
      rw [hSe] at hSb ⊢
      obtain ⟨s, hse⟩ : ∃ s, R[k] = s := ⟨_, rfl⟩
      rw [hse] at hrc hsn2
      have hS2' := hS7'.trans hF.sub
      obtain ⟨_, q2⟩ := c0 hS2'
      refine E.cond (t := true) (by simp [hkl2]) (fun _ => ?_) (fun h => by cases h)
      refine E.skip ?_
      refine E.seq ?_
      refine E.block ?_ -- 5
      refine E.seq ?_
      refine E.reg hr (by simp [-cellA, -flat, hkl2, hrf, hF.sub.cell hrc]; rfl) ?_ -- region 25
      refine E.seq ?_
      refine E.reg hr (by simp [-cellA, q2]; rfl) ?_ -- region 26
      refine E.block ?_ -- 6
      refine E.loop ?_
      refine EL.ind (fun x : Nat × Heap × Nat => { fr := [(2, .pointer (some ⟨n, 0, none⟩)), (3, .pointer (some ⟨n + 1, 0, none⟩)), (5, .slice (some a) i sc'), (7, iv (volW l)), (13, .slice (some ⟨kl, 0, none⟩) T T), (15, .slice (some ⟨o1, 0, os⟩) (j + 1) oc), (18, iv (S + pvol l s x.1)), (20, sv s), (124, .slice (some a) i sc'), (125, iv i), (126, iv j), (136, .slice (some ra') R.length rc), (137, iv R.length), (138, iv k), (143, .slice (some gad) l.length gc), (144, iv l.length), (145, iv x.1)], sz := 222, H := x.2.1, n := x.2.2, marks := [], vs := [2, 3, 5, 7, 9, 13, 15, 17, 18, 20, 23, 77, 78, 79, 124, 125, 126, 136, 137, 138, 143, 144, 145, 171, 172, 173] }) (fun x => l.length - x.1) (fun x => x.1 ≤ l.length ∧ FI M7 X7 (fireL l (j + 1)) o1 x.2.1 x.2.2) (0, Y2, M2) (.keep rfl rfl rfl (by simp [pvol]) (Sub.refl _)) ⟨Nat.zero_le _, hF⟩ (fun _ => rfl) ?_
      clear hF hS2' q2
      rintro ⟨m, Y3, M3⟩ ⟨hml, hF⟩
      dsimp only at hml hF ⊢
      have hwm : IntKind.i64.wrap ((m : Int) + 1) = (m : Int) + 1 := W_in (by omega) (by omega)
      refine E.seq ?_
      refine E.reg hr (by simp; rfl) ?_ -- region 27
      refine E.seq ?_
      by_cases hml2 : m < l.length
      · have hc1 := cells_part (sz := 7) (i := m) (hF.sub.cells hg7) hml2
        rw [gcs_atB hml2] at hc1
        have hpv : pvol l s (m + 1) = pvol l s m + if l[m].name = s then l[m].v else 0 := by
          rw [pvol, List.getElem?_eq_getElem hml2]
        have hpb := pvol_bound hb s m
        have hgb := hb l[m] (List.getElem_mem hml2)
        have hF1 := hF.skip hq7 (.cells l[m].cells 75) rfl
        refine E.cond (t := true) (by simp [hml2]) (fun _ => ?_) (fun h => by cases h)
        refine E.skip ?_
        refine E.seq ?_
        refine E.block ?_ -- 7
        refine E.seq ?_
        refine E.reg hr (by simp [-cellsA, -flat, hml2, hgf, hc1]; rfl) ?_ -- region 28
        refine E.seq ?_
        refine E.reg hr (by simp; rfl) ?_ -- region 29
        by_cases hnm : l[m].name = s
        · have hws : IntKind.i64.wrap (S + pvol l s m + l[m].v) = S + pvol l s m + l[m].v := W_in (by omega) (by omega)
          rw [if_pos hnm] at hpv
          refine E.cond (t := true) (by simp [hnm]) (fun _ => ?_) (fun h => by cases h)
          refine E.reg hr (by simp [hws]; rfl) ?_ -- region 30
          refine E.reg hr (by simp [hwm]; rfl) ?_ -- region 31
          exact ⟨(m + 1, _, M3 + 1), .keep rfl rfl rfl (by simp [hpv, Int.add_assoc]) (Sub.refl _), ⟨hml2, hF1⟩, by dsimp only; omega⟩
        · rw [if_neg hnm, Int.add_zero] at hpv
          refine E.cond (t := false) (by simp [hnm]) (fun h => by cases h) (fun _ => ?_)
          refine E.skip ?_
          refine E.reg hr (by simp [hwm]; rfl) ?_ -- region 31
          exact ⟨(m + 1, _, M3 + 1), .keep rfl rfl rfl (by simp [hpv]) (Sub.refl _), ⟨hml2, hF1⟩, by dsimp only; omega⟩
      · refine E.cond (t := false) (by simp [hml2]) (fun h => by cases h) (fun _ => ?_)
        refine E.exit ?_ -- 6
        obtain rfl : m = l.length := by omega
        rw [pvol_all hd, ← hsn2]
        refine E.reg hr (by simp [hwk]; rfl) ?_ -- region 32
        exact ⟨(k + 1, Y3, M3), .keep rfl rfl rfl (by simp) (Sub.refl _), ⟨hkl2, hF⟩, by dsimp only; omega⟩
    · refine E.cond (t := false) (by simp [hkl2]) (fun h => by cases h) (fun _ => ?_)
      refine E.exit ?_ -- 4
      rw [List.take_of_length_le (by omega), ← hnx]
      obtain ⟨Z, hap, hFZ⟩ := hF.more hq7 (fireV l (j + 1)) (by rw [fireL_len]; omega)
      rw [← fireL_succ] at hFZ
      rw [fireL_len, hval] at hap
      refine E.reg hr (by simp [-builtinA, hap]; rfl) ?_ -- region 33
      refine E.reg hr (by simp [hw]; rfl) ?_ -- region 34
      exact ⟨(j + 1, Z, M2 + 1 + 1, M2 + 1), .keep rfl rfl rfl (by simp) (Sub.refl _), ⟨hjK, hFZ⟩, by dsimp only; omega⟩
  refine E.cond (t := false) (by simp [hjK]) (fun h => by cases h) (fun _ => ?_)
  refine E.exit ?_ -- 2
  obtain rfl : j = i := by omega
  /- at the full level all guns fire -/
  obtain ⟨os, oc, hval, hofl⟩ := oI.form o1 (j + 1)
  have hfa : ∀ i, i ≤ j → cellA Y1 o1 i = some (iv (fireV l i)) := fun i hi => hF.at (fireL_at (by omega))
  have hfJ : fireV l j = volW l := by rw [← hK]; exact fire_all hE
  have hfj := hfa j (Nat.le_refl _)
  rw [hfJ] at hfj
  rw [hval]
  refine E.seq ?_
  refine E.seq ?_
  refine E.reg hr (by simp [-cellA, -flat, hofl, hfj]; rfl) ?_ -- region 35
  refine E.cond (t := false) (by simp) (fun h => by cases h) (fun _ => ?_)
  refine E.skip ?_
  refine E.seq ?_
  refine E.reg hr (by simp; rfl) ?_ -- region 37
  refine E.seq ?_
  refine E.seq ?_
  refine E.reg hr (by simp; rfl) ?_ -- region 38
  refine E.block ?_ -- 8
  refine E.loop ?_
  have hnm1 := hF.nm
  have hlvY : hget Y1 kl = some (.cells LV 3) := hF.sub _ _ (hS7 _ _ hlv6)
  have hrowY : ∀ (i : Nat) (hi : i < (softL l).length), ∃ a r, sa = some a ∧ flat a = true ∧ cellA Y1 a.block (a.off + i) = some r ∧ Ab.strV Y1 r = some (softL l)[i] := fun i hi => by
    obtain ⟨a, r, e1, e2, e3, e4⟩ := hrow7 i hi
    exact ⟨a, r, e1, e2, hF.sub.cell e3, listV_mono decS_mono hF.sub e4⟩
  obtain ⟨lv, hlv⟩ : ∃ lv : Nat → Int, levV { b with f := (j : Int) - 1 } sl = lv := ⟨_, rfl⟩
  rw [hlv] at hLVat
  have hl0 : lv 0 ≤ 1 := by rw [← hlv]; exact lev_first hE5
  have hl1 : ∀ τ, τ + 1 < T → lv (τ + 1) ≤ lv τ + 1 := fun τ hτ => by rw [← hlv]; exact lev_next hE5 (by omega)
  have hl2 : ∀ τ, 0 ≤ lv τ ∧ lv τ ≤ j := fun τ => by
    have := lev_top hE5 τ
    rw [hlv] at this
    dsimp only at this
    omega
  obtain ⟨pv, hpv0, hpvs⟩ : ∃ pv : Nat → Int, pv 0 = 0 ∧ ∀ τ, pv (τ + 1) = lv τ := ⟨fun | 0 => 0 | τ + 1 => lv τ, rfl, fun _ => rfl⟩
  have hpvb : ∀ τ, 0 ≤ pv τ ∧ pv τ ≤ j := fun τ => by
    cases τ with
    | zero => rw [hpv0]; omega
    | succ τ => rw [hpvs]; exact hl2 τ
  have hstep : ∀ τ, τ < T → lv τ ≤ pv τ + 1 := fun τ hτ => by
    cases τ with
    | zero => rw [hpv0]; omega
    | succ τ => rw [hpvs]; exact hl1 τ hτ
  refine EL.ind (fun τ : Nat => { fr := [(5, .slice sa j sc'), (13, .slice (some ⟨kl, 0, none⟩) T T), (15, .slice (some ⟨o1, 0, os⟩) (j + 1) oc), (23, iv (pv τ)), (171, .slice (some ⟨kl, 0, none⟩) T T), (172, iv T), (173, iv τ)], sz := 222, H := Y1, n := M1, marks := [], vs := [2, 3, 5, 7, 9, 13, 15, 17, 18, 20, 23, 77, 78, 79, 124, 125, 126, 136, 137, 138, 143, 144, 145, 171, 172, 173] }) (fun τ => T - τ) (fun τ => τ ≤ T) 0 (.keep rfl rfl rfl (by simp [hpv0]) (Sub.refl _)) (Nat.zero_le _) (fun _ => rfl) ?_
  intro τ hτ
  have hw2 : IntKind.i64.wrap ((τ : Int) + 1) = (τ : Int) + 1 := W_in (by omega) (by omega)
  refine E.seq ?_
  refine E.reg hr (by simp; rfl) ?_ -- region 39
  refine E.seq ?_
  by_cases hτT : τ < T
  · have hcv : cellA Y1 kl τ = some (iv (lv τ)) := by rw [cellA_eq, hlvY]; exact hLVat τ hτT
    obtain ⟨B, hB⟩ : ∃ B : Nat, pv τ = B := ⟨(pv τ).toNat, by have := (hpvb τ).1; omega⟩
    obtain ⟨V, hVn⟩ : ∃ V : Nat, lv τ = V := ⟨(lv τ).toNat, by have := (hl2 τ).1; omega⟩
    have hB1 : B ≤ j := by have := (hpvb τ).2; omega
    have hV1 : V ≤ j := by have := (hl2 τ).2; omega
    have hVB : V ≤ B + 1 := by have := hstep τ hτT; omega
    have hps := hpvs τ
    rw [hVn] at hcv hps
    rw [hB]
    have hwB : IntKind.i64.wrap ((B : Int) + 1) = (B : Int) + 1 := W_in (by omega) (by omega)
    have g1 : ¬ (V : Int) < 0 := by omega
    have g2 : ¬ (j : Int) < V := by omega
    have g3 : ¬ (B : Int) + 1 < V := by omega
    refine E.cond (t := true) (by simp [hτT]) (fun _ => ?_) (fun h => by cases h)
    refine E.skip ?_
    refine E.seq ?_
    refine E.block ?_ -- 9
    refine E.seq ?_
    refine E.reg hr (by simp [-cellA, hτT, hcv]; rfl) ?_ -- region 40
    refine E.seq ?_
    refine E.seq ?_
    refine E.reg hr (by simp [g1, g2, g3, hwB, yieldedA]; rfl) ?_ -- region 41
    refine E.cond (t := false) (by simp) (fun h => by cases h) (fun _ => ?_)
    refine E.skip ?_
    refine E.seq ?_
    refine E.seq ?_
    by_cases c1' : 1 < V
    case neg =>
      have c1'' : ¬ (1 : Int) < V := by omega
      refine E.drawU mixed hr [] [] [11, 15, 24] (by kernel_rfl) (by simp [-cellA, -flat, -readA, hnm1, c1'', yieldedA, undefV]; rfl) ?_ -- region 43
      refine E.cond (t := false) (by simp) (fun h => by cases h) (fun _ => ?_)
      refine E.skip ?_
      refine E.reg hr (by simp; rfl) ?_ -- region 45
      refine E.reg hr (by simp [hw2]; rfl) ?_ -- region 46
      exact ⟨τ + 1, .keep rfl rfl rfl (by simp [hps]) (Sub.refl _), hτT, by dsimp only; omega⟩
    have c1'' : (1 : Int) < V := by omega
    by_cases c2' : B < V
    case neg =>
      have c2'' : ¬ (B : Int) < V := by omega
      refine E.drawU mixed hr [] [] [11, 15, 24] (by kernel_rfl) (by simp [-cellA, -flat, -readA, hnm1, c1'', c2'', yieldedA, undefV]; rfl) ?_ -- region 43
      refine E.cond (t := false) (by simp) (fun h => by cases h) (fun _ => ?_)
      refine E.skip ?_
      refine E.reg hr (by simp; rfl) ?_ -- region 45
      refine E.reg hr (by simp [hw2]; rfl) ?_ -- region 46
      exact ⟨τ + 1, .keep rfl rfl rfl (by simp [hps]) (Sub.refl _), hτT, by dsimp only; omega⟩
    have c2'' : (B : Int) < V := by omega
    obtain rfl : V = B + 1 := by omega
    have c5 : (1 : Int) < (B : Int) + 1 := by omega
    have c6 : (B : Int) < (B : Int) + 1 := by omega
    have c7 : (B : Int) < (j : Int) + 1 := by omega
    have c8 : (B : Int) < (j : Int) := by omega
    have c9 : (B : Int) + 1 < (j : Int) + 1 := by omega
    have hfB := hfa B (by omega)
    have hfB1 := hfa (B + 1) hV1
    have hbB := fire_bound hE (i := B) (by omega)
    have hbB1 := fire_bound hE (i := B + 1) (by omega)
    have hBL : B < (softL l).length := by omega
    have hrule := fire_rule hE (i := B) (by omega) hBL
    rw [rowAt_eq hBL] at hrule
    obtain ⟨a, r, rfl, hf, hc, hR⟩ := hrowY B hBL
    obtain ⟨R, hRe⟩ : ∃ R, (softL l)[B] = R := ⟨_, rfl⟩
    rw [hRe] at hrule hR
    obtain ⟨ra, rc, rfl, _, _, _⟩ := strV_form hR
    have hw3 : IntKind.i64.wrap (2 * fireV l B) = 2 * fireV l B := W_in (by omega) (by omega)
    have hw4 : IntKind.i64.wrap (B : Int) = (B : Int) := W_in (by omega) (by omega)
    have hon : o1 < M1 := hF.ho.2
    have han : a.block < M1 := cellA_lt (fun k b h => by
      by_cases hk : k < M1
      · exact hk
      · rw [namesOk_none hnm1 k (by omega)] at h; cases h) hc
    have hBj : B < j + 1 := by omega
    have hBj1 : B < j := by omega
    by_cases c3' : 2 * fireV l B < fireV l (B + 1)
    case neg =>
      refine E.drawU mixed hr [] [] [11, 15, 24] (by kernel_rfl) (by simp [-cellA, -flat, -readA, cellA_read, hnm1, c5, c6, c7, c9, hofl, hfB, hfB1, hon, hw3, c3', yieldedA, undefV]; rfl) ?_ -- region 43
      refine E.cond (t := false) (by simp) (fun h => by cases h) (fun _ => ?_)
      refine E.skip ?_
      refine E.reg hr (by simp; rfl) ?_ -- region 45
      refine E.reg hr (by simp [hw2]; rfl) ?_ -- region 46
      exact ⟨τ + 1, .keep rfl rfl rfl (by simp [hps]) (Sub.refl _), hτT, by dsimp only; omega⟩
    have hR1 : R.length = 1 := by
      rcases hrule with h | h
      · omega
      · exact h
    rw [hR1] at hc
    refine E.drawU mixed hr [] [] [11, 15, 24] (by kernel_rfl) (by simp [-cellA, -flat, -readA, cellA_read, hnm1, c5, c6, c7, c8, c9, hofl, hfB, hfB1, hon, han, hw3, hw4, c3', hf, hc, yieldedA]; rfl) ?_ -- region 43
    refine E.cond (t := false) (by simp) (fun h => by cases h) (fun _ => ?_)
    refine E.skip ?_
    refine E.reg hr (by simp; rfl) ?_ -- region 45
    refine E.reg hr (by simp [hw2]; rfl) ?_ -- region 46
    exact ⟨τ + 1, .keep rfl rfl rfl (by simp [hps]) (Sub.refl _), hτT, by dsimp only; omega⟩
  refine E.cond (t := false) (by simp [hτT]) (fun h => by cases h) (fun _ => ?_)
  refine E.exit ?_ -- 8
  refine E.seq ?_
  refine E.reg hr (by simp [h6]; rfl) ?_ -- region 47
  refine E.ret ?_
  exact pureK.ret rfl rfl (by simp) ((hS0.trans hS7').trans hF.sub)
end Go.Proofs.Ytljglocehbccnaa.Gn

namespace Go.Proofs.Ytljglocehbccnaa.Gn
open Go Go.Ab Go.Proofs Go.ChangeShapes Go.WideShapes Go.ChangeAt Go.RowKit
/-! ### handed strings of guns -/
theorem leafs75 : leafs Try.prog 6 75 = some [.str, .int .i64, .int .i64, .int .i64, .int .i64, .int .i64, .int .i64] := by kernel_rfl
theorem fits_gun {r : List Value} (h : fitsL [.str, .int .i64, .int .i64, .int .i64, .int .i64, .int .i64, .int .i64] r) : ∃ g : Gun, r = g.cells := by
  obtain ⟨_, _, rfl, ⟨s, rfl, _⟩, h1⟩ := fits_cons h
  obtain ⟨_, _, rfl, ⟨v, rfl, _⟩, h2⟩ := fits_cons h1
  obtain ⟨_, _, rfl, ⟨x, rfl, _⟩, h3⟩ := fits_cons h2
  obtain ⟨_, _, rfl, ⟨y, rfl, _⟩, h4⟩ := fits_cons h3
  obtain ⟨_, _, rfl, ⟨t, rfl, _⟩, h5⟩ := fits_cons h4
  obtain ⟨_, _, rfl, ⟨lo, rfl, _⟩, h6⟩ := fits_cons h5
  obtain ⟨_, _, rfl, ⟨hi, rfl, _⟩, h7⟩ := fits_cons h6
  obtain rfl := fits_nil h7
  exact ⟨⟨s, v, x, y, t, lo, hi⟩, rfl⟩
theorem fits_guns : ∀ rows : List (List Value), (∀ r ∈ rows, fitsL [.str, .int .i64, .int .i64, .int .i64, .int .i64, .int .i64, .int .i64] r) → ∃ l : List Gun, rows.flatten = gcs l ∧ l.length = rows.length
  | [], _ => ⟨[], rfl, rfl⟩
  | r :: rows, h => by
    obtain ⟨g, rfl⟩ := fits_gun (h r (List.mem_cons_self ..))
    obtain ⟨l, h1, h2⟩ := fits_guns rows fun r hr => h r (List.mem_cons_of_mem _ hr)
    exact ⟨g :: l, by rw [List.flatten_cons, h1]; rfl, by simp [h2]⟩
set_option maxRecDepth 100000 in
theorem open_str {H : Type} {enc : TypeId × Value → H} {W : World} {base : Nat} {v : Value} {d : DataW H} {p : List MemPlace} (hv : Value.okWide Try.prog W .any base 58 v) (h : DataW.Trod enc Try.prog W 0 (fun _ => true) true 58 v d p) :
    v = nilV ∨ ∃ (b o c : Nat) (l : List Gun), v = .agg ⟨[.slice (some ⟨b, o, none⟩) l.length c]⟩ ∧ l.length < 2 ^ 63 ∧ ∃ cs t fz, W.heap[b]? = some (.cells cs t fz) ∧ ∀ i, i < (gcs l).length → cs[o + i]? = (gcs l)[i]? := by
  rcases handed_str (d := 6) Try.underlying58 (f := ⟨"Guns", 56, 0, false, "", "", 0⟩) rfl rfl rfl (by kernel_rfl) (by kernel_rfl) (by kernel_rfl) Try.underlying56 leafs75 (by kernel_rfl) (by simp) hv h with rfl | ⟨b, o, len, cap, rows, rfl, h1, h2, h3, h4, cs, t, fz, hw, hc⟩
  · exact .inl rfl
  · obtain ⟨l, e1, e2⟩ := fits_guns rows h4
    have : len = l.length := by omega
    subst this
    rw [e1] at hc
    refine .inr ⟨b, o, cap, l, rfl, ?_, cs, t, fz, hw, hc⟩
    have : maxLen < 2 ^ 63 := by decide
    omega
theorem strAt_of {H : Heap} {b o c : Nat} {l : List Gun} (h : cellsA H b o (l.length * 7) = some (gcs l)) (hl : l.length < 2 ^ 63) : strAt H (.agg ⟨[.slice (some ⟨b, o, none⟩) l.length c]⟩) = some l := by
  show gunsAt H ⟨b, o, none⟩ l.length = some l
  unfold gunsAt
  rw [if_pos (by rw [Bool.and_eq_true]; exact ⟨rfl, (blt_iff _ _).2 (by omega)⟩)]
  show (cellsA H b o (l.length * 7)).bind gunsOf = some l
  rw [h]
  exact gunsOf_gcs l
/-- two lists handed: of guns, of sightings -/
theorem views {W : World} {v0 : Value} {b : Brg} {s : Value} {u1 u2 u3 : Int} (h0 : v0 = nilV ∨ ∃ (k o c : Nat) (l : List Gun), v0 = .agg ⟨[.slice (some ⟨k, o, none⟩) l.length c]⟩ ∧ l.length < 2 ^ 63 ∧ ∃ cs t fz, W.heap[k]? = some (.cells cs t fz) ∧ ∀ i, i < (gcs l).length → cs[o + i]? = (gcs l)[i]?)
    (h1 : s = .slice none 0 0 ∨ ∃ (k o c : Nat) (l : List Sg), s = .slice (some ⟨k, o, none⟩) l.length c ∧ ∃ cs t fz, W.heap[k]? = some (.cells cs t fz) ∧ ∀ i, i < (sgs l).length → cs[o + i]? = (sgs l)[i]?) :
    Calls Try.prog 4 #[v0, b.run s u1 u2 u3] W fun e W' => e = .returned (.bool true) ∧ Below W.heap.size W W' := by
  have hg : ∀ (l : List Gun) (k o : Nat) (cs : Array Value) (t : TypeId) (fz : Nat × Nat) (N : Nat) (φ : Vl), W.heap[k]? = some (.cells cs t fz) → (∀ i, i < (gcs l).length → cs[o + i]? = (gcs l)[i]?) → scL (· < N) (gcs l) ∧ ∃ c t fz, W.heap[k]? = some (.cells c t fz) ∧ ∀ i, i < (gcs l).length → c[o + i]? = (denL φ (gcs l))[i]? := fun l k o cs t fz N φ hw hc =>
    ⟨scL_af _ _ (gcs_afB l), cs, t, fz, hw, fun i hi => by rw [denL_af _ _ (gcs_afB l)]; exact hc i hi⟩
  have hsg : ∀ (l : List Sg) (k o : Nat) (cs : Array Value) (t : TypeId) (fz : Nat × Nat) (N : Nat) (φ : Vl), W.heap[k]? = some (.cells cs t fz) → (∀ i, i < (sgs l).length → cs[o + i]? = (sgs l)[i]?) → scL (· < N) (sgs l) ∧ ∃ c t fz, W.heap[k]? = some (.cells c t fz) ∧ ∀ i, i < (sgs l).length → c[o + i]? = (denL φ (sgs l))[i]? := fun l k o cs t fz N φ hw hc =>
    ⟨scL_af _ _ (sgs_af l), cs, t, fz, hw, fun i hi => by rw [denL_af _ _ (sgs_af l)]; exact hc i hi⟩
  have hgc : ∀ {H : Heap} {m o : Nat} (l : List Gun), hget H m = some (.inp o (gcs l)) → cellsA H m o (l.length * 7) = some (gcs l) := fun l h => by
    rw [cellsA_eq, h]
    simp only [Option.bind_some, cellsB]
    rw [if_pos ⟨Nat.le_refl _, by rw [gcs_lenB]; omega⟩, Nat.sub_self, List.drop_zero, List.take_of_length_le (by rw [gcs_lenB]; exact Nat.le_refl _)]
  have hsv : ∀ {H : Heap} {m o c : Nat} (l : List Sg), shortV b.t l.length = true → hget H m = some (.inp o (sgs l)) → sigV H (.slice (some ⟨m, o, none⟩) l.length c) = some l := fun l hsh h => by
    have hl : l.length ≤ 65 := by
      unfold shortV at hsh
      simp at hsh
      omega
    refine listV_flat sg_len (sg_dec _) rfl ?_ (by omega)
    show cellsA _ _ _ (l.length * 3) = some (sgs l)
    rw [cellsA_eq, h]
    simp only [Option.bind_some, cellsB]
    rw [if_pos ⟨Nat.le_refl _, by rw [sgs_len]; omega⟩, Nat.sub_self, List.drop_zero, List.take_of_length_le (by rw [sgs_len]; omega)]
  rcases h0 with rfl | ⟨k, o, c, l, rfl, hl, cs, t, fz, hw, hc⟩
  · rcases h1 with rfl | ⟨k', o', c', l', rfl, cs', t', fz', hw', hc'⟩
    · refine lawCalls (f := 4) (by kernel_rfl) [] (by simp) (args0 := [nilV, b.run (.slice none 0 0) u1 u2 u3]) (by simp [Brg.run]) ?_ (w4 (l := []) (sl := []) b rfl (fun _ => rfl) u1 u2 u3)
      simp [Brg.run, denL, den]
    · refine lawCalls (f := 4) (by kernel_rfl) [⟨k', o', sgs l'⟩] ?_ (args0 := [nilV, b.run (.slice (some ⟨0, o', none⟩) l'.length c') u1 u2 u3]) (by simp [Brg.run]) ?_ (w4 (l := []) (sl := l') b rfl (fun hsh => hsv l' hsh rfl) u1 u2 u3)
      · intro u hu
        rw [List.mem_singleton] at hu
        subst hu
        exact hsg l' k' o' cs' t' fz' _ _ hw' hc'
      · simp [Brg.run, denL, den, wloc]
  · rcases h1 with rfl | ⟨k', o', c', l', rfl, cs', t', fz', hw', hc'⟩
    · refine lawCalls (f := 4) (by kernel_rfl) [⟨k, o, gcs l⟩] ?_ (args0 := [.agg ⟨[.slice (some ⟨0, o, none⟩) l.length c]⟩, b.run (.slice none 0 0) u1 u2 u3]) (by simp [Brg.run]) ?_ (w4 (l := l) (sl := []) b (strAt_of (hgc l rfl) hl) (fun _ => rfl) u1 u2 u3)
      · intro u hu
        rw [List.mem_singleton] at hu
        subst hu
        exact hg l k o cs t fz _ _ hw hc
      · simp [Brg.run, denL, den, wloc]
    · refine lawCalls (f := 4) (by kernel_rfl) [⟨k, o, gcs l⟩, ⟨k', o', sgs l'⟩] ?_ (args0 := [.agg ⟨[.slice (some ⟨0, o, none⟩) l.length c]⟩, b.run (.slice (some ⟨1, o', none⟩) l'.length c') u1 u2 u3]) (by simp [Brg.run]) ?_ (w4 (l := l) (sl := l') b (strAt_of (hgc l rfl) hl) (fun hsh => hsv l' hsh rfl) u1 u2 u3)
      · intro u hu
        rcases List.mem_cons.1 hu with rfl | hu
        · exact hg l k o cs t fz _ _ hw hc
        · rw [List.mem_singleton] at hu
          subst hu
          exact hsg l' k' o' cs' t' fz' _ _ hw' hc'
      · simp [Brg.run, denL, den, wloc]
end Go.Proofs.Ytljglocehbccnaa.Gn

/-
The closed facts of the seat, those of the program alone.
-/
namespace Go.Proofs.Ytljglocehbccnaa
open Go
theorem jfp1 : laidOutB Try.prog = true := by kernel_rfl
theorem jfp2 : mapsRowed Try.prog = true := by kernel_rfl
theorem jfp6 : (Try.prog.stops == []) = true := by kernel_rfl
theorem jfp8 : (Try.prog.stopKnobs == []) = true := by kernel_rfl
theorem jfp22 : (Rows.topSpraySilentRow.plainKeys == Try.prog.plainKeys) = true := by kernel_rfl
theorem jfp24 : Try.prog.stopsHeard = true := by kernel_rfl
theorem jfp25 : Try.prog.mayEnter = true := by kernel_rfl
theorem jfp26 : (Rows.topSpraySilentRow.lifted == Try.prog.liftsFinal) = true := by kernel_rfl
theorem jfp27 : (Try.prog.make == some Rows.topSpraySilentRow.make) = true := by kernel_rfl
theorem and2 {a b : Bool} (ha : a = true) (hb : b = true) : (a && b) = true := by rw [ha, hb]; rfl
end Go.Proofs.Ytljglocehbccnaa

/-
The closed facts of the row of topSpraySoft, one by one.
-/
namespace Go.Proofs.Ytljglocehbccnaa
open Go
namespace topSpraySoft
theorem jf0 : OpenClaim.wf (OpenSpec.ofChange Rows.topSpraySoftSpec) Rows.topSpraySoftRow = true := by kernel_rfl
theorem jf1 : laidOutB Try.prog = true := jfp1
theorem jf2 : mapsRowed Try.prog = true := jfp2
theorem jf3 : Try.f4.params.all (Try.prog.readableRec ·) = true := by kernel_rfl
theorem jf4 : namedTie Try.prog Rows.topSpraySoftRow.named Rows.topSpraySoftSpec.vars = true := by kernel_rfl
theorem jf5 : (Rows.topSpraySoftRow.stops == []) = true := by kernel_rfl
theorem jf6 : (Try.prog.stops == []) = true := jfp6
theorem jf7 : (Rows.topSpraySoftRow.knobs == []) = true := by kernel_rfl
theorem jf8 : (Try.prog.stopKnobs == []) = true := jfp8
theorem jf9 : (Rows.topSpraySoftRow.inPlace == Try.prog.inPlace 4) = true := by kernel_rfl
theorem jf10 : (Rows.topSpraySoftRow.unfollowed == Try.prog.unfollowed 4) = true := by kernel_rfl
theorem jf11 : (Rows.topSpraySoftRow.recurses == Try.prog.recurses 4) = true := by kernel_rfl
theorem jf12 : (Rows.topSpraySoftRow.named == Try.prog.varsNamed 4) = true := by kernel_rfl
theorem jf13 : (Rows.topSpraySoftRow.maps == (Try.f4.params.toList ++ Rows.topSpraySoftSpec.plain.varTypes Try.prog).any (Try.prog.mapsRec ·)) = true := by kernel_rfl
theorem jf14 : (Rows.topSpraySoftRow.ifaces == (Try.f4.params.toList ++ Rows.topSpraySoftSpec.plain.varTypes Try.prog).any (Try.prog.ifacesRec ·)) = true := by kernel_rfl
theorem jf15 : (Rows.topSpraySoftRow.mapsOut == Try.prog.mapsAmong Try.f4.resultTypes.toList) = true := by kernel_rfl
theorem jf16 : (Rows.topSpraySoftRow.loops == (Try.f4.params.toList ++ Rows.topSpraySoftSpec.plain.varTypes Try.prog).any (Try.prog.loopsFrom ·)) = true := by kernel_rfl
theorem jf17 : (Rows.topSpraySoftRow.wideKeys == (Try.f4.params.toList ++ Rows.topSpraySoftSpec.plain.varTypes Try.prog ++ Try.f4.resultTypes.toList).any (Try.prog.wideKeysFrom ·)) = true := by kernel_rfl
theorem jf18 : Rows.topSpraySoftSpec.vars.all (Try.prog.varReadable ·) = true := by kernel_rfl
theorem jf19 : Try.f4.resultTypes.all (fun t => Try.prog.readableRec t && decide (t < Try.prog.types.size)) = true := by kernel_rfl
theorem jf20 : (Rows.topSpraySoftRow.ifacesOut == Try.f4.resultTypes.toList.any (Try.prog.ifacesRec ·)) = true := by kernel_rfl
theorem jf21 : (Rows.topSpraySoftRow.loopsOut == Try.f4.resultTypes.toList.any (Try.prog.loopsFrom ·)) = true := by kernel_rfl
theorem jf22 : (Rows.topSpraySoftRow.plainKeys == Try.prog.plainKeys) = true := jfp22
theorem jf23 : Rows.topSpraySoftRow.shortTexts.isNone = true := by kernel_rfl
theorem jf24 : Try.prog.stopsHeard = true := jfp24
theorem jf25 : Try.prog.mayEnter = true := jfp25
theorem jf26 : (Rows.topSpraySoftRow.lifted == Try.prog.liftsFinal) = true := jfp26
theorem jf27 : (Try.prog.make == some Rows.topSpraySoftRow.make) = true := jfp27
theorem jf28 : (Rows.topSpraySoftRow.kinds == (if Rows.topSpraySoftRow.domain.isEmpty then [] else Try.f4.params.toList.map fun t => match Try.prog.underlying t with | some (.int k) => some k | _ => none)) = true := by kernel_rfl
theorem jf29 : (Rows.topSpraySoftRow.pinned == Rows.topSpraySoftRow.pinnedBy) = true := by kernel_rfl
theorem jf30 : (Rows.topSpraySoftRow.veiled == (Try.f4.params.toList ++ Rows.topSpraySoftSpec.plain.varTypes Try.prog ++ Try.f4.resultTypes.toList).any (Try.prog.veiledRec ·)) = true := by kernel_rfl
theorem jf31 : OpenClaim.veiledFits Rows.topSpraySoftRow Try.prog Try.f4.params.toList (Try.f4.params.toList ++ Rows.topSpraySoftSpec.plain.varTypes Try.prog ++ Try.f4.resultTypes.toList) = true := by kernel_rfl
set_option maxRecDepth 100000 in
theorem facts : joinedFacts Try.prog 4 Try.f4 Rows.topSpraySoftSpec Rows.topSpraySoftRow = true := by
  unfold joinedFacts
  exact (and2 (and2 (and2 (and2 (and2 (and2 (and2 (and2 (and2 (and2 (and2 (and2 (and2 (and2 (and2 (and2 (and2 (and2 (and2 (and2 (and2 (and2 (and2 (and2 (and2 (and2 (and2 (and2 (and2 (and2 (and2 jf0 jf1) jf2) jf3) jf4) jf5) jf6) jf7) jf8) jf9) jf10) jf11) jf12) jf13) jf14) jf15) jf16) jf17) jf18) jf19) jf20) jf21) jf22) jf23) jf24) jf25) jf26) jf27) jf28) jf29) jf30) jf31)
end topSpraySoft
end Go.Proofs.Ytljglocehbccnaa

namespace Go.Proofs.Ytljglocehbccnaa
open Go Go.Ab Go.Proofs Go.ChangeShapes Go.WideShapes Go.ChangeAt Go.RowKit
theorem params4 : Try.f4.params = #[58, 30] := by kernel_rfl
namespace topSpraySoft
set_option maxRecDepth 100000 in
theorem contract (H : Type) (enc : TypeId × Value → H) (W : World) (base : Nat) (args : Array Value) (ds gs : List (DataW H)) (before : List MemPlace)
    (hval : ∀ (j : Nat) t v, Try.f4.params[j]? = some t → args[j]? = some v → Value.okWide Try.prog W .any base t v)
    (hW : DataW.Whole enc Try.prog Try.f4.params.toList Rows.topSpraySoftSpec.vars false W args.toList ds gs before) :
    Calls Try.prog 4 args W fun e W' => ∃ v, e = .returned v ∧ Rows.topSpraySoftSpec.post enc Try.prog Try.f4 false true false false W args v W' := by
  have hW' := hW
  obtain ⟨p, q, hA0, hV, rfl, hfz, hnd⟩ := hW
  have hA : DataW.TrodAll enc Try.prog W 0 (fun _ => true) true Try.f4.params.toList args.toList ds p := hA0
  rw [params4] at hA hval
  obtain ⟨v0, vs0, d0, ds0, p0, q0, hargs, rfl, rfl, h0, r0⟩ := trodAll_cons hA
  obtain ⟨v1, vs1, d1, ds1, p1, q1, rfl, rfl, rfl, h1, r1⟩ := trodAll_cons r0
  obtain ⟨rfl, rfl, rfl⟩ := trodAll_nil r1
  obtain rfl : args = #[v0, v1] := by cases args; simp_all
  obtain ⟨b, s, u1, u2, u3, rfl, _, _, _, hs⟩ := open_run (hval 1 30 v1 rfl rfl) h1
  have hc := Gn.views (u1 := u1) (u2 := u2) (u3 := u3) (b := b) (Gn.open_str (hval 0 58 v0 rfl rfl) h0) hs
  refine hc.mono fun e W' ⟨he, hb⟩ => ⟨_, he, ?_⟩
  refine lawPost ?_ rfl rfl rfl hW' hb
  intro t ht
  rw [params4] at ht
  simp at ht
  rcases ht with rfl | rfl
  · exact ⟨by kernel_rfl, by rw [show Try.prog.types.size = 164 by kernel_rfl]; decide⟩
  · exact ⟨by kernel_rfl, by rw [show Try.prog.types.size = 164 by kernel_rfl]; decide⟩
end topSpraySoft
end Go.Proofs.Ytljglocehbccnaa

namespace Go.Proofs.Ytljglocehbccnaa
open Go Go.Ab Go.Proofs Go.ChangeShapes Go.WideShapes Go.ChangeAt Go.RowKit
noncomputable def bareWorld (os : Os) : World := World.holding Try.prog os ⟨#[], #[], []⟩
abbrev witS : Value := .agg #[.slice none 0 0]
abbrev witR : Value := .agg #[.int .i64 0, .int .i64 0, .int .i64 0, .int .i64 0, .int .i64 0, .int .i64 0, .int .i64 0, .int .i64 0, .int .i64 0, .int .i64 0, .slice none 0 0, .int .u8 0, .int .u8 0, .int .u8 0]
namespace topSpraySoft
theorem met (W : World) : laidMet Try.prog [] W := ⟨[], rfl, List.nodup_nil, fun _ _ h => by cases h⟩
theorem reads (os : Os) {H : Type} (enc : TypeId × Value → H) : ∃ d places, DataW.whole enc Try.prog ((bareWorld os).forCall (fun _ _ => 0) ⟨#[], #[witS, witR], []⟩).memory Try.f4.params.toList Rows.topSpraySoftSpec.vars false #[witS, witR].toList 8 = some (d, [], places) :=
  ⟨[.agg [.nil], .agg [.agg [.agg [.lit (.int .i64 0), .lit (.int .i64 0)], .agg [.lit (.int .i64 0), .lit (.int .i64 0)], .lit (.int .i64 0)], .agg [.lit (.int .i64 0), .lit (.int .i64 0), .lit (.int .i64 0), .lit (.int .i64 0), .lit (.int .i64 0)], .nil, .lit (.int .u8 0), .lit (.int .u8 0), .lit (.int .u8 0)]], [], by kernel_rfl⟩
set_option maxRecDepth 100000 in
theorem lifted (os : Os) (started : os.Started) (H : Type) (enc : TypeId × Value → H) (F : Stop.Interp) :
    ReturnsInHanded {} Try.checked os 4 .any ((OpenSpec.ofChange Rows.topSpraySoftSpec).preRow enc Try.prog Try.f4 Rows.topSpraySoftRow.domain false Rows.topSpraySoftRow.laid) (((OpenSpec.ofChange Rows.topSpraySoftSpec).at F).post enc Try.prog Try.f4 false true false false) := by
  obtain ⟨d, places, hx⟩ := reads os enc
  refine returnsInHanded_of_row (C := Try.checked) (s := OpenSpec.ofChange Rows.topSpraySoftSpec) own started (by kernel_rfl) Try.func4
    (witness_row_at (enc := enc) (C := Try.checked) false (bareWorld os) #[witS, witR] rfl (by kernel_rfl) (by kernel_rfl) (by kernel_rfl)
      (OpenSpec.preRow_of_cond 8 hx (by kernel_rfl) (fun k hk => by cases hk) (by kernel_rfl) (met _))) ?_
  intro W base args ds gs before hval hW _ _ _ hL _ _
  exact contract H enc W base args ds gs before hval hW
theorem fnum : Try.prog.funcNamed "moveout/moveouttop.TopSpraySoft" = some 4 := by kernel_rfl
theorem inst : Try.f4.isInstance Try.prog Rows.topSpraySoftRow.origin Rows.topSpraySoftRow.targs := of_decide_eq_true (by kernel_rfl)
theorem wrapper : Try.f4.isWrapper Try.prog Rows.topSpraySoftRow.wrapper Rows.topSpraySoftRow.mainSum := by unfold Func.isWrapper; first | (rw [if_pos (by decide +kernel)]; kernel_rfl) | (rw [if_neg (by decide +kernel)]; exact ⟨rfl, rfl⟩)
set_option maxRecDepth 100000 in
theorem said : Rows.TopSpraySoftSaid :=
  OpenClaim.holds_of_cond 4 Try.f4 rfl rfl rfl rfl rfl rfl rfl ⟨rfl, rfl, rfl, rfl, rfl⟩ rfl rfl rfl rfl rfl fnum Try.func4 facts inst wrapper
    (fun os started H enc _ F => by rw [OpenClaim.pre_eq_preRow]; exact lifted os started H enc F)
end topSpraySoft
end Go.Proofs.Ytljglocehbccnaa
