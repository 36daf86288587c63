/-
The plain reckoning of arrivals, equal arrays, and the law GunStrings walked (each under the conditions in its statement).
-/
import Derived.Test.YtndlfijfjglkdaaGreatDoorGn
import Derived.Test.YtndlfijfjglkdaaGreatDoorGg
import Derived.Test.YtndlfijfjglkdaaGreatDoorGm
import Derived.Test.YtndlfijfjglkdaaGreatDoorGd
namespace Go.Proofs.YtndlfijfjglkdaaGreatDoor
open Go Go.Ab Go.Proofs
def arrV (s : ByteArray) (l : List Gun) (k : Nat) : Int := (match l[k]? with | some g => g.d | none => 0) + lagV (fOf s) l k
theorem w30 (l : List Gun) (o c k : Nat) (s : ByteArray) (hst : strE l = 0) (hd : hasW s dirs = true) (hk : k < l.length) : AC Tryz.prog 30 [strV o l.length c, iv k, sv s] [(10, .inp o (gcs l))] 11 (iv (arrV s l k)) [(10, .inp o (gcs l))] 11 := by
  have hr := recT_ok (P := Tryz.prog) (l := [(120, g120)]) (by simp only [List.forall_mem_cons]; exact ⟨ok120, by simp⟩)
  have hkI : (k : Int) < l.length := by omega
  have h8 := (strE_len hst).2
  have h7 : k * 7 + 4 < l.length * 7 := by omega
  have hdE := gcs_dE hk (by simp; omega)
  have hoc : o ≤ o + k * 7 + 4 := by omega
  have hod : o + k * 7 + 4 - o = k * 7 + 4 := by omega
  have hsat : ∀ G : Heap, hget G 10 = some (.inp o (gcs l)) → strAt G (strV o l.length c) = some l := fun G hG => by
    unfold strAt gunsAt
    simp [hG, List.take_of_length_le, gunsOf_gcs, show l.length < 9223372036854775808 by omega]
  obtain ⟨_, _, _, hdb, _⟩ := gun_nums hst l[k] (List.getElem_mem hk)
  have hlb : 0 ≤ lagV (fOf s) l k ∧ lagV (fOf s) l k ≤ 2000 := by
    have fb := far_bound (F := fOf s) (strE_inB hst) k l.length
    have h6 : ((farF (fOf s) l k l.length).tdiv 15).natAbs ≤ (farF (fOf s) l k l.length).natAbs := by rw [Int.natAbs_tdiv]; exact Nat.div_le_self _ _
    have h9 : 0 ≤ (farF (fOf s) l k l.length).tdiv 15 := Int.tdiv_nonneg fb.1 (by omega)
    unfold lagV
    omega
  have hsum : IntKind.i64.wrap (l[k].d + lagV (fOf s) l k) = arrV s l k := by
    unfold arrV
    rw [List.getElem?_eq_getElem hk]
    exact W_in (by omega) (by omega)
  refine AC.pure Tryz.func30 rfl (by kernel_rfl) rfl [] rfl ?_
  refine E.seq ?_
  refine E.reg hr (by simp; rfl) ?_
  refine E.seq ?_
  refine E.drawC mixed hr [] [9] [1, 5, 6, 9] (by kernel_rfl) (by simp [g120, hsat, hst, hd, hkI, h7, hdE, hoc, hod, hsum]; rfl) ?_
  refine E.ret ?_
  exact pureK.ret rfl rfl (by simp) (by repeat first | exact sub_refl _ | refine sub_cons rfl ?_)
def g30 (args : List Value) (H : Heap) (n : Nat) : R := match args with
  | [v, .int .i64 k, .string s] => match strAt H v with
    | some l => if strE l = 0 ∧ hasW s dirs = true ∧ 0 ≤ k ∧ k < l.length then some (iv (arrV s l k.toNat), H, n) else none
    | none => none
  | _ => none
theorem ok30 : EntOk Tryz.prog (30, g30) := by
  intro args H n v H' n' h'
  simp only [g30] at h'
  split at h'
  · split at h'
    · rename_i l h1
      split at h'
      · rename_i hp
        obtain ⟨hst, hd, hk0, hkl⟩ := hp
        obtain ⟨j, rfl⟩ := Int.eq_ofNat_of_zero_le hk0
        injection h' with h'; injection h' with e1 e2; injection e2 with e2 e3; subst e1 e2 e3
        unfold strAt at h1
        split at h1
        · injection h1 with h1; subst h1; simp at hkl; omega
        · obtain ⟨hf, hc, hlen, hlt⟩ := gunsAt_ok h1
          subst hlen
          exact AC.liftP rfl (Part.one (fun s' => [.agg ⟨[s']⟩, iv j, sv _]) (by intro φ φ0 s s0 h; simp [denL, den, h]) (by intro p s h; exact ⟨⟨h, trivial⟩, trivial, trivial, trivial⟩) hf hc (afL_gcs l) [] (by simp [Seen]) gsz fun c => ⟨_, _, w30 l _ c j _ hst hd (by omega)⟩)
        · cases h1
      · cases h'
    · cases h'
  · cases h'
def ratB (a b : Int) : Prop := (-4611686018427387904 ≤ a ∧ a ≤ 4611686018427387904) ∧ (1 ≤ b ∧ b ≤ 4611686018427387904)
instance (a b : Int) : Decidable (ratB a b) := by unfold ratB; infer_instance
def gRat (F : Int → Int → Value) (args : List Value) (H : Heap) (n : Nat) : R := match args with
  | [.int .i64 a, .int .i64 b] => if ratB a b then some (F a b, H, n) else none
  | _ => none
theorem okRat {f : FuncId} {F : Int → Int → Value} (hF : ∀ a b, af (F a b) = true) (h : ∀ a b, (-4611686018427387904 ≤ a ∧ a ≤ 4611686018427387904) → (1 ≤ b ∧ b ≤ 4611686018427387904) → AC Tryz.prog f [iv a, iv b] [] 10 (F a b) [] 10) : EntOk Tryz.prog (f, gRat F) := by
  intro args H n v H' n' h'
  simp only [gRat] at h'
  split at h'
  · split at h'
    · rename_i hc
      injection h' with h'; injection h' with e1 e2; injection e2 with e2 e3; subst e1 e2 e3
      exact AC.liftP (hF _ _) (Part.plain (by simp) [] (by simp [Seen]) gsz ⟨_, _, h _ _ hc.1 hc.2⟩)
    · cases h'
  · cases h'
theorem ok112 : EntOk Tryz.prog (112, gRat ratV) := okRat (fun _ _ => rfl) w112
theorem ok190 : EntOk Tryz.prog (190, gRat fun a b => iv (gcdI a b)) := okRat (fun _ _ => rfl) w190
set_option maxRecDepth 100000 in
theorem w118 (a b : Int) (ha : -4611686018427387904 ≤ a ∧ a ≤ 4611686018427387904) (hb : 1 ≤ b ∧ b ≤ 4611686018427387904) : AC Tryz.prog 118 [iv a, iv b] [] 10 (ratV a b) [] 10 := by
  have hr := recT_ok (P := Tryz.prog) (l := [(190, gRat fun a b => iv (gcdI a b))]) (by simp only [List.forall_mem_cons]; exact ⟨ok190, by simp⟩)
  have hg := gcd_pos (a := a) hb.1
  have hg0 : gcdI a b ≠ 0 := by omega
  have hbn : ¬ b < 0 := by omega
  have hrb : ratB a b := ⟨ha, hb⟩
  have e1 : IntKind.i64.wrap (a.tdiv (gcdI a b)) = a.tdiv (gcdI a b) := tdiv_bound hg ha
  have e2 : IntKind.i64.wrap (b.tdiv (gcdI a b)) = b.tdiv (gcdI a b) := tdiv_bound hg (by omega)
  refine AC.pure Tryz.func118 rfl (by kernel_rfl) rfl [] rfl ?_
  refine E.seq ?_
  refine E.reg hr (by simp; rfl) ?_
  refine E.seq ?_
  refine E.seq ?_
  refine E.reg hr (by simp [hbn]; rfl) ?_
  refine E.cond (by rfl) (fun h => ?_) (fun h => ?_)
  · simp at h
  refine E.skip ?_
  refine E.seq ?_
  refine E.reg hr (by simp [gRat, hrb]; rfl) ?_
  refine E.seq ?_
  refine E.drawC mixed hr [7] [7] [7] (by kernel_rfl) (by simp [bin_quo hg0, e1, e2, build35]; rfl) ?_
  refine E.ret ?_
  exact pureK.ret rfl rfl (by simp; kernel_rfl) (by repeat first | exact sub_refl _ | refine sub_cons rfl ?_)
theorem ok118 : EntOk Tryz.prog (118, gRat ratV) := okRat (fun _ _ => rfl) w118
def mxW (l : List Gun) : Int := l.foldl (fun a g => IntKind.i64.wrap (a + IntKind.i64.wrap (g.v * g.x))) 0
def myW (l : List Gun) : Int := l.foldl (fun a g => IntKind.i64.wrap (a + IntKind.i64.wrap (g.v * g.y))) 0
theorem mxW_succ {l : List Gun} {i : Nat} (h : i < l.length) : mxW (l.take (i + 1)) = IntKind.i64.wrap (mxW (l.take i) + IntKind.i64.wrap (l[i].v * l[i].x)) := by
  unfold mxW
  rw [List.take_succ_eq_append_getElem h, List.foldl_append]
  rfl
theorem myW_succ {l : List Gun} {i : Nat} (h : i < l.length) : myW (l.take (i + 1)) = IntKind.i64.wrap (myW (l.take i) + IntKind.i64.wrap (l[i].v * l[i].y)) := by
  unfold myW
  rw [List.take_succ_eq_append_getElem h, List.foldl_append]
  rfl
theorem fold_bound (f : Gun → Int) (M : Int) (l : List Gun) (hf : ∀ g ∈ l, -M ≤ f g ∧ f g ≤ M) (hM : 0 ≤ M) : ∀ i, i ≤ l.length → (-(M * i) ≤ (l.take i).foldl (fun a g => IntKind.i64.wrap (a + f g)) 0 ∧ (l.take i).foldl (fun a g => IntKind.i64.wrap (a + f g)) 0 ≤ M * i) ∨ 1000000000 < M * i := by
  intro i
  induction i with
  | zero => intro _; left; simp
  | succ i ih =>
    intro hi
    have hm : M * ((i + 1 : Nat) : Int) = M * (i : Int) + M := by rw [Int.natCast_succ, Int.mul_add, Int.mul_one]
    by_cases hbig : 1000000000 < M * ((i + 1 : Nat) : Int)
    · exact .inr hbig
    left
    have h0 : 0 ≤ M * (i : Int) := Int.mul_nonneg hM (by omega)
    rcases ih (by omega) with ih | ih
    · have hg := hf l[i] (List.getElem_mem (by omega))
      rw [List.take_succ_eq_append_getElem (by omega), List.foldl_append]
      simp only [List.foldl_cons, List.foldl_nil]
      rw [W_in (by omega) (by omega)]
      omega
    · omega
theorem mul_bound {v x : Int} (hv : 1 ≤ v ∧ v ≤ 64) (hx : -1000 ≤ x ∧ x ≤ 1000) : -64000 ≤ v * x ∧ v * x ≤ 64000 := by
  have h1 : (v * x).natAbs = v.natAbs * x.natAbs := Int.natAbs_mul v x
  have h2 : v.natAbs * x.natAbs ≤ 64 * 1000 := Nat.mul_le_mul (by omega) (by omega)
  omega
theorem cen_bounds {l : List Gun} (h : strE l = 0) : ratB (mxW l) (volW l) ∧ ratB (myW l) (volW l) := by
  obtain ⟨h1, h8⟩ := strE_len h
  have hn := gun_nums h
  have hx := fold_bound (fun g => IntKind.i64.wrap (g.v * g.x)) 64000 l (fun g hg => by
    obtain ⟨a1, a2, _⟩ := hn g hg
    have := mul_bound a1 a2
    rw [W_in (by omega) (by omega)]; exact this) (by omega) l.length (Nat.le_refl _)
  have hy := fold_bound (fun g => IntKind.i64.wrap (g.v * g.y)) 64000 l (fun g hg => by
    obtain ⟨a1, _, a2, _⟩ := hn g hg
    have := mul_bound a1 a2
    rw [W_in (by omega) (by omega)]; exact this) (by omega) l.length (Nat.le_refl _)
  have hvu : ∀ i, i ≤ l.length → (i : Int) ≤ volW (l.take i) ∧ volW (l.take i) ≤ 64 * i := by
    intro i
    induction i with
    | zero => intro _; simp [volW]
    | succ i ih =>
      intro hi
      have ih := ih (by omega)
      obtain ⟨hg, _⟩ := hn l[i] (List.getElem_mem (by omega))
      rw [volW_succ (by omega), W_in (by omega) (by omega)]
      omega
  have hv := hvu l.length (Nat.le_refl _)
  rw [List.take_length] at hx hy hv
  unfold ratB mxW myW
  refine ⟨⟨?_, ?_⟩, ?_, ?_⟩ <;> omega
theorem gcs_xE {l : List Gun} {i : Nat} (h : i < l.length) (h2 : i * 7 + 2 < (gcs l).length) : (gcs l)[i * 7 + 2] = iv l[i].x := by
  have := gcs_get h 2 (by omega)
  rw [List.getElem?_eq_getElem h2] at this
  exact Option.some.inj this
theorem gcs_yE {l : List Gun} {i : Nat} (h : i < l.length) (h2 : i * 7 + 3 < (gcs l).length) : (gcs l)[i * 7 + 3] = iv l[i].y := by
  have := gcs_get h 3 (by omega)
  rw [List.getElem?_eq_getElem h2] at this
  exact Option.some.inj this
abbrev cenZ : Value := .agg ⟨[iv 0, iv 0, iv 0, iv 0]⟩
def cA (l : List Gun) : Int := if strE l = 0 then (mxW l).tdiv (gcdI (mxW l) (volW l)) else 0
def cB (l : List Gun) : Int := if strE l = 0 then (volW l).tdiv (gcdI (mxW l) (volW l)) else 0
def cC (l : List Gun) : Int := if strE l = 0 then (myW l).tdiv (gcdI (myW l) (volW l)) else 0
def cD (l : List Gun) : Int := if strE l = 0 then (volW l).tdiv (gcdI (myW l) (volW l)) else 0
abbrev cenQ (l : List Gun) : List Value := [iv (cA l), iv (cB l), iv (cC l), iv (cD l)]
def cenR (l : List Gun) : Value := .tuple #[.agg ⟨cenQ l⟩, iv (strE l)]
theorem build36n {fr : Fr} {H : Heap} {n : Nat} : opBuild Tryz.prog 36 #[] fr H n = some (cenZ, H, n) := by kernel_rfl
set_option maxRecDepth 100000 in
theorem w22n : AC Tryz.prog 22 [nilV] [] 10 (cenR []) [] 10 := by
  have hr := recT_ok (P := Tryz.prog) (l := [(31, g31)]) (by simp only [List.forall_mem_cons]; exact ⟨ok31, by simp⟩)
  refine AC.pure Tryz.func22 rfl (by kernel_rfl) rfl [1, 2, 5, 6, 17, 18, 19] rfl ?_
  refine E.seq ?_
  refine E.reg hr (by simp; rfl) ?_
  refine E.seq ?_
  refine E.seq ?_
  refine E.reg hr (by simp [g31, strE]; rfl) ?_
  refine E.seq ?_
  refine E.reg hr (by simp; rfl) ?_
  refine E.cond (by rfl) (fun h => ?_) (fun h => ?_)
  rotate_left
  · simp at h
  refine E.seq ?_
  refine E.reg hr (by simp [build36n]; rfl) ?_
  refine E.ret ?_
  have hq : cenQ [] = [iv 0, iv 0, iv 0, iv 0] := by simp [cenQ, cA, cB, cC, cD, strE]
  exact pureK.ret rfl rfl (by simp [cenR, hq, strE]; kernel_rfl) (by repeat first | exact sub_refl _ | refine sub_cons rfl ?_)
set_option maxRecDepth 100000 in
theorem w22 (l : List Gun) (hl : l.length < 2 ^ 63) : AC Tryz.prog 22 [rowV l.length] [(10, .row (gcs l) 7)] 11 (cenR l) [(10, .row (gcs l) 7)] 11 := by
  have hr := recT_ok (P := Tryz.prog) (l := [(31, g31), (111, g111), (112, gRat ratV)]) (by simp only [List.forall_mem_cons]; exact ⟨ok31, ok111, ok112, by simp⟩)
  have hgat : ∀ G : Heap, hget G 10 = some (.row (gcs l) 7) → gunsAt G ⟨10, 0, some 0⟩ l.length = some l := fun G hG => by
    unfold gunsAt
    simp [hG, List.take_of_length_le, gunsOf_gcs, show l.length < 9223372036854775808 by omega]
  refine AC.pure Tryz.func22 rfl (by kernel_rfl) rfl [1, 2, 5, 6, 17, 18, 19] rfl ?_
  refine E.seq ?_
  refine E.reg hr (by simp; rfl) ?_
  refine E.seq ?_
  refine E.seq ?_
  refine E.reg hr (by simp [g31, rowOf, gunsOf_gcs, hl]; rfl) ?_
  refine E.seq ?_
  refine E.reg hr (by simp; rfl) ?_
  refine E.cond (by rfl) (fun h => ?_) (fun h => ?_)
  · simp at h
    refine E.seq ?_
    refine E.reg hr (by simp [build36n]; rfl) ?_
    refine E.ret ?_
    have hq : cenQ l = [iv 0, iv 0, iv 0, iv 0] := by simp [cenQ, cA, cB, cC, cD, h]
    exact pureK.ret rfl rfl (by simp [cenR, hq]; kernel_rfl) (by repeat first | exact sub_refl _ | refine sub_cons rfl ?_)
  simp at h
  obtain ⟨hb1, hb2⟩ := cen_bounds h
  have h8 := (strE_len h).2
  refine E.skip ?_
  refine E.seq ?_
  refine E.reg hr (by simp; rfl) ?_
  refine E.seq ?_
  refine E.seq ?_
  refine E.reg hr (by simp; rfl) ?_
  refine E.block ?_
  refine E.loop ?_
  refine EL.ind (fun i : Nat => { fr := [(1, .pointer (some ⟨11, 0, none⟩)), (2, .pointer (some ⟨12, 0, none⟩)), (5, iv (mxW (l.take i))), (6, iv (myW (l.take i))), (17, .slice (some ⟨10, 0, some 0⟩) l.length 0), (18, iv l.length), (19, iv i)], sz := 50, H := [(12, .cells [iv 0, iv 0, iv 0, iv 0] 36), (11, .cells [.slice (some ⟨10, 0, some 0⟩) l.length 0] 32), (10, .row (gcs l) 7)], n := 13, marks := [], vs := [1, 2, 5, 6, 17, 18, 19] }) (fun i => l.length - i) (fun i => i ≤ l.length) 0 (.less rfl rfl rfl (by simp [mxW, myW]) (by simp)) (Nat.zero_le _) (fun _ => rfl) ?_
  intro i hi
  refine E.seq ?_
  refine E.reg hr (by simp; rfl) ?_
  refine E.seq ?_
  refine E.cond (by rfl) (fun h2 => ?_) (fun h2 => ?_)
  · simp at h2
    have hw : IntKind.i64.wrap ((i : Int) + 1) = (i : Int) + 1 := W_in (by omega) (by omega)
    have h7 : i * 7 + 7 ≤ l.length * 7 := by omega
    have hiI : (i : Int) < l.length := by omega
    have hx := gcs_take h2
    refine E.skip ?_
    refine E.seq ?_
    refine E.block ?_
    refine E.seq ?_
    refine E.reg hr (by simp [h2, hiI, h7, hx]; rfl) ?_
    refine E.seq ?_
    refine E.reg hr (by simp; rfl) ?_
    refine E.reg hr (by simp; rfl) ?_
    refine E.reg hr (by simp [hw]; rfl) ?_
    exact ⟨i + 1, Leads.ren [11, 12] rfl rfl rfl ⟨rfl, rfl⟩ (by simp [mxW_succ h2, myW_succ h2]) (by simp), h2, by dsimp only; omega⟩
  · simp at h2
    have hal : l.take i = l := List.take_of_length_le (by omega)
    rw [hal]
    refine E.exit ?_
    refine E.seq ?_
    refine E.reg hr (by simp [g111, hgat]; rfl) ?_
    refine E.seq ?_
    refine E.reg hr (by simp [gRat, hb1, hb2]; rfl) ?_
    refine E.ret ?_
    have hq : cenQ l = [iv ((mxW l).tdiv (gcdI (mxW l) (volW l))), iv ((volW l).tdiv (gcdI (mxW l) (volW l))), iv ((myW l).tdiv (gcdI (myW l) (volW l))), iv ((volW l).tdiv (gcdI (myW l) (volW l)))] := by simp [cenQ, cA, cB, cC, cD, h]
    exact pureK.ret rfl rfl (by simp [cenR, hq, h]; kernel_rfl) (by repeat first | exact sub_refl _ | refine sub_cons rfl ?_)
theorem ok22 : EntOk Tryz.prog (22, gStrR cenR) := okStrR (fun _ => rfl) w22n w22
set_option maxRecDepth 100000 in
theorem w26 (l : List Gun) (o c : Nat) (hst : strE l = 0) : AC Tryz.prog 26 [strV o l.length c] [(10, .inp o (gcs l))] 11 (.agg ⟨cenQ l⟩) [(10, .inp o (gcs l))] 11 := by
  have hr := recT_ok (P := Tryz.prog) (l := [(25, gStr1 fun l => iv (volW l)), (118, gRat ratV)]) (by simp only [List.forall_mem_cons]; exact ⟨ok25, ok118, by simp⟩)
  obtain ⟨hb1, hb2⟩ := cen_bounds hst
  obtain ⟨h1, h8⟩ := strE_len hst
  have hsat : ∀ G : Heap, hget G 10 = some (.inp o (gcs l)) → strAt G (strV o l.length c) = some l := fun G hG => by
    unfold strAt gunsAt
    simp [hG, List.take_of_length_le, gunsOf_gcs, show l.length < 9223372036854775808 by omega]
  refine AC.pure Tryz.func26 rfl (by kernel_rfl) rfl [1, 2, 3, 4, 5] rfl ?_
  refine E.seq ?_
  refine E.reg hr (by simp; rfl) ?_
  refine E.seq ?_
  refine E.reg hr (by simp; rfl) ?_
  refine E.seq ?_
  refine E.seq ?_
  refine E.reg hr (by simp; rfl) ?_
  refine E.block ?_
  refine E.loop ?_
  refine EL.ind (fun i : Nat => { fr := [(1, .pointer (some ⟨11, 0, none⟩)), (2, .pointer (some ⟨12, 0, none⟩)), (3, iv (mxW (l.take i))), (4, iv (myW (l.take i))), (5, iv i)], sz := 54, H := [(12, .cells [iv 0, iv 0, iv 0, iv 0] 36), (11, .cells [.slice (some ⟨10, o, none⟩) l.length c] 24), (10, .inp o (gcs l))], n := 13, marks := [], vs := [1, 2, 3, 4, 5] }) (fun i => l.length - i) (fun i => i ≤ l.length) 0 (.less rfl rfl rfl (by simp [mxW, myW]) (by simp)) (Nat.zero_le _) (fun _ => rfl) ?_
  intro i hi
  refine E.seq ?_
  refine E.seq ?_
  refine E.reg hr (by simp; rfl) ?_
  refine E.cond (by rfl) (fun h2 => ?_) (fun h2 => ?_)
  · simp at h2
    have hw : IntKind.i64.wrap ((i : Int) + 1) = (i : Int) + 1 := W_in (by omega) (by omega)
    have hiI : (i : Int) < l.length := by omega
    have hc1 : i * 7 + 1 < l.length * 7 := by omega
    have hc2 : i * 7 + 2 < l.length * 7 := by omega
    have hc3 : i * 7 + 3 < l.length * 7 := by omega
    have hv := gcs_vE h2 (by simp; omega)
    have hxE := gcs_xE h2 (by simp; omega)
    have hyE := gcs_yE h2 (by simp; omega)
    have o1 : o ≤ o + i * 7 + 1 := by omega
    have o2 : o + i * 7 + 1 - o = i * 7 + 1 := by omega
    have o3 : o ≤ o + i * 7 + 2 := by omega
    have o4 : o + i * 7 + 2 - o = i * 7 + 2 := by omega
    have o5 : o ≤ o + i * 7 + 3 := by omega
    have o6 : o + i * 7 + 3 - o = i * 7 + 3 := by omega
    refine E.skip ?_
    refine E.seq ?_
    refine E.block ?_
    refine E.seq ?_
    refine E.drawC mixed hr [] [] [2, 6, 8, 13] (by kernel_rfl) (by simp [h2, hiI, hc1, hc2, hv, hxE, o1, o2, o3, o4]; rfl) ?_
    refine E.drawC mixed hr [] [] [2, 6, 8, 13] (by kernel_rfl) (by simp [hiI, hc1, hc3, hv, hyE, o1, o2, o5, o6]; rfl) ?_
    refine E.reg hr (by simp [hw]; rfl) ?_
    exact ⟨i + 1, .less rfl rfl rfl (by simp [mxW_succ h2, myW_succ h2]) (by simp), h2, by dsimp only; omega⟩
  · simp at h2
    have hal : l.take i = l := List.take_of_length_le (by omega)
    rw [hal]
    refine E.exit ?_
    refine E.seq ?_
    refine E.drawC mixed hr [6, 7, 9] [2, 3, 6, 7, 9] [1, 2, 3, 6, 7, 9] (by kernel_rfl) (by simp [gStr1, hsat, h1, gRat, hb1, hb2]; rfl) ?_
    refine E.ret ?_
    have hq : cenQ l = [iv ((mxW l).tdiv (gcdI (mxW l) (volW l))), iv ((volW l).tdiv (gcdI (mxW l) (volW l))), iv ((myW l).tdiv (gcdI (myW l) (volW l))), iv ((volW l).tdiv (gcdI (myW l) (volW l)))] := by simp [cenQ, cA, cB, cC, cD, hst]
    exact pureK.ret rfl rfl (by simp [hq]; kernel_rfl) (by repeat first | exact sub_refl _ | refine sub_cons rfl ?_)
def g26 (args : List Value) (H : Heap) (n : Nat) : R := match args with
  | [v] => match strAt H v with
    | some l => if strE l = 0 then some (.agg ⟨cenQ l⟩, H, n) else none
    | none => none
  | _ => none
theorem ok26 : EntOk Tryz.prog (26, g26) := by
  intro args H n v H' n' h'
  simp only [g26] at h'
  split at h'
  · split at h'
    · rename_i l h1
      split at h'
      · rename_i hst
        injection h' with h'; injection h' with e1 e2; injection e2 with e2 e3; subst e1 e2 e3
        unfold strAt at h1
        split at h1
        · injection h1 with h1; subst h1; simp [strE] at hst
        · obtain ⟨hf, hc, hlen, hlt⟩ := gunsAt_ok h1
          subst hlen
          exact AC.liftP rfl (Part.one (fun s => [.agg ⟨[s]⟩]) (by intro φ φ0 s s0 h; simp [denL, den, h]) (by intro p s h; exact ⟨⟨h, trivial⟩, trivial⟩) hf hc (afL_gcs l) [] (by simp [Seen]) gsz fun c => ⟨_, _, w26 l _ c hst⟩)
        · cases h1
      · cases h'
    · cases h'
  · cases h'
end Go.Proofs.YtndlfijfjglkdaaGreatDoor

namespace Go.Proofs.YtndlfijfjglkdaaGreatDoor
open Go Go.Ab Go.Proofs
theorem dif_co {F : Nat} (hF : isDir F = true) {l : List Gun} (hb : inB l) {k i : Nat} (hk : k < l.length) (hi : i < l.length) : difF F l k i = coG F l[k] - coG F l[i] := by
  obtain ⟨h1, h2, h3, h4, _⟩ := hb l[k] (List.getElem_mem hk)
  obtain ⟨g1, g2, g3, g4, _⟩ := hb l[i] (List.getElem_mem hi)
  have w1 : IntKind.i64.wrap (-l[k].x) = -l[k].x := W_in (by omega) (by omega)
  have w2 : IntKind.i64.wrap (-l[i].x) = -l[i].x := W_in (by omega) (by omega)
  have w3 : IntKind.i64.wrap (-l[k].y) = -l[k].y := W_in (by omega) (by omega)
  have w4 : IntKind.i64.wrap (-l[i].y) = -l[i].y := W_in (by omega) (by omega)
  unfold difF coG coF
  rw [List.getElem?_eq_getElem hk, List.getElem?_eq_getElem hi]
  rcases isDir_cases hF with rfl | rfl | rfl | rfl | rfl <;> simp [w1, w2, w3, w4] <;> omega
theorem far_min {F : Nat} (hF : isDir F = true) {l : List Gun} (hb : inB l) {k : Nat} (hk : k < l.length) : ∀ i, i < l.length → farF F l k (i + 1) = max 0 (coG F l[k] - minN (l.map (coG F)) i)
  | 0, h => by
    have hd := dif_co hF hb hk h
    simp only [farF, hd, minN]
    rw [List.getElem?_eq_getElem (by simpa using h), Option.getD_some, List.getElem_map]
  | i + 1, h => by
    have ih := far_min hF hb hk i (by omega)
    have hd := dif_co hF hb hk h
    rw [farF, ih, hd, minN, List.getElem?_eq_getElem (by simpa using h), Option.getD_some, List.getElem_map]
    omega
theorem arr_same {l : List Gun} {s : ByteArray} (hst : strE l = 0) (hd : hasW s dirs = true) {k : Nat} (hk : k < l.length) : (arrL s l).getD k 0 = arrV s l k := by
  obtain ⟨hF, _⟩ := fOf_ok hd
  have hb := strE_inB hst
  have hm := far_min hF hb hk (l.length - 1) (by omega)
  rw [show l.length - 1 + 1 = l.length by omega] at hm
  have hle := minN_le (l.map (coG (fOf s))) (l.length - 1) (by simp; omega) k (by simpa using hk) (by omega)
  rw [List.getElem_map] at hle
  unfold arrL arrV lagV
  rw [hm, List.getD_eq_getElem?_getD, List.getElem?_map, List.getElem?_eq_getElem hk]
  simp only [Option.map_some, Option.getD_some, arrG, leastV]
  rw [show max 0 (coG (fOf s) l[k] - minN (l.map (coG (fOf s))) (l.length - 1)) = coG (fOf s) l[k] - minN (l.map (coG (fOf s))) (l.length - 1) by omega]
theorem runP_eqArr2 {P : Program} (d : Nat) {t e : TypeId} {n : Nat} {xs ys : Array Value} (ht : P.underlying t = some (.array 2 e)) (hn : runP P (sizeOf e) = some n)
    (h : ∀ i, i < 2 → ∃ a b, runP P (part e xs (i * n)) = some a ∧ runP P (part e ys (i * n)) = some b ∧ runP P (Op.equalIn d e a b) = some true) : runP P (Op.equalIn (d + 1) t (.agg xs) (.agg ys)) = some true := by
  obtain ⟨a0, b0, p0, q0, r0⟩ := h 0 (by omega)
  obtain ⟨a1, b1, p1, q1, r1⟩ := h 1 (by omega)
  simp only [Op.equalIn, runP_bind', runP_und' ht, Option.bind_some, hn]
  have hl : List.range' 0 2 1 = [0, 1] := rfl
  simp only [Std.Legacy.Range.forIn_eq_forIn_range', Std.Legacy.Range.size, Nat.sub_zero, Nat.add_one_sub_one, Nat.div_one, hl, List.forIn_cons, List.forIn_nil, runP_bind', p0, q0, r0, p1, q1, r1, Option.bind_some, Bool.not_true, Bool.false_eq_true, if_false, runP_pure]
theorem eq_rat (a b : Int) (d : Nat) : runP Tryz.prog (Op.equalIn (d + 2) 35 (.agg #[iv a, iv b]) (.agg #[iv a, iv b])) = some true :=
  eq_pair Tryz.underlying35 (by kernel_rfl) ⟨rfl, rfl⟩ ⟨rfl, rfl⟩ a b d
theorem eq36 {x y : Operand} {H : Heap} {n : Nat} (a b c d : Int) : binV Tryz.prog .eql 36 x y (.agg ⟨[iv a, iv b, iv c, iv d]⟩) (.agg ⟨[iv a, iv b, iv c, iv d]⟩) H n = some (.bool true, H, n) := by
  have he : runP Tryz.prog (Op.equalIn 10000 36 (.agg ⟨[iv a, iv b, iv c, iv d]⟩) (.agg ⟨[iv a, iv b, iv c, iv d]⟩)) = some true := by
    refine runP_eqArr2 9999 (n := 2) Tryz.underlying36 (by kernel_rfl) fun i hi => ?_
    rcases (show i = 0 ∨ i = 1 by omega) with rfl | rfl
    · exact ⟨.agg #[iv a, iv b], .agg #[iv a, iv b], by kernel_rfl, by kernel_rfl, eq_rat a b 9997⟩
    · exact ⟨.agg #[iv c, iv d], .agg #[iv c, iv d], by kernel_rfl, by kernel_rfl, eq_rat c d 9997⟩
  have h : runP Tryz.prog (do eqGuard .eql 36 x y (.agg ⟨[iv a, iv b, iv c, iv d]⟩) (.agg ⟨[iv a, iv b, iv c, iv d]⟩); binOp .eql 36 (.agg ⟨[iv a, iv b, iv c, iv d]⟩) (.agg ⟨[iv a, iv b, iv c, iv d]⟩)) = some (.bool true) := by
    rw [runP_bind']
    have h1 : runP Tryz.prog (eqGuard .eql 36 x y (.agg ⟨[iv a, iv b, iv c, iv d]⟩) (.agg ⟨[iv a, iv b, iv c, iv d]⟩)) = some () := by kernel_rfl
    rw [h1, Option.bind_some]
    show runP Tryz.prog (Op.equalIn 10000 36 (.agg ⟨[iv a, iv b, iv c, iv d]⟩) (.agg ⟨[iv a, iv b, iv c, iv d]⟩) >>= fun b => pure (Value.bool b)) = _
    rw [runP_bind', he]
    rfl
  have ha : afq (.agg ⟨[iv a, iv b, iv c, iv d]⟩) = true := rfl
  unfold binV
  rw [ha]
  simp only [Bool.and_self, if_true]
  rw [h]
  rfl
@[simp] theorem renL_tab3' (ρ : Nat → Nat) : renL ρ tab3 = tab3 := by kernel_rfl
@[simp] theorem renL_names0' (ρ : Nat → Nat) : renL ρ names0 = names0 := by kernel_rfl
@[simp] theorem scL_tab3' (p : Nat → Prop) : scL p tab3 := scL_af _ _ af_tab3
@[simp] theorem scL_names0' (p : Nat → Prop) : scL p names0 := scL_af _ _ af_names0
abbrev H3 (o0 : Nat) (cs0 : List Value) : Heap := [(10, .inp o0 cs0), (3, .inp 0 tab3), (0, .inp 0 names0)]
def vA (l : List Gun) : Int := if strE l = 0 then volW l else 0
def aA (l : List Gun) (k : Int) (s : ByteArray) : Int := if arrE l k s = 0 then (arrL s l).getD k.toNat 0 else 0
def B3 (k : Int) (d : ByteArray) : Fr := [(1, iv k), (2, sv d), (3, .pointer (some ⟨11, 0, none⟩))]
def SA (o0 : Nat) (cs0 : List Value) (sl : Value) (l : List Gun) (k : Int) (d : ByteArray) : St := { fr := (8, iv (strE l)) :: (7, iv (vA l)) :: B3 k d, sz := 109, H := (11, .cells [sl] 24) :: H3 o0 cs0, n := 12, marks := [], vs := [] }
def SB (o0 : Nat) (cs0 : List Value) (sl : Value) (l : List Gun) (k : Int) (d : ByteArray) : St := { fr := (10, iv (strE l)) :: (9, .pointer (some ⟨12, 0, none⟩)) :: (8, iv (strE l)) :: (7, iv (vA l)) :: B3 k d, sz := 109, H := (12, .cells (cenQ l) 36) :: (11, .cells [sl] 24) :: H3 o0 cs0, n := 13, marks := [], vs := [] }
def SC (o0 : Nat) (cs0 : List Value) (sl : Value) (l : List Gun) (k : Int) (d : ByteArray) : St := { fr := (12, iv (arrE l k d)) :: (11, iv (aA l k d)) :: (10, iv (strE l)) :: (9, .pointer (some ⟨12, 0, none⟩)) :: (8, iv (strE l)) :: (7, iv (vA l)) :: B3 k d, sz := 109, H := (12, .cells (cenQ l) 36) :: (11, .cells [sl] 24) :: H3 o0 cs0, n := 13, marks := [], vs := [] }
def SD (o0 : Nat) (cs0 : List Value) (sl : Value) (l : List Gun) (k : Int) (d : ByteArray) (z : Int) : St := { fr := (17, .pointer (some ⟨13, 0, none⟩)) :: (16, iv z) :: (15, iv (vA l)) :: (14, iv (arrE l k d)) :: (13, iv (strE l)) :: (12, iv (arrE l k d)) :: (11, iv (aA l k d)) :: (10, iv (strE l)) :: (9, .pointer (some ⟨12, 0, none⟩)) :: (8, iv (strE l)) :: (7, iv (vA l)) :: B3 k d, sz := 109, H := (13, .cells (cenQ l) 36) :: (12, .cells (cenQ l) 36) :: (11, .cells [sl] 24) :: H3 o0 cs0, n := 14, marks := [], vs := [] }
set_option maxRecDepth 100000 in
set_option maxHeartbeats 4000000 in
theorem w3 (a : Option Addr) (m c : Nat) (l : List Gun) (k : Int) (d : ByteArray) (o0 : Nat) (cs0 : List Value)
    (hs : ∀ G : Heap, hget G 10 = some (.inp o0 cs0) → strAt G (.agg ⟨[.slice a m c]⟩) = some l) (hl63 : l.length < 2 ^ 63) (hm : m = l.length)
    (r0 : ∀ olds, renL (rnm 11 olds) cs0 = cs0) (rs : ∀ olds, ren (rnm 11 olds) (.slice a m c) = .slice a m c) (c0 : ∀ p : Nat → Prop, scL p cs0) (ss : ∀ p : Nat → Prop, p 10 → sc p (.slice a m c)) :
    AC Tryz.prog 3 [.agg ⟨[.slice a m c]⟩, iv k, sv d] (H3 o0 cs0) 11 (.bool true) (H3 o0 cs0) 11 := by
  have hr := recT_ok (P := Tryz.prog) (l := [(18, g18), (19, gStr fun l => .bool (shortS l)), (21, g21), (20, gStrR volR), (22, gStrR cenR), (23, g23), (24, gStr fun l => iv (strE l)), (25, gStr1 fun l => iv (volW l)), (26, g26), (28, g114), (29, gSI dirE), (27, g113), (30, g30), (31, g31), (32, g32)]) (by simp only [List.forall_mem_cons]; exact ⟨ok18, ok19, ok21, ok20, ok22, ok23, ok24, ok25, ok26, ok28, ok29, ok27, ok30, ok31, ok32, by simp⟩)
  have ss12 : sc (fun x => x < 12) (.slice a m c) := ss _ (by decide)
  have ss13 : sc (fun x => x < 13) (.slice a m c) := ss _ (by decide)
  have ss14 : sc (fun x => x < 14) (.slice a m c) := ss _ (by decide)
  refine AC.pure Tryz.func3 rfl (by kernel_rfl) rfl [] rfl ?_
  refine E.seq ?_
  refine E.reg hr (by simp; rfl) ?_
  refine E.seq ?_
  refine E.seq ?_
  cases hsh : shortS l with
  | false =>
    refine E.reg hr (by simp [g18, gStr, hs, hsh, undefV]; rfl) ?_
    refine E.cond (by rfl) (fun h => ?_) (fun h => ?_)
    · refine E.seq ?_
      refine E.reg hr (by simp [g18]; rfl) ?_
      refine E.ret ?_
      exact pureK.ret rfl rfl (by simp) (by repeat first | exact sub_refl _ | refine sub_cons rfl ?_)
    · simp at h
  | true =>
  by_cases h20 : (20 : Int) < (d.size : Int)
  · refine E.reg hr (by simp [g18, gStr, hs, hsh, h20]; rfl) ?_
    refine E.cond (by rfl) (fun h => ?_) (fun h => ?_)
    · refine E.seq ?_
      refine E.reg hr (by simp [g18]; rfl) ?_
      refine E.ret ?_
      exact pureK.ret rfl rfl (by simp) (by repeat first | exact sub_refl _ | refine sub_cons rfl ?_)
    · simp at h
  refine E.reg hr (by simp [g18, gStr, hs, hsh, h20]; rfl) ?_
  refine E.cond (by rfl) (fun h => ?_) (fun h => ?_)
  · simp at h
  refine E.skip ?_
  have hl9 : l.length ≤ 4096 := by
    unfold shortS at hsh
    simp at hsh
    omega
  have hrow : ∀ (G : Heap) (b : Nat), hget G b = some (.ext (gcs l) 95 7) → rowGuns G b l.length = some l := fun G b hG => by
    unfold rowGuns rowOf
    rw [hG]
    simp [gunsOf_gcs, hl63]
  refine E.cut (SA o0 cs0 (.slice a m c) l k d) ?_ ?_
  · by_cases hl0 : l = []
    · subst hl0
      refine E.reg hr (by simp [g21, hs, gStrR, volR]; rfl) ?_
      exact Leads.ren [11] rfl rfl rfl ⟨rfl, rfl⟩ (by simp [SA, B3, vA]) (by simp [SA, rs, r0, c0, ss12])
    · refine E.reg hr (by simp [g21, hs, hl0, hl9, gStrR, hrow, volR]; rfl) ?_
      exact Leads.ren [11] rfl rfl rfl ⟨rfl, rfl⟩ (by simp [SA, B3, vA]) (by simp [SA, rs, r0, c0, ss12])
  refine E.cut (SB o0 cs0 (.slice a m c) l k d) ?_ ?_
  · by_cases hl0 : l = []
    · subst hl0
      refine E.reg hr (by simp [SA, B3, g21, hs, gStrR, cenR]; rfl) ?_
      exact Leads.ren [11, 12] rfl rfl rfl ⟨rfl, rfl⟩ (by simp [SB, B3]) (by simp [SB, rs, r0, c0, ss13])
    · refine E.reg hr (by simp [SA, B3, g21, hs, hl0, hl9, gStrR, hrow, cenR]; rfl) ?_
      exact Leads.ren [11, 13] rfl rfl rfl ⟨rfl, rfl⟩ (by simp [SB, B3]) (by simp [SB, rs, r0, c0, ss13])
  refine E.cut (SC o0 cs0 (.slice a m c) l k d) ?_ ?_
  · by_cases hl0 : l = []
    · subst hl0
      refine E.reg hr (by simp [SB, B3, g21, hs, g23, arrR]; rfl) ?_
      exact Leads.ren [11, 12] rfl rfl rfl ⟨rfl, rfl⟩ (by simp [SC, B3, aA]) (by simp [SC, rs, r0, c0, ss13])
    · refine E.reg hr (by simp [SB, B3, g21, hs, hl0, hl9, g23, hrow, arrR]; rfl) ?_
      exact Leads.ren [11, 12] rfl rfl rfl ⟨rfl, rfl⟩ (by simp [SC, B3, aA]) (by simp [SC, rs, r0, c0, ss13])
  refine E.seq ?_
  refine E.reg hr (by simp [SC, B3, gStr, hs]; rfl) ?_
  refine E.seq ?_
  refine E.reg hr (by simp; rfl) ?_
  refine E.seq ?_
  refine E.reg hr (by simp; rfl) ?_
  refine E.seq ?_
  refine E.reg hr (by simp; rfl) ?_
  refine E.cut (SD o0 cs0 (.slice a m c) l k d 0) ?_ ?_
  · by_cases hst : strE l = 0
    rotate_left
    · refine E.seq ?_
      refine E.reg hr (by simp [hst]; rfl) ?_
      refine E.cond (by rfl) (fun h => ?_) (fun h => ?_)
      · simp at h
      refine E.skip ?_
      have hae : arrE l k d = strE l := by simp [arrE, firstV, hst]
      exact Leads.ren [11, 12, 13] rfl rfl rfl ⟨rfl, rfl⟩ (by simp [SD, B3, vA, hst, hae]) (by simp [SD, rs, r0, c0, ss14, cA, cB, cC, cD, hst])
    have h1 := (strE_len hst).1
    refine E.seq ?_
    refine E.reg hr (by simp [hst]; rfl) ?_
    refine E.cond (by rfl) (fun h => ?_) (fun h => ?_)
    rotate_left
    · simp at h
    refine E.seq ?_
    refine E.drawC mixed hr [3, 5] [1, 3, 5] [0, 1, 3, 5] (by kernel_rfl) (by simp [gStr1, g26, hs, h1, hst]; rfl) ?_
    by_cases hk0 : k < 0
    · have hae : arrE l k d = firstV [10, dirE d] := by simp [arrE, firstV, hst, whenV, hk0]
      refine E.reg hr (by simp [hk0, g114, gSI, g113, intsAt, intsOf, undefV, whenV]; rfl) ?_
      exact Leads.ren [11, 12, 13] rfl rfl rfl ⟨rfl, rfl⟩ (by simp [SD, B3, vA, hst, hae]) (by simp [SD, rs, r0, c0, ss14])
    by_cases hkl : (l.length : Int) ≤ k
    · have hae : arrE l k d = firstV [10, dirE d] := by simp [arrE, firstV, hst, whenV, hkl]
      have hkm : (m : Int) ≤ k := by omega
      refine E.reg hr (by simp [hk0, hkm, g114, gSI, g113, intsAt, intsOf, whenV]; rfl) ?_
      exact Leads.ren [11, 12, 13] rfl rfl rfl ⟨rfl, rfl⟩ (by simp [SD, B3, vA, hst, hae]) (by simp [SD, rs, r0, c0, ss14])
    · have hae : arrE l k d = firstV [0, dirE d] := by simp [arrE, firstV, hst, whenV, hk0, hkl]
      have hkm : ¬ (m : Int) ≤ k := by omega
      refine E.reg hr (by simp [hk0, hkm, g114, gSI, g113, intsAt, intsOf, whenV]; rfl) ?_
      exact Leads.ren [11, 12, 13] rfl rfl rfl ⟨rfl, rfl⟩ (by simp [SD, B3, vA, hst, hae]) (by simp [SD, rs, r0, c0, ss14])
  refine E.cut (SD o0 cs0 (.slice a m c) l k d (aA l k d)) ?_ ?_
  · by_cases hae : arrE l k d = 0
    rotate_left
    · refine E.seq ?_
      refine E.reg hr (by simp [SD, B3, hae]; rfl) ?_
      refine E.cond (by rfl) (fun h => ?_) (fun h => ?_)
      · simp at h
      refine E.skip ?_
      exact Leads.less rfl rfl rfl (by simp [SD, B3, aA, hae]) (by simp [SD])
    obtain ⟨hst, hk0, hkl, hd⟩ := arrE_zero hae
    have hsame := arr_same hst hd (k := k.toNat) (by omega)
    rw [List.getD_eq_getElem?_getD] at hsame
    refine E.seq ?_
    refine E.reg hr (by simp [SD, B3, hae]; rfl) ?_
    refine E.cond (by rfl) (fun h => ?_) (fun h => ?_)
    rotate_left
    · simp at h
    refine E.reg hr (by simp [g30, hs, hst, hd, hk0, hkl]; rfl) ?_
    exact Leads.less rfl rfl rfl (by simp [SD, B3, aA, hae, hsame, hst]) (by simp [SD])
  refine E.seq ?_
  have hv : (¬ strE l = 0 → vA l = 0) = True := eq_true fun h => by simp [vA, h]
  have ha : (¬ arrE l k d = 0 → aA l k d = 0) = True := eq_true fun h => by simp [aA, h]
  by_cases hl0 : l = []
  · subst hl0
    refine E.reg hr (by simp [SD, B3, g21, hs, g31, g32, hv, ha, eq36]; rfl) ?_
    refine E.ret ?_
    exact pureK.ret rfl rfl (by simp) (by repeat first | exact sub_refl _ | refine sub_cons rfl ?_)
  · refine E.reg hr (by simp [SD, B3, g21, hs, hl0, hl9, g31, rowOf, gunsOf_gcs, hl63, g32, hv, ha, eq36]; rfl) ?_
    refine E.ret ?_
    exact pureK.ret rfl rfl (by simp) (by repeat first | exact sub_refl _ | refine sub_cons rfl ?_)
end Go.Proofs.YtndlfijfjglkdaaGreatDoor
