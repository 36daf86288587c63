/-
The law GunReaches, walked: it returns true for every line, every string of guns and every eight bytes.
-/
import Derived.Test.YtndlfijfjglkdaaGreatDoorGe
import Derived.Test.YtndlfijfjglkdaaGreatDoorGa
namespace Go.Proofs.YtndlfijfjglkdaaGreatDoor
open Go Go.Ab Go.Proofs
abbrev bv (n : Int) : Value := .int .u8 n
@[simp] theorem renL_bv (ρ : Nat → Nat) (l : List Int) : renL ρ (l.map bv) = l.map bv := by rw [renL_eq, List.map_map]; rfl
@[simp] theorem afL_bv : ∀ l : List Int, afL (l.map bv) = true
  | [] => rfl
  | _ :: l => by simp [afL_bv l]
@[simp] theorem scL_bv (p : Nat → Prop) (l : List Int) : scL p (l.map bv) := scL_af p _ (afL_bv l)
@[simp] theorem oneL_tcs : ∀ l : List Tim, oneL (tcs l) = true
  | [] => rfl
  | t :: l => by
    show oneL (t.cells ++ tcs l) = true
    simp [Tim.cells, oneL, oneL_tcs l]
theorem tcs_snoc (l : List Tim) (t : Tim) : tcs (l ++ [t]) = tcs l ++ [sv t.gun, iv t.tick] := by simp [tcs, Tim.cells]
theorem cv53 (n : Int) : runP Tryz.prog (convert 5 3 (.int .u8 n)) = some (.int .i64 (IntKind.i64.wrap n)) := by kernel_rfl
theorem build119 {fr : Fr} {H : Heap} {n : Nat} {x y : Operand} {a : ByteArray} {b : Int} (hx : evO Tryz.prog fr x = some (sv a)) (hy : evO Tryz.prog fr y = some (iv b)) : opBuild Tryz.prog 119 #[(0, x), (1, y)] fr H n = some (.agg #[sv a, iv b], H, n) := by
  unfold opBuild
  simp only [evPs_cons, evPs_nil, hx, hy]
  kernel_rfl
theorem max33 (a b : Int) (c : Array Bool) : runP Tryz.prog (builtin .max #[3, 3] 3 c #[iv a, iv b]) = some (.value (iv (max a b))) := by
  have h : runP Tryz.prog (builtin .max #[3, 3] 3 c #[iv a, iv b]) = some (.value (.int .i64 (if b > a then b else a))) := rfl
  rw [h]
  congr 3
  split <;> omega
@[simp] theorem bin_neqb {x y : Operand} {H : Heap} {n : Nat} {a b : Bool} : binV Tryz.prog .neq 4 x y (.bool a) (.bool b) H n = some (.bool (!decide (a = b)), H, n) := by
  cases a <;> cases b <;> kernel_rfl
theorem gcs_dE {l : List Gun} {i : Nat} (h : i < l.length) (h2 : i * 7 + 4 < (gcs l).length) : (gcs l)[i * 7 + 4] = iv l[i].d := by
  have := gcs_get h 4 (by omega)
  rw [List.getElem?_eq_getElem h2] at this
  exact Option.some.inj this
theorem ticksV_none {s f d p u e e' : Int} (h : ticksV s f d p u e = (none, e')) : e' ≠ 0 := by
  unfold ticksV at h
  split at h
  · rename_i h0; simp only [Prod.mk.injEq, true_and] at h; omega
  · split at h
    · simp at h; omega
    · split at h <;> simp at h
      omega
@[simp] theorem renL_tab3 (ρ : Nat → Nat) : renL ρ tab3 = tab3 := by kernel_rfl
@[simp] theorem renL_names0 (ρ : Nat → Nat) : renL ρ names0 = names0 := by kernel_rfl
@[simp] theorem scL_tab3 (p : Nat → Prop) : scL p tab3 := scL_af _ _ af_tab3
@[simp] theorem scL_names0 (p : Nat → Prop) : scL p names0 := scL_af _ _ af_names0
abbrev H9 (o : Nat) (l : List Gun) : Heap := [(10, .inp o (gcs l)), (3, .inp 0 tab3), (0, .inp 0 names0)]
abbrev H9' (o c : Nat) (l : List Gun) (ln : List Value) (ns : List Int) : Heap := (13, .cells (ns.map bv) 117) :: (12, .cells [.slice (some ⟨10, o, none⟩) l.length c] 24) :: (11, .cells ln 73) :: H9 o l
abbrev vs9 : List Nat := [3, 4, 5, 7, 52, 53, 54, 124, 125, 126, 17, 18, 19, 20, 22, 215, 216, 217]
def S9t (o c : Nat) (l : List Gun) (ln : List Value) (ns : List Int) : Nat × Option (List Tim) → St
  | (i, none) => { fr := [(4, .pointer (some ⟨12, 0, none⟩)), (5, .pointer (some ⟨13, 0, none⟩)), (17, .slice none 0 0), (18, iv ((i : Int) - 1))], sz := 265, H := H9' o c l ln ns, n := 14, marks := [], vs := vs9 }
  | (i, some ts) => { fr := [(4, .pointer (some ⟨12, 0, none⟩)), (5, .pointer (some ⟨13, 0, none⟩)), (17, .slice (some ⟨14, 0, some 0⟩) ts.length 0), (18, iv ((i : Int) - 1))], sz := 265, H := (14, .ext (tcs ts) 119 2) :: H9' o c l ln ns, n := 15, marks := [], vs := vs9 }
def G9t (l : List Gun) (ns : List Int) : Nat × Option (List Tim) → Prop
  | (i, none) => i = l.length
  | (i, some ts) => i < l.length ∧ ts = timD l ns (l.length - i)
theorem timD_snoc {l : List Gun} {ns : List Int} {k : Nat} (h : k < l.length) : timD l ns (l.length - k) = timD l ns (l.length - (k + 1)) ++ [timAt l ns k] := by
  unfold timD
  rw [show l.length - k = (l.length - (k + 1)) + 1 by omega, rl_succ]
  congr 2
  congr 1
  omega
set_option maxRecDepth 100000 in
set_option maxHeartbeats 4000000 in
theorem w9 (s f d p u e : Int) (l : List Gun) (o c : Nat) (ns : List Int) (hl63 : l.length < 2 ^ 63) (h8 : ns.length = 8) (hns : ∀ x ∈ ns, 0 ≤ x ∧ x ≤ 255) : AC Tryz.prog 9 [.agg ⟨lin s f d p u e⟩, strV o l.length c, .agg ⟨ns.map bv⟩] (H9 o l) 11 (.bool true) (H9 o l) 11 := by
  have hr := recT_ok (P := Tryz.prog) (l := [(18, g18), (52, gStr fun l => .bool (validB l)), (49, g136), (48, g48), (21, g21), (58, g58), (60, g60), (67, g67)]) (by simp only [List.forall_mem_cons]; exact ⟨ok18, ok52, ok49, ok48, ok21, ok58, ok60, ok67, by simp⟩)
  have hat : ∀ G : Heap, hget G 10 = some (.inp o (gcs l)) → gunsAt G ⟨10, o, none⟩ l.length = some l := fun G hG => by
    unfold gunsAt
    simp [hG, List.take_of_length_le, gunsOf_gcs, show l.length < 9223372036854775808 by omega]
  refine AC.pure Tryz.func9 rfl (by kernel_rfl) rfl vs9 rfl ?_
  refine E.seq ?_
  refine E.reg hr (by simp; rfl) ?_
  refine E.seq ?_
  refine E.seq ?_
  by_cases hv : validB l = true
  rotate_left
  · simp at hv
    refine E.reg hr (by simp [g18, gStr, strAt, hat, hv, undefV]; rfl) ?_
    refine E.cond (by rfl) (fun h => ?_) (fun h => ?_)
    · refine E.seq ?_
      refine E.reg hr (by simp [g18]; rfl) ?_
      refine E.ret ?_
      exact pureK.ret rfl rfl (by simp) (by repeat first | exact sub_refl _ | refine sub_cons rfl ?_)
    · simp at h
  by_cases hl : lineV s f d p u e = 0
  rotate_left
  · refine E.reg hr (by simp [g18, gStr, strAt, hat, hv, g136, hl]; rfl) ?_
    refine E.cond (by rfl) (fun h => ?_) (fun h => ?_)
    · refine E.seq ?_
      refine E.reg hr (by simp [g18]; rfl) ?_
      refine E.ret ?_
      exact pureK.ret rfl rfl (by simp) (by repeat first | exact sub_refl _ | refine sub_cons rfl ?_)
    · simp at h
  refine E.reg hr (by simp [g18, gStr, strAt, hat, hv, g136, hl]; rfl) ?_
  refine E.cond (by rfl) (fun h => ?_) (fun h => ?_)
  · simp at h
  refine E.skip ?_
  simp [validB] at hv
  obtain ⟨⟨_, h6⟩, hst⟩ := hv
  obtain ⟨h1, _⟩ := strE_len hst
  have hlz := lineV_zero hl
  obtain ⟨hs, hf, hd, hp, hu, he⟩ := hlz
  refine E.cut2 { fr := [(4, .pointer (some ⟨12, 0, none⟩)), (5, .pointer (some ⟨13, 0, none⟩))], sz := 265, H := H9' o c l (lin s f d p u e) ns, n := 14, marks := [], vs := vs9 } ?_ ?_
  · rcases ht : ticksV s f d p u e with ⟨_ | t, e'⟩
    · have he' := ticksV_none ht
      refine E.reg hr (by simp [g48, ht, gTicks]; rfl) ?_
      refine E.seq ?_
      refine E.reg hr (by simp; rfl) ?_
      refine E.cond (by rfl) (fun h => ?_) (fun h => ?_)
      · simp at h
        exact absurd h he'
      refine E.skip ?_
      exact Leads.less rfl rfl rfl (by simp) (by simp)
    · obtain ⟨rfl, htl, htg⟩ := ticksV_ok hl ht
      have htp : (t.length : Int) = p := by omega
      refine E.reg hr (by simp [g48, ht, gTicks]; rfl) ?_
      refine E.seq ?_
      refine E.reg hr (by simp; rfl) ?_
      refine E.cond (by rfl) (fun h => ?_) (fun h => ?_)
      rotate_left
      · simp at h
      refine E.seq ?_
      refine E.seq ?_
      refine E.reg hr (by simp [htp]; rfl) ?_
      refine E.cond (by rfl) (fun h => ?_) (fun h => ?_)
      · simp at h
      refine E.skip ?_
      refine E.seq ?_
      refine E.seq ?_
      refine E.reg hr (by simp; rfl) ?_
      refine E.block ?_
      refine E.loop ?_
      refine EL.ind (fun i : Nat => { fr := [(3, .pointer (some ⟨11, 0, none⟩)), (4, .pointer (some ⟨12, 0, none⟩)), (5, .pointer (some ⟨13, 0, none⟩)), (7, .slice (some ⟨14, 0, some 0⟩) t.length 0), (52, .slice (some ⟨14, 0, some 0⟩) t.length 0), (53, iv t.length), (54, iv i)], sz := 265, H := (14, .ext (t.map iv) 3 1) :: H9' o c l (lin s f d p u e) ns, n := 15, marks := [], vs := vs9 }) (fun i => t.length - i) (fun i => i ≤ t.length) 0 (.less rfl rfl rfl (by simp [htp]) (by simp)) (Nat.zero_le _) (fun _ => rfl) ?_
      intro i hi
      have hw : IntKind.i64.wrap ((i : Int) + 1) = (i : Int) + 1 := W_in (by omega) (by omega)
      refine E.seq ?_
      refine E.reg hr (by simp; rfl) ?_
      refine E.seq ?_
      refine E.cond (by rfl) (fun h => ?_) (fun h => ?_)
      · simp at h
        obtain ⟨e1, e2⟩ := htg i h
        obtain ⟨r1, r2, r3, r4, r5⟩ := reach_facts (i := (i : Int)) hs hf hd hu he (by omega)
        obtain ⟨⟨a1, a2⟩, b1, b2⟩ := far_bounds (i := (i : Int)) hf hd he (by omega)
        rw [← e1] at r1 r2 r3 r4 r5
        have hwi : IntKind.i64.wrap ((i : Int) * d) = (i : Int) * d := W_in (by omega) (by omega)
        have hwf : IntKind.i64.wrap (f + (i : Int) * d) = f + (i : Int) * d := W_in (by omega) (by omega)
        have hwe : IntKind.i64.wrap ((f + (i : Int) * d) * e) = (f + (i : Int) * d) * e := W_in (by omega) (by omega)
        have hx0 : IntKind.i64.wrap (t[i] - s) = t[i] - s := W_in (by omega) (by omega)
        have hx1 : IntKind.i64.wrap ((t[i] - s) * u) = (t[i] - s) * u := W_in (by omega) (by omega)
        have hx2 : IntKind.i64.wrap (t[i] - 1) = t[i] - 1 := W_in (by omega) (by omega)
        have hx3 : IntKind.i64.wrap (t[i] - 1 - s) = t[i] - 1 - s := W_in (by omega) (by omega)
        have hx4 : IntKind.i64.wrap ((t[i] - 1 - s) * u) = (t[i] - 1 - s) * u := W_in (by omega) (by omega)
        have c1 : ¬ t[i] < s := by omega
        have c2 : ¬ 100000 < t[i] := by omega
        have c3 : ¬ (t[i] - s) * u < (f + (i : Int) * d) * e := by omega
        have c4 : ¬ (f + (i : Int) * d) * e ≤ (t[i] - 1 - s) * u := by omega
        refine E.skip ?_
        refine E.seq ?_
        refine E.block ?_
        refine E.seq ?_
        refine E.reg hr (by simp [h]; rfl) ?_
        refine E.seq ?_
        refine E.reg hr (by simp [hwi, hwf, hwe]; rfl) ?_
        refine E.seq ?_
        generalize hX : (f + (i : Int) * d) * e = X at *
        generalize hT : t[i] = T at *
        refine E.regL hr { fr := [(105, .bool false), (3, .pointer (some ⟨11, 0, none⟩)), (4, .pointer (some ⟨12, 0, none⟩)), (5, .pointer (some ⟨13, 0, none⟩)), (7, .slice (some ⟨14, 0, some 0⟩) t.length 0), (52, .slice (some ⟨14, 0, some 0⟩) t.length 0), (53, iv t.length), (54, iv i)], sz := 265, H := (14, .ext (t.map iv) 3 1) :: H9' o c l (lin s f d p u e) ns, n := 15, marks := [], vs := vs9 } ?_ ?_
        · by_cases c5 : s < T
          · refine ⟨_, by simp [c1, c2, hx0, hx1, c3, c5, hx2, hx3, hx4, c4]; rfl, ?_⟩
            exact .less rfl rfl rfl (by simp) (by simp)
          · refine ⟨_, by simp [c1, c2, hx0, hx1, c3, c5, undefV]; rfl, ?_⟩
            exact .less rfl rfl rfl (by simp) (by simp)
        refine E.cond (by rfl) (fun h => ?_) (fun h => ?_)
        · simp at h
        refine E.skip ?_
        refine E.reg hr (by simp [hw]; rfl) ?_
        exact ⟨i + 1, .less rfl rfl rfl (by simp) (by simp), by dsimp only; omega, by dsimp only; omega⟩
      · simp at h
        have h7 : IntKind.i64.wrap (s + 7) = s + 7 := W_in (by omega) (by omega)
        have hlast : t.length - 1 < t.length := by omega
        refine E.exit ?_
        refine E.seq ?_
        refine E.reg hr (by simp; rfl) ?_
        refine E.seq ?_
        refine E.reg hr (by simp [h7]; rfl) ?_
        refine E.seq ?_
        rcases later_ok hl ht hlast with ⟨m, hm, hs7, hml, hmg⟩ | ⟨e2, he2, hm, hbig⟩
        · refine E.reg hr (by simp [g48, hm, gTicks]; rfl) ?_
          refine E.seq ?_
          refine E.reg hr (by simp [hs7]; rfl) ?_
          refine E.cond (by rfl) (fun h => ?_) (fun h => ?_)
          rotate_left
          · simp at h
          refine E.seq ?_
          refine E.reg hr (by simp; rfl) ?_
          refine E.block ?_
          refine E.loop ?_
          refine EL.ind (fun i : Nat => { fr := [(4, .pointer (some ⟨12, 0, none⟩)), (5, .pointer (some ⟨13, 0, none⟩)), (7, .slice (some ⟨14, 0, some 0⟩) t.length 0), (124, .slice (some ⟨15, 0, some 0⟩) m.length 0), (125, iv m.length), (126, iv i)], sz := 265, H := (15, .ext (m.map iv) 3 1) :: (14, .ext (t.map iv) 3 1) :: H9' o c l (lin s f d p u e) ns, n := 16, marks := [], vs := vs9 }) (fun i => m.length - i) (fun i => i ≤ m.length) 0 (Leads.ren [11, 12, 13, 14, 16] rfl rfl rfl ⟨rfl, rfl⟩ (by simp) (by simp)) (Nat.zero_le _) (fun _ => rfl) ?_
          intro i hi
          have hw : IntKind.i64.wrap ((i : Int) + 1) = (i : Int) + 1 := W_in (by omega) (by omega)
          refine E.seq ?_
          refine E.reg hr (by simp; rfl) ?_
          refine E.seq ?_
          refine E.cond (by rfl) (fun h => ?_) (fun h => ?_)
          · simp at h
            have hit : i < t.length := by omega
            have hti := htg i hit
            have hmi := hmg i h hit
            have hw7 : IntKind.i64.wrap (t[i] + 7) = t[i] + 7 := W_in (by
              obtain ⟨r1, _⟩ := reach_facts (i := (i : Int)) hs hf hd hu he (by omega)
              omega) (by omega)
            have hnlt : ¬ t.length ≤ i := by omega
            refine E.skip ?_
            refine E.seq ?_
            refine E.block ?_
            refine E.seq ?_
            refine E.reg hr (by simp [h, hmi]; rfl) ?_
            refine E.seq ?_
            refine E.reg hr (by simp [hit, hnlt, hw7]; rfl) ?_
            refine E.cond (by rfl) (fun h => ?_) (fun h => ?_)
            · simp at h
            refine E.skip ?_
            refine E.reg hr (by simp [hw]; rfl) ?_
            exact ⟨i + 1, .less rfl rfl rfl (by simp) (by simp), by dsimp only; omega, by dsimp only; omega⟩
          · refine E.exit ?_
            exact Leads.ren [11, 12, 13] rfl rfl rfl ⟨rfl, rfl⟩ (by simp) (by simp)
        · refine E.reg hr (by simp [g48, hm, gTicks]; rfl) ?_
          refine E.seq ?_
          refine E.regL hr { fr := [(123, .bool false), (4, .pointer (some ⟨12, 0, none⟩)), (5, .pointer (some ⟨13, 0, none⟩)), (7, .slice (some ⟨14, 0, some 0⟩) t.length 0)], sz := 265, H := (14, .ext (t.map iv) 3 1) :: H9' o c l (lin s f d p u e) ns, n := 16, marks := [], vs := vs9 } ?_ ?_
          · by_cases hs7 : s + 7 ≤ 100000
            · refine ⟨_, by simp [hs7]; rfl, ?_⟩
              exact .less rfl rfl rfl (by simp [he2]) (by simp)
            · refine ⟨_, by simp [hs7, undefV]; rfl, ?_⟩
              exact .less rfl rfl rfl (by simp) (by simp)
          refine E.cond (by rfl) (fun h => ?_) (fun h => ?_)
          · simp at h
          have hwl : IntKind.i64.wrap ((t.length : Int) - 1) = ((t.length - 1 : Nat) : Int) := by rw [W_in (by omega) (by omega)]; omega
          obtain ⟨q1, q2⟩ := htg _ hlast
          have hw7 : IntKind.i64.wrap (t[t.length - 1] + 7) = t[t.length - 1] + 7 := W_in (by
              obtain ⟨r1, _⟩ := reach_facts (i := ((t.length - 1 : Nat) : Int)) hs hf hd hu he (by omega)
              omega) (by omega)
          have hnb : ¬ t[t.length - 1] + 7 ≤ 100000 := by omega
          refine E.seq ?_
          refine E.reg hr (by simp [hwl, hlast, hw7, hnb]; rfl) ?_
          refine E.cond (by rfl) (fun h => ?_) (fun h => ?_)
          · simp at h
          refine E.skip ?_
          exact Leads.ren [11, 12, 13] rfl rfl rfl ⟨rfl, rfl⟩ (by simp) (by simp)
  have hwL : IntKind.i64.wrap ((l.length : Int) - 1) = (l.length : Int) - 1 := W_in (by omega) (by omega)
  refine E.seq ?_
  refine E.reg hr (by simp; rfl) ?_
  refine E.seq ?_
  refine E.seq ?_
  refine E.reg hr (by simp [hwL]; rfl) ?_
  refine E.block ?_
  refine E.loop ?_
  refine EL.ind (S9t o c l (lin s f d p u e) ns) (fun x => x.1) (G9t l ns) (l.length, none) (.less rfl rfl rfl (by simp [S9t]) (by simp [S9t])) rfl (fun x => by obtain ⟨i, _ | w⟩ := x <;> rfl) ?_
  intro ⟨i, w⟩ hgood
  rcases w with _ | ts
  · have hi : i = l.length := hgood
    obtain ⟨k, rfl⟩ : ∃ k, i = k + 1 := ⟨i - 1, by omega⟩
    have hk : k < l.length := by omega
    have hk8 : k < ns.length := by omega
    have hkI : (k : Int) < 8 := by omega
    have hnk := hns ns[k] (List.getElem_mem hk8)
    have hwn : IntKind.i64.wrap ns[k] = ns[k] := W_in (by omega) (by omega)
    have htk : ns[k].tmod 17 = tickN ns k := by unfold tickN; rw [List.getElem?_eq_getElem hk8]; rfl
    have hna : nameAt l k = l[k].name := by unfold nameAt; rw [List.getElem?_eq_getElem hk]
    have hwk : IntKind.i64.wrap ((k : Int) - 1) = (k : Int) - 1 := W_in (by omega) (by omega)
    refine E.seq ?_
    refine E.seq ?_
    refine E.reg hr (by simp [S9t]; rfl) ?_
    refine E.cond (by rfl) (fun h => ?_) (fun h => ?_)
    rotate_left
    · simp at h
    refine E.skip ?_
    refine E.seq ?_
    refine E.block ?_
    refine E.drawC mixed hr [13, 14] [13, 14] [2, 6, 9, 10, 13, 14] (by kernel_rfl) (by simp [hk, hk8, hkI, gcs_nameE hk, opConvert, cv53, hwn, bin_rem, htk, build119]; rfl) ?_
    refine E.reg hr (by simp [hwk]; rfl) ?_
    refine ⟨(k, some [timAt l ns k]), Leads.ren [11, 12, 13, 15] rfl rfl rfl ⟨rfl, rfl⟩ (by simp [S9t]) (by simp [S9t, tcs, Tim.cells, timAt, hna]), ⟨hk, ?_⟩, by dsimp only; omega⟩
    rw [timD_snoc hk, show l.length - (k + 1) = 0 by omega]
    rfl
  obtain ⟨hi, hts⟩ := hgood
  have htl : ts.length = l.length - i := by rw [hts]; simp [timD]
  rcases i with _ | k
  rotate_left
  · have hk : k < l.length := by omega
    have hk8 : k < ns.length := by omega
    have hkI : (k : Int) < 8 := by omega
    have hnk := hns ns[k] (List.getElem_mem hk8)
    have hwn : IntKind.i64.wrap ns[k] = ns[k] := W_in (by omega) (by omega)
    have htk : ns[k].tmod 17 = tickN ns k := by unfold tickN; rw [List.getElem?_eq_getElem hk8]; rfl
    have hna : nameAt l k = l[k].name := by unfold nameAt; rw [List.getElem?_eq_getElem hk]
    have hwk : IntKind.i64.wrap ((k : Int) - 1) = (k : Int) - 1 := W_in (by omega) (by omega)
    have ht2 : List.take (ts.length * 2) (tcs ts) = tcs ts := List.take_of_length_le (by simp)
    have hno : ¬ (ts.length + 1) * 2 ≤ ts.length * 2 := by omega
    have hsm : (ts.length + 1) * 24 ≤ 1099511627776 ∧ ts.length + 1 ≤ 1099511627776 := by omega
    refine E.seq ?_
    refine E.seq ?_
    refine E.reg hr (by simp [S9t]; rfl) ?_
    refine E.cond (by rfl) (fun h => ?_) (fun h => ?_)
    rotate_left
    · simp at h
    refine E.skip ?_
    refine E.seq ?_
    refine E.block ?_
    refine E.drawC mixed hr [13, 14] [13, 14] [2, 6, 9, 10, 13, 14] (by kernel_rfl) (by simp [hk, hk8, hkI, gcs_nameE hk, opConvert, cv53, hwn, bin_rem, htk, build119, ht2, hsm, hno]; rfl) ?_
    refine E.reg hr (by simp [hwk]; rfl) ?_
    refine ⟨(k, some (ts ++ [timAt l ns k])), Leads.ren [11, 12, 13, 16] rfl rfl rfl ⟨rfl, rfl⟩ (by simp [S9t]) (by simp [S9t, tcs_snoc, timAt, hna]), ⟨hk, ?_⟩, by dsimp only; omega⟩
    rw [timD_snoc hk, ← hts]
  have h78 : 7 < ns.length := by omega
  have hn7 := hns ns[7] (List.getElem_mem h78)
  have hw7 : IntKind.i64.wrap ns[7] = ns[7] := W_in (by omega) (by omega)
  have ht7 : ns[7].tmod 17 = tickN ns 7 := by unfold tickN; rw [List.getElem?_eq_getElem h78]; rfl
  refine E.seq ?_
  refine E.seq ?_
  refine E.reg hr (by simp [S9t]; rfl) ?_
  refine E.cond (by rfl) (fun h => ?_) (fun h => ?_)
  · simp at h
  refine E.exit ?_
  refine E.seq ?_
  refine E.reg hr (by simp [h78, opConvert, cv53, hw7, bin_rem, ht7]; rfl) ?_
  have hl0 : l.length - 0 = l.length := rfl
  rw [hl0] at hts htl
  have hne : l ≠ [] := fun h => by subst h; simp at h1
  have h4096 : l.length ≤ 4096 := by omega
  have ht2 : List.take (ts.length * 2) (tcs ts) = tcs ts := List.take_of_length_le (by simp)
  have htn : ts.length ≠ 0 := by omega
  have htn2 : ts.length * 2 ≠ 0 := by omega
  have htn1 : ¬ ts.length ≤ 0 := by omega
  have hsm : ts.length * 24 ≤ 1099511627776 ∧ ts.length ≤ 1099511627776 := by omega
  have hrow : ∀ (G : Heap) (b : Nat), hget G b = some (.ext (gcs l) 95 7) → rowGuns G b l.length = some l := fun G b hG => by
    unfold rowGuns rowOf
    rw [hG]
    simp [gunsOf_gcs, hl63]
  have htims : ∀ (G : Heap) (b : Nat), hget G b = some (.ext (tcs ts) 119 2) → timsAt G ⟨b, 0, some 0⟩ ts.length = some ts := fun G b hG => by
    unfold timsAt
    simp [hG, ht2, timsOf_tcs, show ts.length < 9223372036854775808 by omega]
  have hmis := misR_down hst hns
  have hret := retR_down hst hns
  rw [← hts] at hmis hret
  have hkl := retV_length l (tickN ns)
  generalize hK : retV l (rl (tickN ns) l.length) = K at hret hkl
  have hKg : ∀ i (hi : i < l.length) (h : i < K.length), K[i] = { l[i] with d := tickN ns i } := fun i hi h => by subst hK; exact retV_get _ hi h
  have hlate := fun i (hi : i < l.length) => late_mem hst hns (tickN ns 7) hi
  have hlb := tickN_bounds hns 7
  generalize hW : missN l (rl (tickN ns) l.length) (tickN ns 7) l.length = W at hmis hlate
  have hWl : W.length ≤ l.length := hW ▸ missN_len _ _ _ _
  refine E.seq ?_
  rcases Classical.em (W = []) with hW0 | hW0
  · refine E.reg hr (by simp [strAt, hat, g21, hne, h4096, ht2, htn1, htn2, hsm, g58, hrow, htims, hmis, gMis, hW0]; rfl) ?_
    refine E.seq ?_
    refine E.reg hr (by simp [strAt, hat, g21, hne, h4096, ht2, htn1, htn2, hsm, g60, hrow, htims, hret, gRet]; rfl) ?_
    refine E.seq ?_
    refine E.seq ?_
    refine E.reg hr (by simp [hkl]; rfl) ?_
    refine E.cond (by rfl) (fun h => ?_) (fun h => ?_)
    · simp at h
    refine E.skip ?_
    refine E.seq ?_
    refine E.seq ?_
    refine E.reg hr (by simp; rfl) ?_
    refine E.block ?_
    refine E.loop ?_
    refine EL.ind (fun i : Nat => { fr := [(4, .pointer (some ⟨12, 0, none⟩)), (5, .pointer (some ⟨13, 0, none⟩)), (19, iv (tickN ns 7)), (20, .slice none 0 0), (22, .pointer (some ⟨15, 0, none⟩)), (215, .slice (some ⟨10, o, none⟩) l.length c), (216, iv l.length), (217, iv i)], sz := 265, H := (15, .cells [.slice (some ⟨14, 0, none⟩) K.length K.length] 32) :: (14, .cells (gcs K) 95) :: H9' o c l (lin s f d p u e) ns, n := 16, marks := [], vs := vs9 }) (fun i => l.length - i) (fun i => i ≤ l.length) 0 (Leads.ren [11, 12, 13, 21, 22] rfl rfl rfl ⟨rfl, rfl⟩ (by simp) (by simp [hkl])) (Nat.zero_le _) (fun _ => rfl) ?_
    intro i hi
    refine E.seq ?_
    refine E.reg hr (by simp; rfl) ?_
    refine E.seq ?_
    refine E.cond (by rfl) (fun h => ?_) (fun h => ?_)
    · simp at h
      have hw : IntKind.i64.wrap ((i : Int) + 1) = (i : Int) + 1 := W_in (by omega) (by omega)
      have hi8 : i < ns.length := by omega
      have hiI : (i : Int) < 8 := by omega
      have hiK : i < K.length := by omega
      have h7 : i * 7 + 7 ≤ l.length * 7 := by omega
      have h7K : i * 7 + 4 < K.length * 7 := by omega
      have hni := hns ns[i] (List.getElem_mem hi8)
      have hwn : IntKind.i64.wrap ns[i] = ns[i] := W_in (by omega) (by omega)
      have hti : ns[i].tmod 17 = tickN ns i := by unfold tickN; rw [List.getElem?_eq_getElem hi8]; rfl
      have hKi := hKg i h hiK
      have hKn : K[i].name = l[i].name := by rw [hKi]
      have hKd : K[i].d = tickN ns i := by rw [hKi]
      have hgd := gun_d hst h
      have hgt := tickN_bounds hns i
      have hw1 : IntKind.i64.wrap (tickN ns i - l[i].d) = tickN ns i - l[i].d := W_in (by omega) (by omega)
      have hw2 : IntKind.i64.wrap (l[i].d - tickN ns i) = l[i].d - tickN ns i := W_in (by omega) (by omega)
      have hmw : ¬ tickN ns 7 < max (tickN ns i - l[i].d) (l[i].d - tickN ns i) := by
        have := hlate i h
        rw [hW0] at this
        simpa [hasW] using this
      refine E.skip ?_
      refine E.seq ?_
      refine E.block ?_
      refine E.seq ?_
      refine E.reg hr (by simp [h, h7, gcs_take h]; rfl) ?_
      refine E.seq ?_
      refine E.reg hr (by simp [hiK, h7K, gcs_dE hiK, hKd]; rfl) ?_
      refine E.seq ?_
      refine E.drawC mixed hr [] [33] [1, 5, 7, 13, 14, 21, 24, 32, 33] (by kernel_rfl) (by simp [hiK, hi8, hiI, gcs_nameE hiK, hKn, opConvert, cv53, hwn, bin_rem, hti, hw1, hw2, max33, g67, hmw]; rfl) ?_
      refine E.cond (by rfl) (fun h => ?_) (fun h => ?_)
      · simp at h
      refine E.skip ?_
      refine E.reg hr (by simp [hw]; rfl) ?_
      exact ⟨i + 1, Leads.ren [11, 12, 13, 14, 15] rfl rfl rfl ⟨rfl, rfl⟩ (by simp) (by simp), by dsimp only; omega, by dsimp only; omega⟩
    · refine E.exit ?_
      refine E.seq ?_
      refine E.reg hr (by simp; rfl) ?_
      refine E.ret ?_
      exact pureK.ret rfl rfl (by simp) (by repeat first | exact sub_refl _ | refine sub_cons rfl ?_)
  · refine E.reg hr (by simp [strAt, hat, g21, hne, h4096, ht2, htn1, htn2, hsm, g58, hrow, htims, hmis, gMis, hW0]; rfl) ?_
    refine E.seq ?_
    refine E.reg hr (by simp [strAt, hat, g21, hne, h4096, ht2, htn1, htn2, hsm, g60, hrow, htims, hret, gRet]; rfl) ?_
    refine E.seq ?_
    refine E.seq ?_
    refine E.reg hr (by simp [hkl]; rfl) ?_
    refine E.cond (by rfl) (fun h => ?_) (fun h => ?_)
    · simp at h
    refine E.skip ?_
    refine E.seq ?_
    refine E.seq ?_
    refine E.reg hr (by simp; rfl) ?_
    refine E.block ?_
    refine E.loop ?_
    refine EL.ind (fun i : Nat => { fr := [(4, .pointer (some ⟨12, 0, none⟩)), (5, .pointer (some ⟨13, 0, none⟩)), (19, iv (tickN ns 7)), (20, .slice (some ⟨14, 0, some 0⟩) W.length 0), (22, .pointer (some ⟨16, 0, none⟩)), (215, .slice (some ⟨10, o, none⟩) l.length c), (216, iv l.length), (217, iv i)], sz := 265, H := (16, .cells [.slice (some ⟨15, 0, none⟩) K.length K.length] 32) :: (15, .cells (gcs K) 95) :: (14, .ext (W.map sv) 9 1) :: H9' o c l (lin s f d p u e) ns, n := 17, marks := [], vs := vs9 }) (fun i => l.length - i) (fun i => i ≤ l.length) 0 (Leads.ren [11, 12, 13, 18, 22, 23] rfl rfl rfl ⟨rfl, rfl⟩ (by simp) (by simp [hkl])) (Nat.zero_le _) (fun _ => rfl) ?_
    intro i hi
    refine E.seq ?_
    refine E.reg hr (by simp; rfl) ?_
    refine E.seq ?_
    refine E.cond (by rfl) (fun h => ?_) (fun h => ?_)
    · simp at h
      have hw : IntKind.i64.wrap ((i : Int) + 1) = (i : Int) + 1 := W_in (by omega) (by omega)
      have hi8 : i < ns.length := by omega
      have hiI : (i : Int) < 8 := by omega
      have hiK : i < K.length := by omega
      have h7 : i * 7 + 7 ≤ l.length * 7 := by omega
      have h7K : i * 7 + 4 < K.length * 7 := by omega
      have hni := hns ns[i] (List.getElem_mem hi8)
      have hwn : IntKind.i64.wrap ns[i] = ns[i] := W_in (by omega) (by omega)
      have hti : ns[i].tmod 17 = tickN ns i := by unfold tickN; rw [List.getElem?_eq_getElem hi8]; rfl
      have hKi := hKg i h hiK
      have hKn : K[i].name = l[i].name := by rw [hKi]
      have hKd : K[i].d = tickN ns i := by rw [hKi]
      have hgd := gun_d hst h
      have hgt := tickN_bounds hns i
      have hw1 : IntKind.i64.wrap (tickN ns i - l[i].d) = tickN ns i - l[i].d := W_in (by omega) (by omega)
      have hw2 : IntKind.i64.wrap (l[i].d - tickN ns i) = l[i].d - tickN ns i := W_in (by omega) (by omega)
      have hsat : ∀ X Y Z A B C D E F : Blk, strsAt [(17, X), (16, Y), (15, Z), (14, .row (W.map sv) 1), (13, A), (12, B), (11, C), (10, D), (3, E), (0, F)] ⟨14, 0, some 0⟩ W.length = some W := fun X Y Z A B C D E F => by
        unfold strsAt
        simp [List.take_of_length_le, strsOf_sv, show W.length < 2147483648 by omega]
      have hmw := hlate i h
      refine E.skip ?_
      refine E.seq ?_
      refine E.block ?_
      refine E.seq ?_
      refine E.reg hr (by simp [h, h7, gcs_take h]; rfl) ?_
      refine E.seq ?_
      refine E.reg hr (by simp [hiK, h7K, gcs_dE hiK, hKd]; rfl) ?_
      refine E.seq ?_
      refine E.drawC mixed hr [] [33] [1, 5, 7, 13, 14, 21, 24, 32, 33] (by kernel_rfl) (by simp [hiK, hi8, hiI, gcs_nameE hiK, hKn, opConvert, cv53, hwn, bin_rem, hti, hw1, hw2, max33, g67, hmw, hsat]; rfl) ?_
      refine E.cond (by rfl) (fun h => ?_) (fun h => ?_)
      · simp at h
      refine E.skip ?_
      refine E.reg hr (by simp [hw]; rfl) ?_
      exact ⟨i + 1, Leads.ren [11, 12, 13, 14, 15, 16] rfl rfl rfl ⟨rfl, rfl⟩ (by simp) (by simp), by dsimp only; omega, by dsimp only; omega⟩
    · refine E.exit ?_
      refine E.seq ?_
      refine E.reg hr (by simp; rfl) ?_
      refine E.ret ?_
      exact pureK.ret rfl rfl (by simp) (by repeat first | exact sub_refl _ | refine sub_cons rfl ?_)
set_option maxRecDepth 100000 in
theorem w9n (s f d p u e : Int) (ns : List Int) : AC Tryz.prog 9 [.agg ⟨lin s f d p u e⟩, nilV, .agg ⟨ns.map bv⟩] G0 10 (.bool true) G0 10 := by
  have hr := recT_ok (P := Tryz.prog) (l := [(18, g18), (52, gStr fun l => .bool (validB l))]) (by simp only [List.forall_mem_cons]; exact ⟨ok18, ok52, by simp⟩)
  refine AC.pure Tryz.func9 rfl (by kernel_rfl) rfl vs9 rfl ?_
  refine E.seq ?_
  refine E.reg hr (by simp; rfl) ?_
  refine E.seq ?_
  refine E.seq ?_
  refine E.reg hr (by simp [g18, gStr, strAt, validB, strE, undefV]; rfl) ?_
  refine E.cond (by rfl) (fun h => ?_) (fun h => ?_)
  · refine E.seq ?_
    refine E.reg hr (by simp [g18]; rfl) ?_
    refine E.ret ?_
    exact pureK.ret rfl rfl (by simp) (by repeat first | exact sub_refl _ | refine sub_cons rfl ?_)
  · simp at h
end Go.Proofs.YtndlfijfjglkdaaGreatDoor
