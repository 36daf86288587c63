/-
The program's enclosure walked: guns ranged over backwards, a list of lists built (each under the conditions in its statement).
-/
import Derived.Test.YtndlfijfjglkdaaGreatDoorGs
import Derived.Test.YtndlfijfjglkdaaGreatDoorGm
namespace Go.Proofs.YtndlfijfjglkdaaGreatDoor
open Go Go.Ab Go.Proofs
abbrev nilS : Value := .slice none 0 0
def nils (n : Nat) : List Value := List.replicate n nilS
@[simp] theorem nils_length (n : Nat) : (nils n).length = n := by simp [nils]
@[simp] theorem afL_nils (n : Nat) : afL (nils n) = true := by
  induction n with
  | zero => rfl
  | succ n ih => unfold nils at ih ⊢; rw [List.replicate_succ]; simp [ih]
@[simp] theorem renL_nils (ρ : Nat → Nat) (n : Nat) : renL ρ (nils n) = nils n := by
  rw [renL_eq]
  simp [nils, nilS, ren]
@[simp] theorem scL_nils (p : Nat → Prop) (n : Nat) : scL p (nils n) := scL_af p _ (afL_nils n)
@[simp] theorem nspL_nils (b n : Nat) : nspL b (nils n) := nspL_af b _ (afL_nils n)
theorem nils_succ (n : Nat) : nils (n + 1) = nils n ++ [nilS] := by simp [nils, List.replicate_succ']
theorem nils_drop (n : Nat) (x : Value) : List.drop (n + 1) (nils n ++ [x]) = [] := List.drop_of_length_le (by simp)
@[simp] theorem nspL_append (b : Nat) (x y : List Value) : nspL b (x ++ y) = (nspL b x ∧ nspL b y) := by
  simp only [nspL_iff, List.mem_append, eq_iff_iff]
  exact ⟨fun h => ⟨fun v hv => h v (.inl hv), fun v hv => h v (.inr hv)⟩, fun h v hv => hv.elim (h.1 v) (h.2 v)⟩
theorem E.toATc {P : Program} {ro : Option Nat} {c : Code} {s s' : St} {e : Ex} (h : E P s.n ro c s fun e2 s2 => e2 = e ∧ s2.n = s'.n ∧ s2.sz = s'.sz ∧ s2.marks = s'.marks ∧ (∀ x ∈ s'.fr, lk s2.fr x.1 = some x.2) ∧ ∀ x ∈ s'.H, hget s2.H x.1 = some x.2) : AT P ro c s e s' := by
  obtain ⟨e2, s2, hx, rfl, h1, h2, h3, h4, h5⟩ := h
  exact (ATX.at hx).cut h1 h2 h3 (fun t v hv => h4 (t, v) (lk_mem _ _ _ hv)) (fun k b hk => h5 (k, b) (hget_mem _ _ _ hk))
noncomputable def asg135 : Code := match rfOf (bodyOf' Tryz.f135) with
  | some x => x.1
  | none => .skip
noncomputable def bdy135 : Code := match rfOf (bodyOf' Tryz.f135) with
  | some x => x.2
  | none => .skip
abbrev encR (l : List Gun) (d : ByteArray) (r i : Nat) : Int × Int := encT l d i r
abbrev fn237 : Value := .func (.func 237) #[] #[.pointer (some ⟨19, 0, none⟩)]
abbrev fr135 : Fr := [(31, fn237), (5, .pointer (some ⟨13, 0, none⟩)), (7, .pointer (some ⟨15, 0, none⟩)), (8, .pointer (some ⟨17, 0, none⟩))]
abbrev vs135 : List Nat := [5, 7, 8, 9, 11, 45, 46, 47]
noncomputable abbrev B135 (ls : LoopState) (l : List Gun) (d : ByteArray) (W : Nat) (os : List Value) : Heap := [(21, .loop ls none fr135 80 vs135 #[32, 33] asg135 bdy135 20), (20, .defd), (19, .cells [.slice (some ⟨10, 0, some 0⟩) l.length 0] 30), (18, .cells (pcs (rl (encR l d 0) W)) 92), (17, .cells [.slice (some ⟨16, 0, none⟩) (l.length + 1) (l.length + 1)] 201), (16, .ext os 64 1), (15, .cells [.slice (some ⟨14, 0, some 0⟩) (arrL d l).length 0] 45), (14, .ext ((arrL d l).map iv) 3 1), (13, .cells [iv W] 3), (10, .row (gcs l) 7)]
noncomputable def r135 (s1 s2 : St) : Rec := recV Tryz.prog (fun _ c _ => match c with
  | .seq _ _ => some (.normal, s1)
  | .block _ _ => some (.normal, s2)
  | _ => none) (fun _ _ _ _ => none)
theorem fr135_sc {m : Nat} (h : 20 ≤ m) : ∀ x ∈ fr135, sc (· < m) x.2 := by
  intro x hx
  simp only [fr135, List.mem_cons, List.not_mem_nil, or_false] at hx
  rcases hx with rfl | rfl | rfl | rfl <;> simp [sc, scL] <;> omega
@[simp high] theorem held135 {m : Nat} {ls : LoopState} {a b : Code} (h : 20 < m) : heldB m (.loop ls none fr135 80 vs135 #[32, 33] a b 20) = True := eq_true ⟨h, fr135_sc (by omega)⟩
@[simp] theorem scB_cells (p : Nat → Prop) (cs : List Value) (t : TypeId) : scB p (.cells cs t) = scL p cs := rfl
@[simp] theorem scB_ext (p : Nat → Prop) (cs : List Value) (t : TypeId) (sz : Nat) : scB p (.ext cs t sz) = scL p cs := rfl
@[simp] theorem scB_inp (p : Nat → Prop) (o : Nat) (cs : List Value) : scB p (.inp o cs) = scL p cs := rfl
@[simp] theorem scB_row (p : Nat → Prop) (cs : List Value) (sz : Nat) : scB p (.row cs sz) = scL p cs := rfl
@[simp] theorem scB_defd (p : Nat → Prop) : scB p .defd = True := rfl
@[simp] theorem scB_loop {p : Nat → Prop} {ls : LoopState} {pe : Option Code} {fr : Fr} {sz d : Nat} {vs : List Nat} {ps : Array Tmp} {a b : Code} (h1 : p d) (h2 : ∀ x ∈ fr, sc p x.2) : scB p (.loop ls pe fr sz vs ps a b d) = True := eq_true ⟨h1, fun t v hv => h2 (t, v) (lk_mem _ _ _ hv)⟩
@[simp] theorem heldB_cells (m : Nat) (cs : List Value) (t : TypeId) : heldB m (.cells cs t) = True := rfl
@[simp] theorem heldB_ext (m : Nat) (cs : List Value) (t : TypeId) (sz : Nat) : heldB m (.ext cs t sz) = True := rfl
@[simp] theorem heldB_inp (m o : Nat) (cs : List Value) : heldB m (.inp o cs) = True := rfl
@[simp] theorem heldB_row (m : Nat) (cs : List Value) (sz : Nat) : heldB m (.row cs sz) = True := rfl
@[simp] theorem heldB_defd (m : Nat) : heldB m .defd = True := rfl
noncomputable abbrev baseA (ls : LoopState) (l : List Gun) (d : ByteArray) (W : Nat) (os : List Value) : Heap := B135 ls l d W os
abbrev slA (W : Nat) : Value := .slice (some ⟨18, 0, none⟩) W W
/-- within the round: so many indices are done -/
noncomputable def NA (l : List Gun) (d : ByteArray) (W : Nat) (SP : List (Int × Int)) (i : Nat) : Nat → St
  | 0 => { fr := [(5, .pointer (some ⟨13, 0, none⟩)), (7, .pointer (some ⟨15, 0, none⟩)), (8, .pointer (some ⟨17, 0, none⟩)), (9, iv i), (11, slA W), (45, .slice (some ⟨23, 0, some 0⟩) W 0), (46, iv W), (47, iv 0)], sz := 80, H := (23, .ext (pcs SP) 92 2) :: baseA .busy l d W (nils i ++ [nilS]), n := 24, marks := [], vs := vs135 }
  | k + 1 => { fr := [(5, .pointer (some ⟨13, 0, none⟩)), (7, .pointer (some ⟨15, 0, none⟩)), (8, .pointer (some ⟨17, 0, none⟩)), (9, iv i), (11, slA W), (45, .slice (some ⟨23, 0, some 0⟩) W 0), (46, iv W), (47, iv (k + 1 : Nat))], sz := 80, H := (24, .ext (pcs (rl (encR l d (1)) (k + 1))) 92 2) :: (23, .ext (pcs SP) 92 2) :: baseA .busy l d W (nils i ++ [.slice (some ⟨24, 0, some 0⟩) (k + 1) 0]), n := 25, marks := [], vs := vs135 }
set_option maxRecDepth 100000 in
theorem yield135A (l : List Gun) (d : ByteArray) (W : Nat) (i : Nat) (hst : strE l = 0) (hW : 1 ≤ W ∧ W ≤ 64) (hi : i + 1 + 0 = l.length) :
    ∃ q, RecOk Tryz.prog q 0 ∧ yieldF q 21 [iv i, .agg ⟨(l[i]'(by omega)).cells⟩] (baseA .ready l d W (nils i ++ [nilS, slA W])) 22 = some (.bool true, (24, .ext (pcs (rl (encR l d (1)) W)) 92 2) :: B135 .ready l d W (nils i ++ [.slice (some ⟨24, 0, some 0⟩) W 0]), 25) := by
  have hr := recT_ok (P := Tryz.prog) (l := [(197, g197)]) (by simp only [List.forall_mem_cons]; exact ⟨ok197, by simp⟩)
  obtain ⟨h1, h8⟩ := strE_len hst
  have hil : i < l.length := by omega
  obtain ⟨g, hg⟩ : ∃ g, g = l[i] := ⟨_, rfl⟩
  rw [← hg]
  have hgm : g ∈ l := hg ▸ List.getElem_mem hil
  obtain ⟨hvb, _, _, _, hlo, hhi⟩ := gun_nums hst g hgm
  have hor := gun_order hst g hgm
  have hka : i < (arrL d l).length := by rw [arrL_length]; omega
  have hkaI : (i : Int) < (arrL d l).length := by omega
  have hab := arrL_bounds hst d _ (List.getElem_mem hka)
  obtain ⟨b, hbb⟩ : ∃ b, b = (arrL d l)[i] := ⟨_, rfl⟩
  rw [← hbb] at hab
  have hb1 := hab.1
  have hb2 : b ≤ 4096 := by omega
  obtain ⟨SP, hSP⟩ : ∃ SP, SP = prL g.v b g.lo W (g.hi - g.lo).toNat := ⟨_, rfl⟩
  have hSPl : SP.length = W := by rw [hSP]; simp
  have hSPg : ∀ k (h : k < SP.length), SP[k] = (gMn g (k - b), gMx g (k - b)) := fun k h => by
    have : SP = _ := hSP.trans (prL_gM hvb ⟨hb1, hb2⟩ hlo.1 hhi.2 hor)
    subst this
    rw [rl_getElem]
  have hW1 : 1 ≤ (W : Int) := by omega
  have hW2 : (W : Int) ≤ 64 := by omega
  have hv1 := hvb.1
  have hv2 := hvb.2
  have hlo0 := hlo.1
  have hhi4 := hhi.2
  have hwi : IntKind.i64.wrap ((i : Int) + 1) = (i : Int) + 1 := W_in (by omega) (by omega)
  have hi0 : (i : Int) < l.length + 1 := by omega
  have hi1 : (i : Int) + 1 < l.length + 1 := by omega
  let s1 : St := { fr := [(5, .pointer (some ⟨13, 0, none⟩)), (7, .pointer (some ⟨15, 0, none⟩)), (8, .pointer (some ⟨17, 0, none⟩)), (9, iv i), (10, .pointer (some ⟨22, 0, none⟩))], sz := 80, H := (22, .cells g.cells 95) :: baseA .ready l d W (nils i ++ [nilS, slA W]), n := 23, marks := [], vs := vs135 }
  let s2 : St := { fr := [], sz := 80, H := (24, .ext (pcs (rl (encR l d (1)) W)) 92 2) :: B135 .busy l d W (nils i ++ [.slice (some ⟨24, 0, some 0⟩) W 0]), n := 25, marks := [], vs := [] }
  refine ⟨r135 s1 s2, recV_ok, ?_⟩
  have hA : AT Tryz.prog (some 21) asg135 { fr := (33, .agg ⟨g.cells⟩) :: (32, iv i) :: fr135, sz := 80, H := baseA .ready l d W (nils i ++ [nilS, slA W]), n := 22, marks := [], vs := vs135 } .normal s1 := by
    refine E.toATc ?_
    refine E.seq ?_
    refine E.reg hr (by simp; rfl) ?_
    refine E.reg hr (by simp; rfl) ?_
    exact ⟨rfl, rfl, rfl, rfl, by simp [s1], by simp [s1]⟩
  have hB : AT Tryz.prog (some 21) bdy135 { s1 with H := (22, .cells g.cells 95) :: baseA .busy l d W (nils i ++ [nilS, slA W]) } .normal s2 := by
    refine E.toATc ?_
    refine E.block ?_
    refine E.seq ?_
    refine E.reg hr (by simp [s1, hwi, hi1]; rfl) ?_
    refine E.seq ?_
    refine E.drawC mixed hr [6] [6] [0, 1, 4, 5, 6] (by kernel_rfl) (by simp [hka, hkaI, ← hbb, g197, hv1, hv2, hb1, hb2, hlo0, hhi4, hor, hW1, hW2, ← hSP]; rfl) ?_
    refine E.block ?_
    refine E.loop ?_
    refine EL.ind (NA l d W SP i) (fun k => W - k) (fun k => k ≤ W) 0 (Leads.short 16 (nils i ++ [nilS]) [slA W] 64 1 (by simp) rfl rfl rfl (by simp [NA]) (by simp [NA])) (Nat.zero_le _) (fun k => by cases k <;> rfl) ?_
    intro k hk
    rcases k with _ | k
    · by_cases hkW : 0 < W
      rotate_left
      · omega
      have hts : pcs (rl (encR l d (1)) 1) = [iv (encR l d (1) 0).1, iv (encR l d (1) 0).2] := by rw [rl_succ, rl_zero, List.nil_append]; rfl
      have hw : IntKind.i64.wrap 1 = 1 := W_in (by omega) (by omega)
      have hkI : (0 : Int) < W := by omega
      have hks : 0 < SP.length := by omega
      have c1 : 1 < W * 2 := by omega
      have c2 : 2 ≤ W * 2 := by omega
      have hsm : (0 + 1) * 16 ≤ 1099511627776 ∧ (0 + 1) * 2 ≤ 1099511627776 ∧ 0 + 1 ≤ 1099511627776 := by omega
      have et := pcs_take hks
      rw [hSPg _ hks] at et
      rw [Nat.zero_mul, List.drop_zero] at et
      have hrk : 0 < (rl (encR l d 0) W).length := by simp; omega
      have e0 := pcs_0E hrk (by simp; omega)
      have e1 := pcs_1E hrk (by simp; omega)
      rw [rl_getElem] at e0 e1
      obtain ⟨y, hy⟩ : ∃ y, y = encR l d 0 0 := ⟨_, rfl⟩
      have hyb := encT_bd d hst (0 : Nat) 0 (by omega)
      rw [show encT l d ((0 : Nat) : Int) 0 = y from hy.symm] at hyb
      rw [← hy] at e0 e1
      simp only [Nat.zero_mul, Nat.zero_add] at e0 e1
      obtain ⟨x, hx⟩ : ∃ x : Int × Int, x = (gMn g (((0 : Nat) : Int) - b), gMx g (((0 : Nat) : Int) - b)) := ⟨_, rfl⟩
      rw [← hx] at et
      have hxb : (-256 ≤ x.1 ∧ x.1 ≤ 256) ∧ -256 ≤ x.2 ∧ x.2 ≤ 256 := by rw [hx]; exact ⟨gMn_bd hvb _, gMx_bd hvb _⟩
      have hsu : encR l d (1) 0 = (x.1 + y.1, x.2 + y.2) := by
        show encT l d ((0 : Nat) : Int) (1) = _
        rw [encT, show l.length - (1) = i by omega, gAt_at l hil, ← hg, getD_at hka, ← hbb, hx, hy]
      have q3 : IntKind.i64.wrap (x.1 + y.1) = x.1 + y.1 := W_in (by omega) (by omega)
      have q4 : IntKind.i64.wrap (x.2 + y.2) = x.2 + y.2 := W_in (by omega) (by omega)
      rw [hsu] at hts
      refine E.seq ?_
      refine E.reg hr (by simp [NA]; rfl) ?_
      refine E.seq ?_
      refine E.cond (by rfl) (fun h2 => ?_) (fun h2 => ?_)
      rotate_left
      · simp at h2
        omega
      clear h2
      refine E.skip ?_
      refine E.seq ?_
      refine E.block ?_
      refine E.seq ?_
      refine E.reg hr (by simp [hkW, hSPl, c2, et]; rfl) ?_
      refine E.drawC mixed hr [26] [23, 24, 26] [0, 2, 5, 7, 12, 15, 20, 23, 24, 26] (by kernel_rfl) (by simp [hi0, hkW, nils_drop, c1, e0, e1, q3, q4, build92, ]; rfl) ?_
      refine E.reg hr (by simp [hw]; rfl) ?_
      exact ⟨0 + 1, Leads.ren2 [23, 26] rfl rfl rfl ⟨rfl, rfl⟩ (by simp [NA, s1]) (by simp [NA, s1, hts, -scB]), by dsimp only; omega, by dsimp only; omega⟩
    · by_cases hkW : k + 1 < W
      rotate_left
      · obtain rfl : W = k + 1 := by omega
        refine E.seq ?_
        refine E.reg hr (by simp [NA]; rfl) ?_
        refine E.seq ?_
        refine E.cond (by rfl) (fun h2 => ?_) (fun h2 => ?_)
        · simp at h2
        refine E.exit ?_
        exact ⟨rfl, rfl, rfl, rfl, by simp [s2], by simp [s2]⟩
      have hpl : (pcs (rl (encR l d (1)) (k + 1))).length = (k + 1) * 2 := by simp
      have ht : List.take ((k + 1) * 2) (pcs (rl (encR l d (1)) (k + 1))) = pcs (rl (encR l d (1)) (k + 1)) := List.take_of_length_le (by omega)
      have hno : ¬ (k + 1 + 1) * 2 ≤ (k + 1) * 2 := by omega
      have hts : pcs (rl (encR l d (1)) (k + 1 + 1)) = pcs (rl (encR l d (1)) (k + 1)) ++ [iv (encR l d (1) (k + 1)).1, iv (encR l d (1) (k + 1)).2] := by rw [rl_succ, pcs_append]; rfl
      have hw : IntKind.i64.wrap ((k : Int) + 1 + 1) = (k : Int) + 1 + 1 := W_in (by omega) (by omega)
      have hkI : ((k : Int) + 1) < W := by omega
      have hks : k + 1 < SP.length := by omega
      have c0 : (k + 1) * 2 < W * 2 := by omega
      have c1 : (k + 1) * 2 + 1 < W * 2 := by omega
      have c2 : (k + 1) * 2 + 2 ≤ W * 2 := by omega
      have hsm : ((k + 1) + 1) * 16 ≤ 1099511627776 ∧ ((k + 1) + 1) * 2 ≤ 1099511627776 ∧ (k + 1) + 1 ≤ 1099511627776 := by omega
      have et := pcs_take hks
      rw [hSPg _ hks] at et
      have hrk : k + 1 < (rl (encR l d 0) W).length := by simp; omega
      have e0 := pcs_0E hrk (by simp; omega)
      have e1 := pcs_1E hrk (by simp; omega)
      rw [rl_getElem] at e0 e1
      obtain ⟨y, hy⟩ : ∃ y, y = encR l d 0 (k + 1) := ⟨_, rfl⟩
      have hyb := encT_bd d hst ((k + 1) : Nat) 0 (by omega)
      rw [show encT l d (((k + 1) : Nat) : Int) 0 = y from hy.symm] at hyb
      rw [← hy] at e0 e1
      obtain ⟨x, hx⟩ : ∃ x : Int × Int, x = (gMn g ((((k + 1) : Nat) : Int) - b), gMx g ((((k + 1) : Nat) : Int) - b)) := ⟨_, rfl⟩
      rw [← hx] at et
      have hxb : (-256 ≤ x.1 ∧ x.1 ≤ 256) ∧ -256 ≤ x.2 ∧ x.2 ≤ 256 := by rw [hx]; exact ⟨gMn_bd hvb _, gMx_bd hvb _⟩
      have hsu : encR l d (1) (k + 1) = (x.1 + y.1, x.2 + y.2) := by
        show encT l d (((k + 1) : Nat) : Int) (1) = _
        rw [encT, show l.length - (1) = i by omega, gAt_at l hil, ← hg, getD_at hka, ← hbb, hx, hy]
      have q3 : IntKind.i64.wrap (x.1 + y.1) = x.1 + y.1 := W_in (by omega) (by omega)
      have q4 : IntKind.i64.wrap (x.2 + y.2) = x.2 + y.2 := W_in (by omega) (by omega)
      rw [hsu] at hts
      refine E.seq ?_
      refine E.reg hr (by simp [NA]; rfl) ?_
      refine E.seq ?_
      refine E.cond (by rfl) (fun h2 => ?_) (fun h2 => ?_)
      rotate_left
      · simp at h2
        omega
      clear h2
      refine E.skip ?_
      refine E.seq ?_
      refine E.block ?_
      refine E.seq ?_
      refine E.reg hr (by simp [hkI, hSPl, c2, et]; rfl) ?_
      refine E.drawW mixed hr [26] [23, 24, 26] [0, 2, 5, 7, 12, 15, 20, 23, 24, 26] [0, 1] 24 (by kernel_rfl) (by simp [hi0, hkI, nils_drop, c0, c1, e0, e1, q3, q4, build92, ht, hpl, hno, hsm, ]; rfl) ?_
      refine E.reg hr (by simp [hw]; rfl) ?_
      exact ⟨k + 1 + 1, Leads.ren2 [23, 27] rfl rfl rfl ⟨rfl, rfl⟩ (by simp [NA, s1]) (by simp [NA, s1, hts, -scB]), by dsimp only; omega, by dsimp only; omega⟩
  have hh : hset s2.H 21 (.loop .ready none fr135 80 vs135 #[32, 33] asg135 bdy135 20) = (24, .ext (pcs (rl (encR l d (1)) W)) 92 2) :: B135 .ready l d W (nils i ++ [.slice (some ⟨24, 0, some 0⟩) W 0]) := by simp [s2]
  rw [← hh]
  refine yieldF_of (s1 := s1) (s2 := s2) (fr := fr135) (sz := 80) (vs := vs135) (ps := #[32, 33]) (a := asg135) (b := bdy135) (d := 20) (by simp) rfl ?_ (by simp [s1]) ?_ (by simp [s2])
  · exact recV_code (by intro b h; cases h) rfl hA
  · show (r135 s1 s2).code (some 21) bdy135 { s1 with H := hset s1.H 21 _ } = _
    rw [show hset s1.H 21 (.loop .busy none fr135 80 vs135 #[32, 33] asg135 bdy135 20) = (22, .cells g.cells 95) :: baseA .busy l d W (nils i ++ [nilS, slA W]) by simp [s1]]
    exact recV_code (by intro b h; cases h) rfl hB
end Go.Proofs.YtndlfijfjglkdaaGreatDoor

namespace Go.Proofs.YtndlfijfjglkdaaGreatDoor
open Go Go.Ab Go.Proofs
noncomputable abbrev baseB (ls : LoopState) (l : List Gun) (d : ByteArray) (W r : Nat) (os : List Value) : Heap := (22, .ext (pcs (rl (encR l d r) W)) 92 2) :: B135 ls l d W os
abbrev slB (W : Nat) : Value := .slice (some ⟨22, 0, some 0⟩) W 0
/-- within the round: so many indices are done -/
noncomputable def NB (l : List Gun) (d : ByteArray) (W r : Nat) (SP : List (Int × Int)) (i : Nat) : Nat → St
  | 0 => { fr := [(5, .pointer (some ⟨13, 0, none⟩)), (7, .pointer (some ⟨15, 0, none⟩)), (8, .pointer (some ⟨17, 0, none⟩)), (9, iv i), (11, slB W), (45, .slice (some ⟨24, 0, some 0⟩) W 0), (46, iv W), (47, iv 0)], sz := 80, H := (24, .ext (pcs SP) 92 2) :: baseB .busy l d W r (nils i ++ [nilS]), n := 25, marks := [], vs := vs135 }
  | k + 1 => { fr := [(5, .pointer (some ⟨13, 0, none⟩)), (7, .pointer (some ⟨15, 0, none⟩)), (8, .pointer (some ⟨17, 0, none⟩)), (9, iv i), (11, slB W), (45, .slice (some ⟨24, 0, some 0⟩) W 0), (46, iv W), (47, iv (k + 1 : Nat))], sz := 80, H := (25, .ext (pcs (rl (encR l d (r + 1)) (k + 1))) 92 2) :: (24, .ext (pcs SP) 92 2) :: baseB .busy l d W r (nils i ++ [.slice (some ⟨25, 0, some 0⟩) (k + 1) 0]), n := 26, marks := [], vs := vs135 }
set_option maxRecDepth 100000 in
theorem yield135B (l : List Gun) (d : ByteArray) (W : Nat) (r : Nat) (_hr0 : 1 ≤ r) (i : Nat) (hst : strE l = 0) (hW : 1 ≤ W ∧ W ≤ 64) (hi : i + 1 + r = l.length) :
    ∃ q, RecOk Tryz.prog q 0 ∧ yieldF q 21 [iv i, .agg ⟨(l[i]'(by omega)).cells⟩] (baseB .ready l d W r (nils i ++ [nilS, slB W])) 23 = some (.bool true, (25, .ext (pcs (rl (encR l d (r + 1)) W)) 92 2) :: B135 .ready l d W (nils i ++ [.slice (some ⟨25, 0, some 0⟩) W 0]), 26) := by
  have hr := recT_ok (P := Tryz.prog) (l := [(197, g197)]) (by simp only [List.forall_mem_cons]; exact ⟨ok197, by simp⟩)
  obtain ⟨h1, h8⟩ := strE_len hst
  have hil : i < l.length := by omega
  obtain ⟨g, hg⟩ : ∃ g, g = l[i] := ⟨_, rfl⟩
  rw [← hg]
  have hgm : g ∈ l := hg ▸ List.getElem_mem hil
  obtain ⟨hvb, _, _, _, hlo, hhi⟩ := gun_nums hst g hgm
  have hor := gun_order hst g hgm
  have hka : i < (arrL d l).length := by rw [arrL_length]; omega
  have hkaI : (i : Int) < (arrL d l).length := by omega
  have hab := arrL_bounds hst d _ (List.getElem_mem hka)
  obtain ⟨b, hbb⟩ : ∃ b, b = (arrL d l)[i] := ⟨_, rfl⟩
  rw [← hbb] at hab
  have hb1 := hab.1
  have hb2 : b ≤ 4096 := by omega
  obtain ⟨SP, hSP⟩ : ∃ SP, SP = prL g.v b g.lo W (g.hi - g.lo).toNat := ⟨_, rfl⟩
  have hSPl : SP.length = W := by rw [hSP]; simp
  have hSPg : ∀ k (h : k < SP.length), SP[k] = (gMn g (k - b), gMx g (k - b)) := fun k h => by
    have : SP = _ := hSP.trans (prL_gM hvb ⟨hb1, hb2⟩ hlo.1 hhi.2 hor)
    subst this
    rw [rl_getElem]
  have hW1 : 1 ≤ (W : Int) := by omega
  have hW2 : (W : Int) ≤ 64 := by omega
  have hv1 := hvb.1
  have hv2 := hvb.2
  have hlo0 := hlo.1
  have hhi4 := hhi.2
  have hwi : IntKind.i64.wrap ((i : Int) + 1) = (i : Int) + 1 := W_in (by omega) (by omega)
  have hi0 : (i : Int) < l.length + 1 := by omega
  have hi1 : (i : Int) + 1 < l.length + 1 := by omega
  let s1 : St := { fr := [(5, .pointer (some ⟨13, 0, none⟩)), (7, .pointer (some ⟨15, 0, none⟩)), (8, .pointer (some ⟨17, 0, none⟩)), (9, iv i), (10, .pointer (some ⟨23, 0, none⟩))], sz := 80, H := (23, .cells g.cells 95) :: baseB .ready l d W r (nils i ++ [nilS, slB W]), n := 24, marks := [], vs := vs135 }
  let s2 : St := { fr := [], sz := 80, H := (25, .ext (pcs (rl (encR l d (r + 1)) W)) 92 2) :: B135 .busy l d W (nils i ++ [.slice (some ⟨25, 0, some 0⟩) W 0]), n := 26, marks := [], vs := [] }
  refine ⟨r135 s1 s2, recV_ok, ?_⟩
  have hA : AT Tryz.prog (some 21) asg135 { fr := (33, .agg ⟨g.cells⟩) :: (32, iv i) :: fr135, sz := 80, H := baseB .ready l d W r (nils i ++ [nilS, slB W]), n := 23, marks := [], vs := vs135 } .normal s1 := by
    refine E.toATc ?_
    refine E.seq ?_
    refine E.reg hr (by simp; rfl) ?_
    refine E.reg hr (by simp; rfl) ?_
    exact ⟨rfl, rfl, rfl, rfl, by simp [s1], by simp [s1]⟩
  have hB : AT Tryz.prog (some 21) bdy135 { s1 with H := (23, .cells g.cells 95) :: baseB .busy l d W r (nils i ++ [nilS, slB W]) } .normal s2 := by
    refine E.toATc ?_
    refine E.block ?_
    refine E.seq ?_
    refine E.reg hr (by simp [s1, hwi, hi1]; rfl) ?_
    refine E.seq ?_
    refine E.drawC mixed hr [6] [6] [0, 1, 4, 5, 6] (by kernel_rfl) (by simp [hka, hkaI, ← hbb, g197, hv1, hv2, hb1, hb2, hlo0, hhi4, hor, hW1, hW2, ← hSP]; rfl) ?_
    refine E.block ?_
    refine E.loop ?_
    refine EL.ind (NB l d W r SP i) (fun k => W - k) (fun k => k ≤ W) 0 (Leads.short 16 (nils i ++ [nilS]) [slB W] 64 1 (by simp) rfl rfl rfl (by simp [NB]) (by simp [NB])) (Nat.zero_le _) (fun k => by cases k <;> rfl) ?_
    intro k hk
    rcases k with _ | k
    · by_cases hkW : 0 < W
      rotate_left
      · omega
      have hts : pcs (rl (encR l d (r + 1)) 1) = [iv (encR l d (r + 1) 0).1, iv (encR l d (r + 1) 0).2] := by rw [rl_succ, rl_zero, List.nil_append]; rfl
      have hw : IntKind.i64.wrap 1 = 1 := W_in (by omega) (by omega)
      have hkI : (0 : Int) < W := by omega
      have hks : 0 < SP.length := by omega
      have c1 : 1 < W * 2 := by omega
      have c2 : 2 ≤ W * 2 := by omega
      have hsm : (0 + 1) * 16 ≤ 1099511627776 ∧ (0 + 1) * 2 ≤ 1099511627776 ∧ 0 + 1 ≤ 1099511627776 := by omega
      have et := pcs_take hks
      rw [hSPg _ hks] at et
      rw [Nat.zero_mul, List.drop_zero] at et
      have hrk : 0 < (rl (encR l d r) W).length := by simp; omega
      have e0 := pcs_0E hrk (by simp; omega)
      have e1 := pcs_1E hrk (by simp; omega)
      rw [rl_getElem] at e0 e1
      obtain ⟨y, hy⟩ : ∃ y, y = encR l d r 0 := ⟨_, rfl⟩
      have hyb := encT_bd d hst (0 : Nat) r (by omega)
      rw [show encT l d ((0 : Nat) : Int) r = y from hy.symm] at hyb
      rw [← hy] at e0 e1
      simp only [Nat.zero_mul, Nat.zero_add] at e0 e1
      obtain ⟨x, hx⟩ : ∃ x : Int × Int, x = (gMn g (((0 : Nat) : Int) - b), gMx g (((0 : Nat) : Int) - b)) := ⟨_, rfl⟩
      rw [← hx] at et
      have hxb : (-256 ≤ x.1 ∧ x.1 ≤ 256) ∧ -256 ≤ x.2 ∧ x.2 ≤ 256 := by rw [hx]; exact ⟨gMn_bd hvb _, gMx_bd hvb _⟩
      have hsu : encR l d (r + 1) 0 = (x.1 + y.1, x.2 + y.2) := by
        show encT l d ((0 : Nat) : Int) (r + 1) = _
        rw [encT, show l.length - (r + 1) = i by omega, gAt_at l hil, ← hg, getD_at hka, ← hbb, hx, hy]
      have q3 : IntKind.i64.wrap (x.1 + y.1) = x.1 + y.1 := W_in (by omega) (by omega)
      have q4 : IntKind.i64.wrap (x.2 + y.2) = x.2 + y.2 := W_in (by omega) (by omega)
      rw [hsu] at hts
      refine E.seq ?_
      refine E.reg hr (by simp [NB]; rfl) ?_
      refine E.seq ?_
      refine E.cond (by rfl) (fun h2 => ?_) (fun h2 => ?_)
      rotate_left
      · simp at h2
        omega
      clear h2
      refine E.skip ?_
      refine E.seq ?_
      refine E.block ?_
      refine E.seq ?_
      refine E.reg hr (by simp [hkW, hSPl, c2, et]; rfl) ?_
      refine E.drawC mixed hr [26] [23, 24, 26] [0, 2, 5, 7, 12, 15, 20, 23, 24, 26] (by kernel_rfl) (by simp [hi0, hkW, nils_drop, c1, e0, e1, q3, q4, build92, ]; rfl) ?_
      refine E.reg hr (by simp [hw]; rfl) ?_
      exact ⟨0 + 1, Leads.ren2 [24, 27] rfl rfl rfl ⟨rfl, rfl⟩ (by simp [NB, s1]) (by simp [NB, s1, hts, -scB]), by dsimp only; omega, by dsimp only; omega⟩
    · by_cases hkW : k + 1 < W
      rotate_left
      · obtain rfl : W = k + 1 := by omega
        refine E.seq ?_
        refine E.reg hr (by simp [NB]; rfl) ?_
        refine E.seq ?_
        refine E.cond (by rfl) (fun h2 => ?_) (fun h2 => ?_)
        · simp at h2
        refine E.exit ?_
        exact ⟨rfl, rfl, rfl, rfl, by simp [s2], by simp [s2]⟩
      have hpl : (pcs (rl (encR l d (r + 1)) (k + 1))).length = (k + 1) * 2 := by simp
      have ht : List.take ((k + 1) * 2) (pcs (rl (encR l d (r + 1)) (k + 1))) = pcs (rl (encR l d (r + 1)) (k + 1)) := List.take_of_length_le (by omega)
      have hno : ¬ (k + 1 + 1) * 2 ≤ (k + 1) * 2 := by omega
      have hts : pcs (rl (encR l d (r + 1)) (k + 1 + 1)) = pcs (rl (encR l d (r + 1)) (k + 1)) ++ [iv (encR l d (r + 1) (k + 1)).1, iv (encR l d (r + 1) (k + 1)).2] := by rw [rl_succ, pcs_append]; rfl
      have hw : IntKind.i64.wrap ((k : Int) + 1 + 1) = (k : Int) + 1 + 1 := W_in (by omega) (by omega)
      have hkI : ((k : Int) + 1) < W := by omega
      have hks : k + 1 < SP.length := by omega
      have c0 : (k + 1) * 2 < W * 2 := by omega
      have c1 : (k + 1) * 2 + 1 < W * 2 := by omega
      have c2 : (k + 1) * 2 + 2 ≤ W * 2 := by omega
      have hsm : ((k + 1) + 1) * 16 ≤ 1099511627776 ∧ ((k + 1) + 1) * 2 ≤ 1099511627776 ∧ (k + 1) + 1 ≤ 1099511627776 := by omega
      have et := pcs_take hks
      rw [hSPg _ hks] at et
      have hrk : k + 1 < (rl (encR l d r) W).length := by simp; omega
      have e0 := pcs_0E hrk (by simp; omega)
      have e1 := pcs_1E hrk (by simp; omega)
      rw [rl_getElem] at e0 e1
      obtain ⟨y, hy⟩ : ∃ y, y = encR l d r (k + 1) := ⟨_, rfl⟩
      have hyb := encT_bd d hst ((k + 1) : Nat) r (by omega)
      rw [show encT l d (((k + 1) : Nat) : Int) r = y from hy.symm] at hyb
      rw [← hy] at e0 e1
      obtain ⟨x, hx⟩ : ∃ x : Int × Int, x = (gMn g ((((k + 1) : Nat) : Int) - b), gMx g ((((k + 1) : Nat) : Int) - b)) := ⟨_, rfl⟩
      rw [← hx] at et
      have hxb : (-256 ≤ x.1 ∧ x.1 ≤ 256) ∧ -256 ≤ x.2 ∧ x.2 ≤ 256 := by rw [hx]; exact ⟨gMn_bd hvb _, gMx_bd hvb _⟩
      have hsu : encR l d (r + 1) (k + 1) = (x.1 + y.1, x.2 + y.2) := by
        show encT l d (((k + 1) : Nat) : Int) (r + 1) = _
        rw [encT, show l.length - (r + 1) = i by omega, gAt_at l hil, ← hg, getD_at hka, ← hbb, hx, hy]
      have q3 : IntKind.i64.wrap (x.1 + y.1) = x.1 + y.1 := W_in (by omega) (by omega)
      have q4 : IntKind.i64.wrap (x.2 + y.2) = x.2 + y.2 := W_in (by omega) (by omega)
      rw [hsu] at hts
      refine E.seq ?_
      refine E.reg hr (by simp [NB]; rfl) ?_
      refine E.seq ?_
      refine E.cond (by rfl) (fun h2 => ?_) (fun h2 => ?_)
      rotate_left
      · simp at h2
        omega
      clear h2
      refine E.skip ?_
      refine E.seq ?_
      refine E.block ?_
      refine E.seq ?_
      refine E.reg hr (by simp [hkI, hSPl, c2, et]; rfl) ?_
      refine E.drawW mixed hr [26] [23, 24, 26] [0, 2, 5, 7, 12, 15, 20, 23, 24, 26] [0, 1] 24 (by kernel_rfl) (by simp [hi0, hkI, nils_drop, c0, c1, e0, e1, q3, q4, build92, ht, hpl, hno, hsm, ]; rfl) ?_
      refine E.reg hr (by simp [hw]; rfl) ?_
      exact ⟨k + 1 + 1, Leads.ren2 [24, 28] rfl rfl rfl ⟨rfl, rfl⟩ (by simp [NB, s1]) (by simp [NB, s1, hts, -scB]), by dsimp only; omega, by dsimp only; omega⟩
  have hh : hset s2.H 21 (.loop .ready none fr135 80 vs135 #[32, 33] asg135 bdy135 20) = (25, .ext (pcs (rl (encR l d (r + 1)) W)) 92 2) :: B135 .ready l d W (nils i ++ [.slice (some ⟨25, 0, some 0⟩) W 0]) := by simp [s2]
  rw [← hh]
  refine yieldF_of (s1 := s1) (s2 := s2) (fr := fr135) (sz := 80) (vs := vs135) (ps := #[32, 33]) (a := asg135) (b := bdy135) (d := 20) (by simp) rfl ?_ (by simp [s1]) ?_ (by simp [s2])
  · exact recV_code (by intro b h; cases h) rfl hA
  · show (r135 s1 s2).code (some 21) bdy135 { s1 with H := hset s1.H 21 _ } = _
    rw [show hset s1.H 21 (.loop .busy none fr135 80 vs135 #[32, 33] asg135 bdy135 20) = (23, .cells g.cells 95) :: baseB .busy l d W r (nils i ++ [nilS, slB W]) by simp [s1]]
    exact recV_code (by intro b h; cases h) rfl hB
end Go.Proofs.YtndlfijfjglkdaaGreatDoor

namespace Go.Proofs.YtndlfijfjglkdaaGreatDoor
open Go Go.Ab Go.Proofs
def i3 (L r : Nat) : Int := (L : Int) - r - 1
noncomputable def S237 (l : List Gun) (d : ByteArray) (W : Nat) : Nat → St
  | 0 => { fr := [(0, .func (.yield 21) #[] #[]), (1, .pointer (some ⟨19, 0, none⟩)), (3, iv (i3 l.length 0))], sz := 19, H := B135 .ready l d W (nils l.length ++ [slA W]), n := 22, marks := [], vs := [0, 1, 3] }
  | r + 1 => { fr := [(0, .func (.yield 21) #[] #[]), (1, .pointer (some ⟨19, 0, none⟩)), (3, iv (i3 l.length (r + 1)))], sz := 19, H := baseB .ready l d W (r + 1) (nils (l.length - (r + 1)) ++ [slB W]), n := 23, marks := [], vs := [0, 1, 3] }
set_option maxRecDepth 100000 in
theorem w237 (l : List Gun) (d : ByteArray) (W : Nat) (hst : strE l = 0) (hW : 1 ≤ W ∧ W ≤ 64) : AC Tryz.prog 237 [.func (.yield 21) #[] #[], .pointer (some ⟨19, 0, none⟩)] (B135 .ready l d W (nils l.length ++ [slA W])) 22 (.tuple #[]) (baseB .ready l d W l.length [slB W]) 23 := by
  have hr := recT_ok (P := Tryz.prog) (l := []) (by simp)
  obtain ⟨h1, h8⟩ := strE_len hst
  have hw0 : IntKind.i64.wrap ((l.length : Int) - 1) = i3 l.length 0 := by unfold i3; rw [W_in (by omega) (by omega)]; omega
  refine AC.body Tryz.func237 rfl (by kernel_rfl) rfl [0, 1, 3] ?_
  refine E.seq ?_
  refine E.reg hr (by simp [hw0]; rfl) ?_
  refine E.block ?_
  refine E.loop ?_
  refine EL.ind (S237 l d W) (fun r => l.length - r) (fun r => r ≤ l.length) 0 (.less rfl rfl rfl (by simp [S237]) (by simp [S237])) (Nat.zero_le _) (fun i => by cases i <;> rfl) ?_
  intro r hrl
  rcases r with _ | r
  · obtain ⟨i, hi⟩ : ∃ i, i + 1 + 0 = l.length := ⟨l.length - 1, by omega⟩
    have hil : i < l.length := by omega
    have e3 : i3 l.length 0 = (i : Int) := by unfold i3; omega
    have eN : nils l.length = nils i ++ [nilS] := by rw [show l.length = i + 1 by omega, nils_succ]
    have hiI : (i : Int) < l.length := by omega
    have c7 : i * 7 + 7 ≤ l.length * 7 := by omega
    have htk := gcs_take hil
    have hwd : IntKind.i64.wrap ((i : Int) - 1) = i3 l.length 1 := by unfold i3; rw [W_in (by omega) (by omega)]; omega
    obtain ⟨q, hq, hy⟩ := yield135A l d W i hst hW hi
    have eL : l.length - 1 = i := by omega
    refine E.seq ?_
    refine E.seq ?_
    refine E.reg hr (by simp [S237, e3, eN]; rfl) ?_
    refine E.cond (by rfl) (fun h => ?_) (fun h => ?_)
    rotate_left
    · simp at h
    refine E.skip ?_
    refine E.seq ?_
    refine E.block ?_
    refine E.seq ?_
    refine E.reg hq (by simp [hiI, c7, htk, hy]; rfl) ?_
    refine E.cond (by rfl) (fun h => ?_) (fun h => ?_)
    · simp at h
    refine E.skip ?_
    refine E.reg hr (by simp [hwd]; rfl) ?_
    exact ⟨1, Leads.ren2 [24] rfl rfl rfl ⟨rfl, rfl⟩ (by simp [S237]) (by simp [S237, eL, -scB]), by dsimp only; omega, by dsimp only; omega⟩
  · by_cases hlast : r + 1 = l.length
    · have e3 : i3 l.length l.length = -1 := by unfold i3; omega
      refine E.seq ?_
      refine E.seq ?_
      refine E.reg hr (by simp [S237, hlast, e3]; rfl) ?_
      refine E.cond (by rfl) (fun h => ?_) (fun h => ?_)
      · simp at h
      refine E.exit ?_
      refine ⟨.inl rfl, ?_⟩
      simp [leaveF, shutA, resultsA, Tryz.results237, dropOk, nils]
    obtain ⟨i, hi⟩ : ∃ i, i + 1 + (r + 1) = l.length := ⟨l.length - (r + 2), by omega⟩
    have hil : i < l.length := by omega
    have e3 : i3 l.length (r + 1) = (i : Int) := by unfold i3; omega
    have eN : nils (l.length - (r + 1)) = nils i ++ [nilS] := by rw [show l.length - (r + 1) = i + 1 by omega, nils_succ]
    have hiI : (i : Int) < l.length := by omega
    have c7 : i * 7 + 7 ≤ l.length * 7 := by omega
    have htk := gcs_take hil
    have hwd : IntKind.i64.wrap ((i : Int) - 1) = i3 l.length (r + 1 + 1) := by unfold i3; rw [W_in (by omega) (by omega)]; omega
    obtain ⟨q, hq, hy⟩ := yield135B l d W (r + 1) (by omega) i hst hW hi
    have eL : l.length - (r + 1 + 1) = i := by omega
    refine E.seq ?_
    refine E.seq ?_
    refine E.reg hr (by simp [S237, e3, eN]; rfl) ?_
    refine E.cond (by rfl) (fun h => ?_) (fun h => ?_)
    rotate_left
    · simp at h
    refine E.skip ?_
    refine E.seq ?_
    refine E.block ?_
    refine E.seq ?_
    refine E.reg hq (by simp [hiI, c7, htk, hy]; rfl) ?_
    refine E.cond (by rfl) (fun h => ?_) (fun h => ?_)
    · simp at h
    refine E.skip ?_
    refine E.reg hr (by simp [hwd]; rfl) ?_
    exact ⟨r + 2, Leads.ren2 [25] rfl rfl rfl ⟨rfl, rfl⟩ (by simp [S237]) (by simp [S237, eL, -scB]), by dsimp only; omega, by dsimp only; omega⟩
end Go.Proofs.YtndlfijfjglkdaaGreatDoor

namespace Go.Proofs.YtndlfijfjglkdaaGreatDoor
open Go Go.Ab Go.Proofs
theorem rep_nil (w : Nat) : ((Array.range (w * 1)).map ((if w * 1 = 0 then #[] else #[nilS])[· % (if w * 1 = 0 then #[] else #[nilS]).size]!)).toList = nils w := by
  refine List.eq_replicate_iff.2 ⟨by simp, fun x hx => ?_⟩
  simp only [Array.toList_map, List.mem_map, Array.toList_range, List.mem_range] at hx
  obtain ⟨i, hi, rfl⟩ := hx
  rw [if_neg (by omega)]
  simp [Nat.mod_one]
theorem rep_iv2 (w : Nat) : ((Array.range (w * 2)).map ((if w * 2 = 0 then #[] else #[iv 0, iv 0])[· % (if w * 2 = 0 then #[] else #[iv 0, iv 0]).size]!)).toList = List.replicate (w * 2) (iv 0) := by
  refine List.eq_replicate_iff.2 ⟨by simp, fun x hx => ?_⟩
  simp only [Array.toList_map, List.mem_map, Array.toList_range, List.mem_range] at hx
  obtain ⟨i, hi, rfl⟩ := hx
  rw [if_neg (by omega)]
  have h2 : i % 2 = 0 ∨ i % 2 = 1 := by omega
  rcases h2 with h2 | h2 <;> simp [h2]
theorem pcs_zero (l : List Gun) (d : ByteArray) (W : Nat) : List.replicate (W * 2) (iv 0) = pcs (rl (encR l d 0) W) := by
  induction W with
  | zero => rfl
  | succ W ih =>
    rw [rl_succ, pcs_append, ← ih, show (W + 1) * 2 = W * 2 + 1 + 1 by omega, List.replicate_succ', List.replicate_succ', List.append_assoc]
    rfl
theorem mk201 {fr : Fr} {H : Heap} {n : Nat} {x y : Operand} {w : Int} (h0 : 0 ≤ w) (h1 : w ≤ 4096) (hx : evO Tryz.prog fr x = some (iv w)) (hy : evO Tryz.prog fr y = some (iv w)) : opMakeslice Tryz.prog 201 x y fr H n = some (.slice (some ⟨n, 0, none⟩) w.toNat w.toNat, (n, .cells (nils w.toNat) 64) :: H, n + 1) := by
  unfold opMakeslice
  rw [hx, hy, Tryz.underlying201]
  have hz : Tryz.t64.zero = some nilS := by kernel_rfl
  have hb : Tryz.t64.bytes = 24 := by kernel_rfl
  have hs : Tryz.t64.size = 1 := by kernel_rfl
  simp only [inf64, hz, hb, hs]
  have hc : (0 ≤ w ∧ w ≤ w ∧ (smallA 24 w.toNat && afL nilS.cells.toList) = true) := ⟨h0, Int.le_refl _, by simp [smallA]; omega⟩
  rw [if_pos hc]
  unfold newA
  rw [show nilS.cells = #[nilS] from rfl, rep_nil]
theorem mk64 {fr : Fr} {H : Heap} {n : Nat} {x y : Operand} {w : Int} (h0 : 0 ≤ w) (h1 : w ≤ 4096) (hx : evO Tryz.prog fr x = some (iv w)) (hy : evO Tryz.prog fr y = some (iv w)) : opMakeslice Tryz.prog 64 x y fr H n = some (.slice (some ⟨n, 0, none⟩) w.toNat w.toNat, (n, .cells (List.replicate (w.toNat * 2) (iv 0)) 92) :: H, n + 1) := by
  unfold opMakeslice
  rw [hx, hy, Tryz.underlying64]
  have hz : Tryz.t92.zero = some (.agg #[iv 0, iv 0]) := by kernel_rfl
  have hb : Tryz.t92.bytes = 16 := by kernel_rfl
  have hs : Tryz.t92.size = 2 := by kernel_rfl
  simp only [inf92, hz, hb, hs]
  have hc : (0 ≤ w ∧ w ≤ w ∧ (smallA 16 w.toNat && afL (Value.agg #[iv 0, iv 0]).cells.toList) = true) := ⟨h0, Int.le_refl _, by simp [smallA]; omega⟩
  rw [if_pos hc]
  unfold newA
  rw [show (Value.agg #[iv 0, iv 0]).cells = #[iv 0, iv 0] from rfl, rep_iv2]
@[simp] theorem ent196 : enterable Tryz.prog 196 = true := by kernel_rfl
theorem ent237 : enterable Tryz.prog 237 = true := by kernel_rfl
abbrev H135 (l : List Gun) : Heap := [(11, .cells [.slice (some ⟨10, 0, some 0⟩) l.length 0] 32), (10, .row (gcs l) 7)]
noncomputable abbrev fin135 (l : List Gun) (d : ByteArray) (W : Nat) : Heap := (22, .ext (pcs (rl (encR l d l.length) W)) 92 2) :: (21, .loop .exhausted none fr135 80 vs135 #[32, 33] asg135 bdy135 20) :: (B135 .ready l d W [slB W]).drop 2
set_option maxRecDepth 100000 in
theorem w135 (l : List Gun) (d : ByteArray) (W : Nat) (hst : strE l = 0) (hd : hasW d dirs = true) (hW : 1 ≤ W ∧ W ≤ 64) : AC Tryz.prog 135 [rowV l.length, sv d, iv W] (H135 l) 12 (.slice (some ⟨16, 0, none⟩) (l.length + 1) (l.length + 1)) (fin135 l d W) 23 := by
  have hr := recT_ok (P := Tryz.prog) (l := [(116, g116)]) (by simp only [List.forall_mem_cons]; exact ⟨ok116, by simp⟩)
  have hr0 := ev_sound mixed (tab_ok (P := Tryz.prog) [] (by simp)) 60
  obtain ⟨h1, h8⟩ := strE_len hst
  have hrow : ∀ G : Heap, hget G 10 = some (.row (gcs l) 7) → rowGuns G 10 l.length = some l := fun G hG => by
    unfold rowGuns rowOf
    rw [hG]
    simp [gunsOf_gcs, show l.length < 9223372036854775808 by omega]
  have hal := arrL_length d l
  have hw1 : IntKind.i64.wrap ((l.length : Int) + 1) = (l.length : Int) + 1 := W_in (by omega) (by omega)
  have hL1 : (l.length : Int) < (l.length : Int) + 1 := by omega
  have hWn : ((W : Int)).toNat = W := by omega
  have hLn : ((l.length : Int) + 1).toNat = l.length + 1 := by omega
  have z1 : nspL 16 (List.replicate (W * 2) (iv 0)) := by rw [pcs_zero l d W]; exact nspL_af _ _ (afL_pcs _)
  have z2 := nspL_af 16 _ (afL_iv (arrL d l))
  have z3 := nspL_af 16 _ (afL_gcs l)
  refine AC.body Tryz.func135 rfl (by kernel_rfl) rfl vs135 ?_
  refine E.seq ?_
  refine E.reg hr (by simp; rfl) ?_
  refine E.seq ?_
  refine E.reg hr (by simp [g116, hrow, hst, hd]; rfl) ?_
  refine E.seq ?_
  refine E.reg hr (by simp [hw1, mk201 (w := (l.length : Int) + 1) (by omega) (by omega), hLn]; rfl) ?_
  refine E.seq ?_
  refine E.drawC mixed hr [7] [5, 7] [0, 2, 4, 5, 7] (by kernel_rfl) (by simp [mk64 (w := (W : Int)) (by omega) (by omega), hWn, hL1, nils_succ, nils_drop]; rfl) ?_
  refine E.seq ?_
  refine E.seq ?_
  refine E.reg hr0 (by simp [ev_call, Tryz.func196, bodyF, Tryz.f196, ↓evc_seq, ↓evc_reg, ↓evc_ret, opMakefunc, leaveF, shutA, resultsA, resultA]; rfl) ?_
  refine E.block ?_
  have hAC := w237 l d W hst hW
  refine E.lead { fr := fr135, sz := 80, H := (B135 .ready l d W (nils l.length ++ [slA W])).drop 2, n := 20, marks := [], vs := vs135 } (Leads.ext 16 (nils l.length ++ [slA W]) 64 1 (l.length + 1) (by simp) (by simp) (by simp) (by omega) rfl rfl rfl (by simp [nsp, nspL]) (by simp [nspB, nsp, nspL, ← pcs_zero, z1, z2, z3])) ?_
  refine E.range (r := recV Tryz.prog (fun _ _ _ => none) (fun _ _ _ _ => some (.tuple #[], baseB .ready l d W l.length [slB W], 23))) recV_ok (rangeF_of rfl ent237 (recV_call rfl hAC) rfl) ?_
  refine E.seq ?_
  refine E.reg hr (by simp; rfl) ?_
  refine E.ret ?_
  refine ⟨.inr rfl, ?_⟩
  simp [leaveF, shutA, resultsA, resultA, Tryz.results135, dropOk]
end Go.Proofs.YtndlfijfjglkdaaGreatDoor

namespace Go.Proofs.YtndlfijfjglkdaaGreatDoor
open Go Go.Ab Go.Proofs
def encE (l : List Gun) (d : ByteArray) (w : Int) : Int := firstV [strE l, dirE d, withinV w 1 64]
theorem encE_zero {l : List Gun} {d : ByteArray} {w : Int} (h : encE l d w = 0) : strE l = 0 ∧ hasW d dirs = true ∧ 1 ≤ w ∧ w ≤ 64 := by
  have hz := (firstV_zero _).1 h
  exact ⟨hz _ (by simp), dirE_zero (hz (dirE d) (by simp)), (withinV_zero _ _ _).1 (hz (withinV w 1 64) (by simp))⟩
theorem encE_nil (d : ByteArray) (w : Int) : encE [] d w = 12 := by simp [encE, firstV, strE]
theorem encR_all (l : List Gun) (d : ByteArray) (W : Nat) : rl (encR l d l.length) W = encL l d W := rl_congr fun i _ => encT_all l d i
def enQ (k : Nat) (l : List Gun) (d : ByteArray) (w : Int) (u : Value) (H : Heap) : Prop := if encE l d w = 0 then ∃ m, u = .tuple #[.slice (some ⟨m, 0, some 0⟩) w.toNat 0, iv 0] ∧ hget H m = some (.ext (pcs (encL l d w.toNat)) 92 2) ∧ k ≤ m else u = .tuple #[.slice none 0 0, iv (encE l d w)]
abbrev H43 (l : List Gun) : Heap := [(10, .row (gcs l) 7), (0, .inp 0 names0)]
set_option maxRecDepth 100000 in
theorem w43 (l : List Gun) (d : ByteArray) (w : Int) (hl : l.length < 2 ^ 63) : ∃ u H1 n1 H2, AC Tryz.prog 43 [rowV l.length, sv d, iv w] (H43 l) 11 u H1 n1 ∧ enQ 11 l d w u H2 ∧ (af u = false → H1 = H2) := by
  have hr := recT_ok (P := Tryz.prog) (l := [(31, g31), (115, g115), (127, g1 fun a => withinV a 1 64), (113, g113)]) (by simp only [List.forall_mem_cons]; exact ⟨ok31, ok115, ok127, ok113, by simp⟩)
  refine AC.out Tryz.func43 rfl (by kernel_rfl) rfl [] ?_
  refine E.seq ?_
  refine E.reg hr (by simp; rfl) ?_
  refine E.seq ?_
  refine E.seq ?_
  refine E.reg hr (by simp [g31, rowOf, gunsOf_gcs, hl, g115, g113]; rfl) ?_
  refine E.seq ?_
  refine E.reg hr (by simp; rfl) ?_
  refine E.cond (by rfl) (fun h => ?_) (fun h => ?_)
  · simp at h
    have h' : ¬ encE l d w = 0 := h
    refine E.seq ?_
    refine E.reg hr (by simp; rfl) ?_
    refine E.ret ?_
    refine outK.ret rfl rfl ?_
    unfold enQ
    rw [if_neg h']
    rfl
  · simp at h
    have h' : encE l d w = 0 := h
    obtain ⟨hst, hd, hw1, hw2⟩ := encE_zero h'
    obtain ⟨W, rfl⟩ := Int.eq_ofNat_of_zero_le (show 0 ≤ w by omega)
    have hAC := w135 l d W hst hd ⟨by omega, by omega⟩
    obtain ⟨q, hq, hcall⟩ : ∃ q : Rec, RecOk Tryz.prog q 0 ∧ q.call 135 [rowV l.length, sv d, iv W] (H135 l) 12 = some (.slice (some ⟨16, 0, none⟩) (l.length + 1) (l.length + 1), fin135 l d W, 23) :=
      ⟨recV Tryz.prog (fun _ _ _ => none) (fun _ _ _ _ => some (.slice (some ⟨16, 0, none⟩) (l.length + 1) (l.length + 1), fin135 l d W, 23)), recV_ok, recV_call rfl hAC⟩
    have hL1 : (0 : Int) < (l.length : Int) + 1 := by omega
    refine E.skip ?_
    refine E.lead { fr := [(1, sv d), (2, iv W), (3, .pointer (some ⟨11, 0, none⟩))], sz := 26, H := H135 l, n := 12, marks := [], vs := [] } (Leads.ren [11] rfl rfl rfl ⟨rfl, rfl⟩ (by simp) (by simp)) ?_
    refine E.seq ?_
    refine E.reg hq (by simp [hcall, hL1]; rfl) ?_
    refine E.ret ?_
    refine outK.ret rfl rfl ?_
    unfold enQ
    rw [if_pos h']
    exact ⟨22, by simp, by simp [encR_all], by omega⟩
set_option maxRecDepth 100000 in
theorem w43n (d : ByteArray) (w : Int) : AC Tryz.prog 43 [nilV, sv d, iv w] [(0, .inp 0 names0)] 10 (.tuple #[.slice none 0 0, iv 12]) [(0, .inp 0 names0)] 10 := by
  have hr := recT_ok (P := Tryz.prog) (l := [(31, g31), (115, g115), (127, g1 fun a => withinV a 1 64), (113, g113)]) (by simp only [List.forall_mem_cons]; exact ⟨ok31, ok115, ok127, ok113, by simp⟩)
  have hf : firstV [12, dirE d, withinV w 1 64] = 12 := rfl
  refine AC.pure Tryz.func43 rfl (by kernel_rfl) rfl [] rfl ?_
  refine E.seq ?_
  refine E.reg hr (by simp; rfl) ?_
  refine E.seq ?_
  refine E.seq ?_
  refine E.reg hr (by simp [g31, strE, g115, g113]; rfl) ?_
  refine E.seq ?_
  refine E.reg hr (by simp; rfl) ?_
  refine E.cond (by rfl) (fun h => ?_) (fun h => ?_)
  rotate_left
  · simp at h
    rw [hf] at h
    omega
  refine E.seq ?_
  refine E.reg hr (by simp; rfl) ?_
  refine E.ret ?_
  exact pureK.ret rfl rfl (by simp; exact hf) (by repeat first | exact sub_refl _ | refine sub_cons rfl ?_)
def gEnc (l : List Gun) (d : ByteArray) (w : Int) (H : Heap) (n : Nat) : R := if encE l d w = 0 then some (.tuple #[.slice (some ⟨n, 0, some 0⟩) w.toNat 0, iv 0], (n, .ext (pcs (encL l d w.toNat)) 92 2) :: H, n + 1) else some (.tuple #[.slice none 0 0, iv (encE l d w)], H, n)
open Classical in
noncomputable def g43 (args : List Value) (H : Heap) (n : Nat) : R := match args with
  | [v, .string d, .int .i64 w] => match strR H v with
    | some l => if hget H 0 = some (.inp 0 names0) then gEnc l d w H n else none
    | none => none
  | _ => none
theorem ok43 : EntOk Tryz.prog (43, g43) := by
  intro args H n v H' n' h'
  simp only [g43] at h'
  split at h'
  · rename_i v0 d w
    split at h'
    · rename_i l hg
      split at h'
      · rename_i h0
        unfold strR at hg
        split at hg
        · injection hg with hg; subst hg
          unfold gEnc at h'
          rw [encE_nil, if_neg (by decide)] at h'
          injection h' with h'; injection h' with e1 e2; injection e2 with e2 e3; subst e1 e2 e3
          exact AC.liftP rfl (Part.plain (by simp) [(0, .inp 0 names0)] (seen0 h0) gsz ⟨_, _, w43n d w⟩)
        · split at hg
          · rename_i b len x l' hg'
            split at hg
            · injection hg with hg; subst hg
              obtain ⟨hb, rfl, hlt⟩ := rowGuns_ok hg'
              have hp : ∀ (R : List Value → Heap → Nat → Prop), R [rowV l'.length, sv d, iv w] (H43 l') 11 → Part Tryz.prog [.agg ⟨[.slice (some ⟨b, 0, some 0⟩) l'.length 0]⟩, .string d, .int .i64 w] H n R := fun R hR => Part.genG [⟨_, .row (gcs l') 7⟩] [(0, .inp 0 names0)] (seen0 h0) gsz (fun u hu => by rw [List.mem_singleton] at hu; subst hu; exact ⟨hb, afL_gcs l'⟩) fun φ => ⟨[rowV l'.length, sv d, iv w], fun φ0 hv => by
                obtain ⟨h1, h2⟩ := hv 0 _ rfl
                simp only [Nat.add_zero] at h1 h2
                simp [denL, den, h1, h2], by simp [scL, sc], hR⟩
              unfold gEnc at h'
              split at h'
              · rename_i he
                injection h' with h'; injection h' with e1 e2; injection e2 with e2 e3; subst e1 e2 e3
                refine AC.liftF (names_tx _ _ _) (.inr ⟨_, _, _, rfl, afL_pcs _⟩) (hp _ ?_)
                obtain ⟨u, H1, n1, H2, hAC, hq, hh⟩ := w43 l' d w hlt
                unfold enQ at hq
                rw [if_pos he] at hq
                obtain ⟨m, hu, hm, hle⟩ := hq
                subst hu
                have := hh (by simp)
                subst this
                exact ⟨m, _, _, hle, hm, hAC⟩
              · rename_i he
                injection h' with h'; injection h' with e1 e2; injection e2 with e2 e3; subst e1 e2 e3
                refine AC.liftP rfl (hp _ ?_)
                obtain ⟨u, H1, n1, H2, hAC, hq, _⟩ := w43 l' d w hlt
                unfold enQ at hq
                rw [if_neg he] at hq
                subst hq
                exact ⟨_, _, hAC⟩
            · cases hg
          · cases hg
        · cases hg
      · cases h'
    · cases h'
  · cases h'
end Go.Proofs.YtndlfijfjglkdaaGreatDoor
