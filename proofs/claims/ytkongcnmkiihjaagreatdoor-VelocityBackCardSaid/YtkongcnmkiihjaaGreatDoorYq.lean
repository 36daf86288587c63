/-
The program's reader of picks from a text, walked, with early returns out of a range over a function (each a contract: no condition but those in its statement).
-/
import Derived.Test.YtkongcnmkiihjaaGreatDoorYp
import Derived.Test.YtkongcnmkiihjaaGreatDoorAf
import Derived.Test.YtkongcnmkiihjaaGreatDoorAj
import Derived.Test.YtkongcnmkiihjaaGreatDoorYn
namespace Go.Proofs.YtkongcnmkiihjaaGreatDoor
open Go Go.Ab Go.Proofs Go.RowKit
def bodyOf' (f : Func) : Code := match f.body with
  | some c => c
  | none => .skip
def rfOf : Code → Option (Code × Code)
  | .rangeFunc _ _ a b => some (a, b)
  | .seq a b => match rfOf a with
    | some x => some x
    | none => rfOf b
  | .block _ b => rfOf b
  | _ => none
theorem yieldF_of {r : Rec} {l : Nat} {args : List Value} {H : Heap} {n : Nat} {fr : Fr} {sz : Nat} {vs : List Nat} {ps : Array Tmp} {a b : Code} {d : Nat} {s1 s2 : St}
    (h0 : hget H l = some (.loop .ready none fr sz vs ps a b d)) (hlen : (Nat.beq args.length ps.size && ps.toList.all (fun t => Nat.blt t sz)) = true)
    (h1 : r.code (some l) a { fr := (ps.toList.zip args).foldl (fun fr (t, v) => (t, v) :: fr) fr, sz, H, n, marks := [], vs } = some (.normal, s1)) (hl1 : hget s1.H l = some (.loop .ready none fr sz vs ps a b d))
    (h2 : r.code (some l) b { s1 with H := hset s1.H l (.loop .busy none fr sz vs ps a b d) } = some (.normal, s2)) (hl2 : hget s2.H l = some (.loop .busy none fr sz vs ps a b d)) :
    yieldF r l args H n = some (.bool true, hset s2.H l (.loop .ready none fr sz vs ps a b d), s2.n) := by
  unfold yieldF
  rw [h0]
  simp only [hlen, h1, hl1, h2, hl2]
  rfl
theorem yieldF_ret {r : Rec} {l : Nat} {args : List Value} {H : Heap} {n : Nat} {fr : Fr} {sz : Nat} {vs : List Nat} {ps : Array Tmp} {a b : Code} {d : Nat} {s1 s2 : St}
    (h0 : hget H l = some (.loop .ready none fr sz vs ps a b d)) (hlen : (Nat.beq args.length ps.size && ps.toList.all (fun t => Nat.blt t sz)) = true)
    (h1 : r.code (some l) a { fr := (ps.toList.zip args).foldl (fun fr (t, v) => (t, v) :: fr) fr, sz, H, n, marks := [], vs } = some (.normal, s1)) (hl1 : hget s1.H l = some (.loop .ready none fr sz vs ps a b d))
    (h2 : r.code (some l) b { s1 with H := hset s1.H l (.loop .busy none fr sz vs ps a b d) } = some (.ret, s2)) (hl2 : hget s2.H l = some (.loop .busy none fr sz vs ps a b d)) :
    yieldF r l args H n = some (.bool false, hset s2.H l (.loop .done (some .ret) fr sz vs ps a b d), s2.n) := by
  unfold yieldF
  rw [h0]
  simp only [hlen, h1, hl1, h2, hl2]
  rfl
theorem rangeF_ret {P : Program} {r : Rec} {f : Operand} {ps : Array Tmp} {x y : Code} {st : St} {g : FuncId} {first captured : Array Value} {v : Value} {H' : Heap} {k : Nat} {fr : Fr} {sz : Nat} {vs : List Nat} {d : Nat} {a b : Code} {st' : St}
    (hf : evO P st.fr f = some (.func (.func g) first captured)) (he : enterable P g = true)
    (hc : r.call g (first.toList ++ [.func (.yield (st.n + 1)) #[] #[]] ++ captured.toList) ((st.n + 1, .loop .ready none st.fr st.sz st.vs ps x y st.n) :: (st.n, .defd) :: st.H) (st.n + 2) = some (v, H', k))
    (hl : hget H' (st.n + 1) = some (.loop .done (some .ret) fr sz vs ps a b d))
    (hr : r.code none .ret { st with H := hset H' (st.n + 1) (.loop .exhausted (some .ret) fr sz vs ps a b d), n := k, marks := st.n :: st.marks } = some (.ret, st')) :
    rangeF P r none f ps x y st = some (.ret, st') := by
  unfold rangeF
  rw [hf]
  simp only [he, hc, hl]
  exact hr
theorem E.toATc {P : Program} {ro : Option Nat} {c : Code} {s s' : St} {e : Ex} (h : E P s.n ro c s fun e2 s2 => e2 = e ∧ s2.n = s'.n ∧ s2.sz = s'.sz ∧ s2.marks = s'.marks ∧ (∀ x ∈ s'.fr, lk s2.fr x.1 = some x.2) ∧ ∀ x ∈ s'.H, hget s2.H x.1 = some x.2) : AT P ro c s e s' := by
  obtain ⟨e2, s2, hx, rfl, h1, h2, h3, h4, h5⟩ := h
  exact (ATX.at hx).cut h1 h2 h3 (fun t v hv => h4 (t, v) (lk_mem _ _ _ hv)) (fun k b hk => h5 (k, b) (hget_mem _ _ _ hk))
/-- a range, known behind it as far as it is wanted -/
theorem E.rangeC {P : Program} {n0 : Nat} {r : Rec} {m : Nat} (hr : RecOk P r m) {ro : Option Nat} {f : Operand} {ps : Array Tmp} {x y : Code} {st st' : St} {e : Ex} {K : Ex → St → Prop} (s2 : St) (h : rangeF P r ro f ps x y st = some (e, st')) (h1 : st'.n = s2.n) (h2 : st'.sz = s2.sz) (h3 : st'.marks = s2.marks) (h4 : ∀ x ∈ s2.fr, lk st'.fr x.1 = some x.2) (h5 : ∀ x ∈ s2.H, hget st'.H x.1 = some x.2) (k : K e s2) : E P n0 ro (.rangeFunc f ps x y) st K :=
  .at ((rangeF_ok hr h).cut h1 h2 h3 (fun t v hv => h4 (t, v) (lk_mem _ _ _ hv)) (fun k b hk => h5 (k, b) (hget_mem _ _ _ hk))) k
@[simp] theorem scB_cells (p : Nat → Prop) (cs : List Value) (t : TypeId) : scB p (.cells cs t) = scL p cs := rfl
@[simp] theorem scB_ext (p : Nat → Prop) (cs : List Value) (t : TypeId) (sz : Nat) : scB p (.ext cs t sz) = scL p cs := rfl
@[simp] theorem scB_inp (p : Nat → Prop) (o : Nat) (cs : List Value) : scB p (.inp o cs) = scL p cs := rfl
@[simp] theorem scB_row (p : Nat → Prop) (cs : List Value) (sz : Nat) : scB p (.row cs sz) = scL p cs := rfl
@[simp] theorem scB_defd (p : Nat → Prop) : scB p .defd = True := rfl
@[simp] theorem scB_loop {p : Nat → Prop} {ls : LoopState} {pe : Option Code} {fr : Fr} {sz d : Nat} {vs : List Nat} {ps : Array Tmp} {a b : Code} (h1 : p d) (h2 : ∀ x ∈ fr, sc p x.2) : scB p (.loop ls pe fr sz vs ps a b d) = True := eq_true ⟨h1, fun t v hv => h2 (t, v) (lk_mem _ _ _ hv)⟩
@[simp] theorem heldB_cells (m : Nat) (cs : List Value) (t : TypeId) : heldB m (.cells cs t) = True := rfl
@[simp] theorem heldB_ext (m : Nat) (cs : List Value) (t : TypeId) (sz : Nat) : heldB m (.ext cs t sz) = True := rfl
@[simp] theorem heldB_inp (m o : Nat) (cs : List Value) : heldB m (.inp o cs) = True := rfl
@[simp] theorem heldB_row (m : Nat) (cs : List Value) (sz : Nat) : heldB m (.row cs sz) = True := rfl
@[simp] theorem heldB_defd (m : Nat) : heldB m .defd = True := rfl
end Go.Proofs.YtkongcnmkiihjaaGreatDoor

namespace Go.Proofs.YtkongcnmkiihjaaGreatDoor
open Go Go.Ab Go.Proofs Go.RowKit
noncomputable def asg84 : Code := match rfOf (bodyOf' Tryz.f84) with
  | some x => x.1
  | none => .skip
noncomputable def bdy84 : Code := match rfOf (bodyOf' Tryz.f84) with
  | some x => x.2
  | none => .skip
abbrev ptr (k : Nat) : Value := .pointer (some ⟨k, 0, none⟩)
abbrev fn181 : Value := .func (.func 181) #[] #[ptr 13]
abbrev fr84 : Fr := [(16, fn181), (2, ptr 9), (3, ptr 10), (4, ptr 11), (5, ptr 12)]
abbrev vs84 : List Nat := [2, 3, 4, 5]
noncomputable abbrev B84 (ls : LoopState) (pe : Option Code) (r : List UInt8) (ov : Value) (at' e : Int) : Heap := [(15, .loop ls pe fr84 48 vs84 #[17] asg84 bdy84 14), (14, .defd), (13, .cells [sL r] 9), (12, .cells [ov] 79), (11, .cells [iv e] 29), (10, .cells [iv at'] 3), (9, .cells [.slice none 0 0] 79)]
noncomputable def r84 (e : Ex) (s1 s2 : St) : Rec := recV Tryz.prog (fun _ c _ => match c with
  | .block _ _ => some (e, s2)
  | .region _ _ _ => some (.normal, s1)
  | _ => none) (fun _ _ _ _ => none)
theorem fr84_sc {m : Nat} (h : 14 ≤ m) : ∀ x ∈ fr84, sc (· < m) x.2 := by
  intro x hx
  simp only [fr84, List.mem_cons, List.not_mem_nil, or_false] at hx
  rcases hx with rfl | rfl | rfl | rfl | rfl <;> simp [sc, scL] <;> omega
@[simp high] theorem held84 {m : Nat} {ls : LoopState} {pe : Option Code} {a b : Code} (h : 14 < m) : heldB m (.loop ls pe fr84 48 vs84 #[17] a b 14) = True := eq_true ⟨h, fr84_sc (by omega)⟩
abbrev oV (k : Nat) : Value := .slice (some ⟨16, 0, some 0⟩) k 0
set_option maxHeartbeats 4000000 in
set_option maxRecDepth 100000 in
theorem yield84g0 (line w r : List UInt8) (p : Pk) (hcs : csV line = (w, true)) (hp : prsV w = (p, true)) (hl : line.length < 2147483648) (hwl : w.length < 2147483648) :
    ∃ q, RecOk Tryz.prog q 0 ∧ yieldF q 15 [sL line] (B84 .ready none r (.slice none 0 0) 0 0) 16 = some (.bool true, (18, .ext (pcs ([p])) 160 3) :: B84 .ready none r (.slice (some ⟨18, 0, some 0⟩) 1 0) 0 0, 19) := by
  have hr := recT_ok (P := Tryz.prog) (l := [(156, g156), (157, g157)]) (by simp only [List.forall_mem_cons]; exact ⟨ok156, ok157, by simp⟩)
  have hc1 : ∀ H n, g156 [sL line, sL [10]] H n = some (tupL (w, true), H, n) := fun H n => by rw [show g156 [sL line, sL [10]] H n = _ from g2S_eq hl, hcs]
  have hc2 : ∀ H n, g157 [sL w] H n = some (tupP (p, true), H, n) := fun H n => by rw [show g157 [sL w] H n = _ from gSB_eq hwl, hp]
  let s1 : St := { fr := [(2, ptr 9), (3, ptr 10), (4, ptr 11), (5, ptr 12), (6, sL line)], sz := 48, H := B84 .ready none r (.slice none 0 0) 0 0, n := 16, marks := [], vs := vs84 }
  let s2 : St := { fr := [], sz := 48, H := (18, .ext (pcs ([p])) 160 3) :: B84 .busy none r (.slice (some ⟨18, 0, some 0⟩) 1 0) 0 0, n := 19, marks := [], vs := [] }
  refine ⟨r84 .normal s1 s2, recV_ok, ?_⟩
  have hA : AT Tryz.prog (some 15) asg84 { fr := (17, sL line) :: fr84, sz := 48, H := B84 .ready none r (.slice none 0 0) 0 0, n := 16, marks := [], vs := vs84 } .normal s1 := by
    refine E.toATc ?_
    refine E.reg hr (by simp; rfl) ?_
    exact ⟨rfl, rfl, rfl, rfl, by simp [s1], by simp [s1]⟩
  have hB : AT Tryz.prog (some 15) bdy84 { s1 with H := B84 .busy none r (.slice none 0 0) 0 0 } .normal s2 := by
    refine E.toATc ?_
    refine E.block ?_
    refine E.seq ?_
    refine E.reg hr (by simp [s1, hc1]; rfl) ?_
    refine E.seq ?_
    refine E.reg hr (by simp [hc2]; rfl) ?_
    refine E.seq ?_
    refine E.seq ?_
    refine E.reg hr (by simp; rfl) ?_
    refine E.cond (t := false) (by rfl) (fun h => by cases h) (fun _ => ?_)
    refine E.skip ?_
    refine E.reg hr (by simp; rfl) ?_
    exact ⟨rfl, rfl, rfl, rfl, by simp [s2], by simp [s2, pcs]⟩
  have hh : hset s2.H 15 (.loop .ready none fr84 48 vs84 #[17] asg84 bdy84 14) = (18, .ext (pcs ([p])) 160 3) :: B84 .ready none r (.slice (some ⟨18, 0, some 0⟩) 1 0) 0 0 := by simp [s2]
  rw [← hh]
  refine yieldF_of (s1 := s1) (s2 := s2) (fr := fr84) (sz := 48) (vs := vs84) (ps := #[17]) (a := asg84) (b := bdy84) (d := 14) (by simp) rfl ?_ (by simp [s1]) ?_ (by simp [s2])
  · exact recV_code (by intro b h; cases h) rfl hA
  · show (r84 .normal s1 s2).code (some 15) bdy84 { s1 with H := hset s1.H 15 _ } = _
    rw [show hset s1.H 15 (.loop .busy none fr84 48 vs84 #[17] asg84 bdy84 14) = B84 .busy none r (.slice none 0 0) 0 0 by simp [s1]]
    exact recV_code (by intro b h; cases h) rfl hB
set_option maxHeartbeats 4000000 in
set_option maxRecDepth 100000 in
theorem yield84b0 (line w r : List UInt8) (p : Pk) (wh is : Bool) (hcs : csV line = (w, wh)) (hp : prsV w = (p, is)) (hb : wh = false ∨ is = false) (hl : line.length < 2147483648) (hwl : w.length < 2147483648) :
    ∃ q, RecOk Tryz.prog q 0 ∧ yieldF q 15 [sL line] (B84 .ready none r (.slice none 0 0) 0 0) 16 = some (.bool false, B84 .done (some .ret) r (.slice none 0 0) 0 25, 17) := by
  have hr := recT_ok (P := Tryz.prog) (l := [(156, g156), (157, g157)]) (by simp only [List.forall_mem_cons]; exact ⟨ok156, ok157, by simp⟩)
  have hc1 : ∀ H n, g156 [sL line, sL [10]] H n = some (tupL (w, wh), H, n) := fun H n => by rw [show g156 [sL line, sL [10]] H n = _ from g2S_eq hl, hcs]
  have hc2 : ∀ H n, g157 [sL w] H n = some (tupP (p, is), H, n) := fun H n => by rw [show g157 [sL w] H n = _ from gSB_eq hwl, hp]
  let s1 : St := { fr := [(2, ptr 9), (3, ptr 10), (4, ptr 11), (5, ptr 12), (6, sL line)], sz := 48, H := B84 .ready none r (.slice none 0 0) 0 0, n := 16, marks := [], vs := vs84 }
  let s2 : St := { fr := [], sz := 48, H := B84 .busy none r (.slice none 0 0) 0 25, n := 17, marks := [], vs := [] }
  refine ⟨r84 .ret s1 s2, recV_ok, ?_⟩
  have hA : AT Tryz.prog (some 15) asg84 { fr := (17, sL line) :: fr84, sz := 48, H := B84 .ready none r (.slice none 0 0) 0 0, n := 16, marks := [], vs := vs84 } .normal s1 := by
    refine E.toATc ?_
    refine E.reg hr (by simp; rfl) ?_
    exact ⟨rfl, rfl, rfl, rfl, by simp [s1], by simp [s1]⟩
  have hB : AT Tryz.prog (some 15) bdy84 { s1 with H := B84 .busy none r (.slice none 0 0) 0 0 } .ret s2 := by
    refine E.toATc ?_
    refine E.block ?_
    refine E.seq ?_
    refine E.reg hr (by simp [s1, hc1]; rfl) ?_
    refine E.seq ?_
    refine E.reg hr (by simp [hc2]; rfl) ?_
    refine E.seq ?_
    refine E.seq ?_
    refine E.regL hr { fr := [(2, ptr 9), (3, ptr 10), (4, ptr 11), (5, ptr 12), (33, .bool true)], sz := 48, H := B84 .busy none r (.slice none 0 0) 0 0, n := 17, marks := [], vs := vs84 } ?_ ?_
    · cases wh with
      | false =>
        refine ⟨_, by simp; rfl, ?_⟩
        exact .less rfl rfl rfl (by simp) (by simp)
      | true =>
        have hi : is = false := by simpa using hb
        subst hi
        refine ⟨_, by simp; rfl, ?_⟩
        exact .less rfl rfl rfl (by simp) (by simp)
    refine E.cond (t := true) (by rfl) (fun _ => ?_) (fun h => by cases h)
    refine E.seq ?_
    refine E.drawW mixed hr [3, 4] [] [0, 2, 3, 4] [0, 1] 2 (by kernel_rfl) (by simp; rfl) ?_
    refine E.ret ?_
    exact ⟨rfl, rfl, rfl, rfl, by simp [s2], by simp [s2]⟩
  have hh : hset s2.H 15 (.loop .done (some .ret) fr84 48 vs84 #[17] asg84 bdy84 14) = B84 .done (some .ret) r (.slice none 0 0) 0 25 := by simp [s2]
  rw [← hh]
  refine yieldF_ret (s1 := s1) (s2 := s2) (fr := fr84) (sz := 48) (vs := vs84) (ps := #[17]) (a := asg84) (b := bdy84) (d := 14) (by simp) rfl ?_ (by simp [s1]) ?_ (by simp [s2])
  · exact recV_code (by intro b h; cases h) rfl hA
  · show (r84 .ret s1 s2).code (some 15) bdy84 { s1 with H := hset s1.H 15 _ } = _
    rw [show hset s1.H 15 (.loop .busy none fr84 48 vs84 #[17] asg84 bdy84 14) = B84 .busy none r (.slice none 0 0) 0 0 by simp [s1]]
    exact recV_code (by intro b h; cases h) rfl hB
set_option maxHeartbeats 4000000 in
set_option maxRecDepth 100000 in
theorem yield84gS (line w r : List UInt8) (p : Pk) (Q : List Pk) (hQ : Q.length < 100000) (_hQ0 : Q ≠ []) (hcs : csV line = (w, true)) (hp : prsV w = (p, true)) (hl : line.length < 2147483648) (hwl : w.length < 2147483648) :
    ∃ q, RecOk Tryz.prog q 0 ∧ yieldF q 15 [sL line] ((16, .ext (pcs Q) 160 3) :: B84 .ready none r (oV Q.length) 0 0) 17 = some (.bool true, (19, .ext (pcs (Q ++ [p])) 160 3) :: B84 .ready none r (.slice (some ⟨19, 0, some 0⟩) (Q.length + 1) 0) 0 0, 20) := by
  have hr := recT_ok (P := Tryz.prog) (l := [(156, g156), (157, g157)]) (by simp only [List.forall_mem_cons]; exact ⟨ok156, ok157, by simp⟩)
  have hc1 : ∀ H n, g156 [sL line, sL [10]] H n = some (tupL (w, true), H, n) := fun H n => by rw [show g156 [sL line, sL [10]] H n = _ from g2S_eq hl, hcs]
  have hc2 : ∀ H n, g157 [sL w] H n = some (tupP (p, true), H, n) := fun H n => by rw [show g157 [sL w] H n = _ from gSB_eq hwl, hp]
  let s1 : St := { fr := [(2, ptr 9), (3, ptr 10), (4, ptr 11), (5, ptr 12), (6, sL line)], sz := 48, H := (16, .ext (pcs Q) 160 3) :: B84 .ready none r (oV Q.length) 0 0, n := 17, marks := [], vs := vs84 }
  let s2 : St := { fr := [], sz := 48, H := (19, .ext (pcs (Q ++ [p])) 160 3) :: B84 .busy none r (.slice (some ⟨19, 0, some 0⟩) (Q.length + 1) 0) 0 0, n := 20, marks := [], vs := [] }
  refine ⟨r84 .normal s1 s2, recV_ok, ?_⟩
  have hA : AT Tryz.prog (some 15) asg84 { fr := (17, sL line) :: fr84, sz := 48, H := (16, .ext (pcs Q) 160 3) :: B84 .ready none r (oV Q.length) 0 0, n := 17, marks := [], vs := vs84 } .normal s1 := by
    refine E.toATc ?_
    refine E.reg hr (by simp; rfl) ?_
    exact ⟨rfl, rfl, rfl, rfl, by simp [s1], by simp [s1]⟩
  have hB : AT Tryz.prog (some 15) bdy84 { s1 with H := (16, .ext (pcs Q) 160 3) :: B84 .busy none r (oV Q.length) 0 0 } .normal s2 := by
    refine E.toATc ?_
    refine E.block ?_
    refine E.seq ?_
    refine E.reg hr (by simp [s1, hc1]; rfl) ?_
    refine E.seq ?_
    refine E.reg hr (by simp [hc2]; rfl) ?_
    refine E.seq ?_
    refine E.seq ?_
    refine E.reg hr (by simp; rfl) ?_
    refine E.cond (t := false) (by rfl) (fun h => by cases h) (fun _ => ?_)
    refine E.skip ?_
    have hpl := pcs_length Q
    have ht : List.take (Q.length * 3) (pcs Q) = pcs Q := List.take_of_length_le (by omega)
    have hno : ¬ (Q.length + 1) * 3 ≤ Q.length * 3 := by omega
    have hsm : (Q.length + 1) * 24 ≤ 1099511627776 ∧ (Q.length + 1) * 3 ≤ 1099511627776 ∧ Q.length + 1 ≤ 1099511627776 := by omega
    have happ : pcs (Q ++ [p]) = pcs Q ++ p.cells := by simp [pcs]
    refine E.reg hr (by simp [hsm, ht, hno]; rfl) ?_
    exact ⟨rfl, rfl, rfl, rfl, by simp [s2], by simp [s2, happ]⟩
  have hh : hset s2.H 15 (.loop .ready none fr84 48 vs84 #[17] asg84 bdy84 14) = (19, .ext (pcs (Q ++ [p])) 160 3) :: B84 .ready none r (.slice (some ⟨19, 0, some 0⟩) (Q.length + 1) 0) 0 0 := by simp [s2]
  rw [← hh]
  refine yieldF_of (s1 := s1) (s2 := s2) (fr := fr84) (sz := 48) (vs := vs84) (ps := #[17]) (a := asg84) (b := bdy84) (d := 14) (by simp) rfl ?_ (by simp [s1]) ?_ (by simp [s2])
  · exact recV_code (by intro b h; cases h) rfl hA
  · show (r84 .normal s1 s2).code (some 15) bdy84 { s1 with H := hset s1.H 15 _ } = _
    rw [show hset s1.H 15 (.loop .busy none fr84 48 vs84 #[17] asg84 bdy84 14) = (16, .ext (pcs Q) 160 3) :: B84 .busy none r (oV Q.length) 0 0 by simp [s1]]
    exact recV_code (by intro b h; cases h) rfl hB
set_option maxHeartbeats 4000000 in
set_option maxRecDepth 100000 in
theorem yield84bS (line w r : List UInt8) (p : Pk) (Q : List Pk) (_hQ : Q.length < 100000) (_hQ0 : Q ≠ []) (wh is : Bool) (hcs : csV line = (w, wh)) (hp : prsV w = (p, is)) (hb : wh = false ∨ is = false) (hl : line.length < 2147483648) (hwl : w.length < 2147483648) :
    ∃ q, RecOk Tryz.prog q 0 ∧ yieldF q 15 [sL line] ((16, .ext (pcs Q) 160 3) :: B84 .ready none r (oV Q.length) 0 0) 17 = some (.bool false, (16, .ext (pcs Q) 160 3) :: B84 .done (some .ret) r (oV Q.length) (Q.length : Int) 25, 18) := by
  have hr := recT_ok (P := Tryz.prog) (l := [(156, g156), (157, g157)]) (by simp only [List.forall_mem_cons]; exact ⟨ok156, ok157, by simp⟩)
  have hc1 : ∀ H n, g156 [sL line, sL [10]] H n = some (tupL (w, wh), H, n) := fun H n => by rw [show g156 [sL line, sL [10]] H n = _ from g2S_eq hl, hcs]
  have hc2 : ∀ H n, g157 [sL w] H n = some (tupP (p, is), H, n) := fun H n => by rw [show g157 [sL w] H n = _ from gSB_eq hwl, hp]
  let s1 : St := { fr := [(2, ptr 9), (3, ptr 10), (4, ptr 11), (5, ptr 12), (6, sL line)], sz := 48, H := (16, .ext (pcs Q) 160 3) :: B84 .ready none r (oV Q.length) 0 0, n := 17, marks := [], vs := vs84 }
  let s2 : St := { fr := [], sz := 48, H := (16, .ext (pcs Q) 160 3) :: B84 .busy none r (oV Q.length) (Q.length : Int) 25, n := 18, marks := [], vs := [] }
  refine ⟨r84 .ret s1 s2, recV_ok, ?_⟩
  have hA : AT Tryz.prog (some 15) asg84 { fr := (17, sL line) :: fr84, sz := 48, H := (16, .ext (pcs Q) 160 3) :: B84 .ready none r (oV Q.length) 0 0, n := 17, marks := [], vs := vs84 } .normal s1 := by
    refine E.toATc ?_
    refine E.reg hr (by simp; rfl) ?_
    exact ⟨rfl, rfl, rfl, rfl, by simp [s1], by simp [s1]⟩
  have hB : AT Tryz.prog (some 15) bdy84 { s1 with H := (16, .ext (pcs Q) 160 3) :: B84 .busy none r (oV Q.length) 0 0 } .ret s2 := by
    refine E.toATc ?_
    refine E.block ?_
    refine E.seq ?_
    refine E.reg hr (by simp [s1, hc1]; rfl) ?_
    refine E.seq ?_
    refine E.reg hr (by simp [hc2]; rfl) ?_
    refine E.seq ?_
    refine E.seq ?_
    refine E.regL hr { fr := [(2, ptr 9), (3, ptr 10), (4, ptr 11), (5, ptr 12), (33, .bool true)], sz := 48, H := (16, .ext (pcs Q) 160 3) :: B84 .busy none r (oV Q.length) 0 0, n := 18, marks := [], vs := vs84 } ?_ ?_
    · cases wh with
      | false =>
        refine ⟨_, by simp; rfl, ?_⟩
        exact .less rfl rfl rfl (by simp) (by simp)
      | true =>
        have hi : is = false := by simpa using hb
        subst hi
        refine ⟨_, by simp; rfl, ?_⟩
        exact .less rfl rfl rfl (by simp) (by simp)
    refine E.cond (t := true) (by rfl) (fun _ => ?_) (fun h => by cases h)
    refine E.seq ?_
    refine E.drawW mixed hr [3, 4] [] [0, 2, 3, 4] [0, 1] 2 (by kernel_rfl) (by simp; rfl) ?_
    refine E.ret ?_
    exact ⟨rfl, rfl, rfl, rfl, by simp [s2], by simp [s2]⟩
  have hh : hset s2.H 15 (.loop .done (some .ret) fr84 48 vs84 #[17] asg84 bdy84 14) = (16, .ext (pcs Q) 160 3) :: B84 .done (some .ret) r (oV Q.length) (Q.length : Int) 25 := by simp [s2]
  rw [← hh]
  refine yieldF_ret (s1 := s1) (s2 := s2) (fr := fr84) (sz := 48) (vs := vs84) (ps := #[17]) (a := asg84) (b := bdy84) (d := 14) (by simp) rfl ?_ (by simp [s1]) ?_ (by simp [s2])
  · exact recV_code (by intro b h; cases h) rfl hA
  · show (r84 .ret s1 s2).code (some 15) bdy84 { s1 with H := hset s1.H 15 _ } = _
    rw [show hset s1.H 15 (.loop .busy none fr84 48 vs84 #[17] asg84 bdy84 14) = (16, .ext (pcs Q) 160 3) :: B84 .busy none r (oV Q.length) 0 0 by simp [s1]]
    exact recV_code (by intro b h; cases h) rfl hB
end Go.Proofs.YtkongcnmkiihjaaGreatDoor

namespace Go.Proofs.YtkongcnmkiihjaaGreatDoor
open Go Go.Ab Go.Proofs Go.RowKit
attribute [local simp] run_vcall_tmp vcallF target
abbrev yv15 : Value := .func (.yield 15) #[] #[]
noncomputable def S181 (L : List (List UInt8)) : Nat × List UInt8 → St
  | (0, r) => { fr := [(0, yv15), (1, ptr 13)], sz := 25, H := B84 .ready none r (.slice none 0 0) 0 0, n := 16, marks := [], vs := [0, 1] }
  | (k + 1, r) => { fr := [(0, yv15), (1, ptr 13)], sz := 25, H := (16, .ext (pcs (pksD (L.take (k + 1)))) 160 3) :: B84 .ready none r (oV (k + 1)) 0 0, n := 17, marks := [], vs := [0, 1] }
def outv (Q : List Pk) : Value := if Q = [] then .slice none 0 0 else oV Q.length
def okH (Q : List Pk) (H : Heap) : Prop := (∀ x ∈ B84 .ready none [] (outv Q) 0 0, hget H x.1 = some x.2) ∧ (Q ≠ [] → hget H 16 = some (.ext (pcs Q) 160 3))
def badH (k : Int) (H : Heap) : Prop := ∃ r ov, ∀ x ∈ B84 .done (some .ret) r ov k 25, hget H x.1 = some x.2
def Q181 (L : List (List UInt8)) (W : List UInt8) (v : Value) (H : Heap) (n : Nat) : Prop := v = .tuple #[] ∧
  ((goodN L = L.length ∧ W = [] ∧ okH (pksD L) H ∧ (pksD L ≠ [] → 17 ≤ n)) ∨ (goodN L < L.length ∧ badH (goodN L) H) ∨ (goodN L = L.length ∧ W ≠ [] ∧ badH L.length H))
theorem prs_good {w : List UInt8} {p : Pk} (h : linV w = (p, true)) : prsV w = (p, true) := by
  obtain ⟨h1, h2⟩ := prs_lin w
  rw [h] at h1 h2
  have h3 := h2 rfl
  rw [Prod.ext_iff]
  exact ⟨h3, h1⟩
theorem prs_bad {w : List UInt8} (h : (linV w).2 = false) : (prsV w).2 = false := by rw [(prs_lin w).1, h]
set_option maxHeartbeats 8000000 in
set_option maxRecDepth 100000 in
theorem w181 (s : List UInt8) (hl : s.length ≤ 4096) : ∃ v H' n', AC Tryz.prog 181 [yv15, ptr 13] (B84 .ready none s (.slice none 0 0) 0 0) 16 v H' n' ∧ Q181 (spD 10 s) (spW 10 s) v H' n' := by
  have hr := recT_ok (P := Tryz.prog) (l := [(182, gIb)]) (by simp only [List.forall_mem_cons]; exact ⟨ok182, by simp⟩)
  obtain ⟨L, hL⟩ : ∃ L, L = spD 10 s := ⟨_, rfl⟩
  obtain ⟨W, hW⟩ : ∃ W, W = spW 10 s := ⟨_, rfl⟩
  have hLl : L.length ≤ 4096 := by
    have := spF_len 10 s [] []
    rw [show (spF 10 s [] []).1 = spD 10 s from rfl, ← hL] at this
    simp at this
    omega
  rw [← hL, ← hW]
  refine AC.bodyX Tryz.func181 rfl (by kernel_rfl) rfl [0, 1] ?_
  refine E.block ?_
  refine E.loop ?_
  refine EL.ind (S181 L) (fun x => x.2.length) (fun x => x.1 ≤ L.length ∧ x.2.length ≤ 4096 ∧ spD 10 x.2 = L.drop x.1 ∧ spW 10 x.2 = W ∧ ∀ j (hj : j < L.length), j < x.1 → (linV L[j]).2 = true) (0, s) (.less rfl rfl rfl (by simp [S181]) (by simp [S181])) ⟨Nat.zero_le _, hl, by rw [hL]; rfl, by rw [hW], fun j _ hj => absurd hj (by omega)⟩ (fun x => by obtain ⟨k, r⟩ := x; cases k <;> rfl) ?_
  rintro ⟨k, r⟩ ⟨hk, hrl, hD, hWr, hg⟩
  dsimp only at hk hrl hD hWr hg
  by_cases hr0 : r = []
  · -- the end
    subst hr0
    have hkL : k = L.length := by
      have : L.drop k = [] := by rw [← hD]; rfl
      have := List.drop_eq_nil_iff.1 this
      omega
    have hWn : W = [] := by rw [← hWr]; rfl
    have hgood : goodN L = L.length := goodN_good fun j hj => hg j hj (by omega)
    rcases k with _ | k
    · refine E.seq ?_
      refine E.seq ?_
      refine E.reg hr (by simp [S181]; rfl) ?_
      refine E.cond (t := false) (by rfl) (fun h => by cases h) (fun _ => ?_)
      refine E.exit ?_
      have hL0 : L = [] := List.length_eq_zero_iff.1 hkL.symm
      refine ⟨.inl rfl, .tuple #[], _, _, by simp [leaveF, shutA, resultsA, Tryz.results181, dropOk]; exact ⟨rfl, rfl⟩, rfl, .inl ⟨hgood, hWn, ⟨?_, ?_⟩, ?_⟩⟩
      · rw [hL0]
        simp [outv, pksD]
      · rw [hL0]
        exact fun h => absurd rfl h
      · rw [hL0]
        exact fun h => absurd rfl h
    · refine E.seq ?_
      refine E.seq ?_
      refine E.reg hr (by simp [S181]; rfl) ?_
      refine E.cond (t := false) (by rfl) (fun h => by cases h) (fun _ => ?_)
      refine E.exit ?_
      have hal : L.take (k + 1) = L := List.take_of_length_le (by omega)
      have hpl : (pksD L).length = k + 1 := by simp [pksD]; omega
      have hpn : pksD L ≠ [] := fun h => by rw [h] at hpl; simp at hpl
      refine ⟨.inl rfl, .tuple #[], _, _, by simp [leaveF, shutA, resultsA, Tryz.results181, dropOk]; exact ⟨rfl, rfl⟩, rfl, .inl ⟨hgood, hWn, ⟨?_, ?_⟩, ?_⟩⟩
      · rw [hal, outv, if_neg hpn, hpl]
        simp
      · rw [hal]
        intro _
        simp
      · exact fun _ => Nat.le_refl _
  have hrpos : 0 < r.length := List.length_pos_iff.2 hr0
  have hrI : (0 : Int) < (r.length : Int) := by omega
  rcases first_cut 10 r with ⟨h1, h2⟩ | ⟨a, r', h1, h2, h3⟩
  · -- what is left without an end
    have hkL : k = L.length := by
      have : L.drop k = [] := by rw [← hD]; exact (sp_miss h2).1
      have := List.drop_eq_nil_iff.1 this
      omega
    have hWr' : W = r := by rw [← hWr]; exact (sp_miss h2).2
    have hgood : goodN L = L.length := goodN_good fun j hj => hg j hj (by omega)
    obtain ⟨x, hx⟩ : ∃ x, x = prsV r := ⟨_, rfl⟩
    obtain ⟨p, is⟩ := x
    have hcs := csV_rest h2
    rcases k with _ | k
    · obtain ⟨q, hq, hy⟩ := yield84b0 r r [] p false is hcs hx.symm (.inl rfl) (by omega) (by omega)
      refine E.seq ?_
      refine E.seq ?_
      refine E.reg hr (by simp [S181, hrpos]; rfl) ?_
      refine E.cond (t := true) (by rfl) (fun _ => ?_) (fun h => by cases h)
      refine E.skip ?_
      refine E.block ?_
      refine E.seq ?_
      refine E.reg hr (by simp; rfl) ?_
      refine E.seq ?_
      refine E.seq ?_
      refine E.reg hr (by simp [h1]; rfl) ?_
      refine E.seq ?_
      refine E.reg hr (by simp; rfl) ?_
      refine E.cond (t := false) (by rfl) (fun h => by cases h) (fun _ => ?_)
      refine E.reg hr (by simp; rfl) ?_
      refine E.seq ?_
      refine E.reg hq (by simp [hy]; rfl) ?_
      refine E.cond (t := true) (by rfl) (fun _ => ?_) (fun h => by cases h)
      refine E.ret ?_
      refine ⟨.inr rfl, .tuple #[], _, _, by simp [leaveF, shutA, resultsA, Tryz.results181, dropOk]; exact ⟨rfl, rfl⟩, rfl, .inr (.inr ⟨hgood, by rw [hWr']; exact hr0, [], .slice none 0 0, by rw [← hkL]; simp⟩)⟩
    · have hpl : (pksD (L.take (k + 1))).length = k + 1 := pksD_len _ _ (by omega)
      have hpn : pksD (L.take (k + 1)) ≠ [] := fun h => by rw [h] at hpl; simp at hpl
      obtain ⟨q, hq, hy⟩ := yield84bS r r [] p (pksD (L.take (k + 1))) (by omega) hpn false is hcs hx.symm (.inl rfl) (by omega) (by omega)
      rw [hpl] at hy
      refine E.seq ?_
      refine E.seq ?_
      refine E.reg hr (by simp [S181, hrpos]; rfl) ?_
      refine E.cond (t := true) (by rfl) (fun _ => ?_) (fun h => by cases h)
      refine E.skip ?_
      refine E.block ?_
      refine E.seq ?_
      refine E.reg hr (by simp; rfl) ?_
      refine E.seq ?_
      refine E.seq ?_
      refine E.reg hr (by simp [h1]; rfl) ?_
      refine E.seq ?_
      refine E.reg hr (by simp; rfl) ?_
      refine E.cond (t := false) (by rfl) (fun h => by cases h) (fun _ => ?_)
      refine E.reg hr (by simp; rfl) ?_
      refine E.seq ?_
      refine E.reg hq (by simp [hy]; rfl) ?_
      refine E.cond (t := true) (by rfl) (fun _ => ?_) (fun h => by cases h)
      refine E.ret ?_
      refine ⟨.inr rfl, .tuple #[], _, _, by simp [leaveF, shutA, resultsA, Tryz.results181, dropOk]; exact ⟨rfl, rfl⟩, rfl, .inr (.inr ⟨hgood, by rw [hWr']; exact hr0, [], oV (k + 1), by rw [← hkL]; simp⟩)⟩
  · -- a line
    have hDr : spD 10 r = a :: spD 10 r' := by rw [h1]; exact (sp_hit h2).1
    have hWr2 : spW 10 r' = W := by rw [← hWr, h1]; exact (sp_hit h2).2.symm
    have hkL : k < L.length := by
      refine Nat.lt_of_not_le fun hc => ?_
      rw [List.drop_eq_nil_of_le hc, hDr] at hD
      cases hD
    rw [List.drop_eq_getElem_cons hkL, hDr] at hD
    injection hD with hD1 hD2
    have hsl : r.length = a.length + (r'.length + 1) := by rw [h1]; simp
    have e1 := slice_hi (s := r) (b := a.length + 1) (by omega)
    have e2 := slice_lo (s := r) (a := a.length + 1) (by omega)
    rw [show r.take (a.length + 1) = a ++ [10] by rw [h1, List.take_append, List.take_of_length_le (by omega)]; simp] at e1
    rw [show r.drop (a.length + 1) = r' by rw [h1]; simp] at e2
    rw [show (((a.length + 1 : Nat)) : Int) = (a.length : Int) + 1 by omega] at e1 e2
    have hw : IntKind.i64.wrap ((a.length : Int) + 1) = (a.length : Int) + 1 := W_in (by omega) (by omega)
    have ha0 : (0 : Int) ≤ (a.length : Int) := by omega
    have hcs := csV_line a
    have hll : (a ++ [10]).length = a.length + 1 := by simp
    cases hb : (linV a).2 with
    | true =>
      obtain ⟨p, hp⟩ : ∃ p, linV a = (p, true) := ⟨(linV a).1, by rw [← hb]⟩
      have hprs := prs_good hp
      have hpk := pksD_snoc hkL
      rw [← hD1, hp] at hpk
      have hnext : k + 1 ≤ L.length ∧ r'.length ≤ 4096 ∧ spD 10 r' = L.drop (k + 1) ∧ spW 10 r' = W ∧ ∀ j (hj : j < L.length), j < k + 1 → (linV L[j]).2 = true := by
        refine ⟨hkL, by omega, hD2, hWr2, fun j hj hji => ?_⟩
        by_cases e : j = k
        · subst e
          rw [← hD1, hp]
        · exact hg j hj (by omega)
      rcases k with _ | k
      · have hpk0 : pksD (L.take 1) = [p] := by simpa [pksD] using hpk
        obtain ⟨q, hq, hy⟩ := yield84g0 (a ++ [10]) a r' p hcs hprs (by omega) (by omega)
        refine E.seq ?_
        refine E.seq ?_
        refine E.reg hr (by simp [S181, hrpos]; rfl) ?_
        refine E.cond (t := true) (by rfl) (fun _ => ?_) (fun h => by cases h)
        refine E.skip ?_
        refine E.block ?_
        refine E.seq ?_
        refine E.reg hr (by simp; rfl) ?_
        refine E.seq ?_
        refine E.seq ?_
        refine E.reg hr (by simp [h3]; rfl) ?_
        refine E.seq ?_
        refine E.reg hr (by simp; rfl) ?_
        refine E.cond (t := true) (by rfl) (fun _ => ?_) (fun h => by cases h)
        refine E.drawC mixed hr [9] [] [0, 3, 4, 7, 9] (by kernel_rfl) (by simp [opSlice, evI, hw, e1, e2]; rfl) ?_
        refine E.seq ?_
        refine E.reg hq (by simp [hy]; rfl) ?_
        refine E.cond (t := false) (by rfl) (fun h => by cases h) (fun _ => ?_)
        refine E.skip ?_
        exact ⟨(1, r'), Leads.ren2 [18] rfl rfl rfl ⟨rfl, rfl⟩ (by simp [S181]) (by simp [S181, hpk0, -scB]), hnext, by dsimp only; omega⟩
      · have hpl : (pksD (L.take (k + 1))).length = k + 1 := pksD_len _ _ (by omega)
        have hpn : pksD (L.take (k + 1)) ≠ [] := fun h => by rw [h] at hpl; simp at hpl
        obtain ⟨q, hq, hy⟩ := yield84gS (a ++ [10]) a r' p (pksD (L.take (k + 1))) (by omega) hpn hcs hprs (by omega) (by omega)
        rw [hpl] at hy
        refine E.seq ?_
        refine E.seq ?_
        refine E.reg hr (by simp [S181, hrpos]; rfl) ?_
        refine E.cond (t := true) (by rfl) (fun _ => ?_) (fun h => by cases h)
        refine E.skip ?_
        refine E.block ?_
        refine E.seq ?_
        refine E.reg hr (by simp; rfl) ?_
        refine E.seq ?_
        refine E.seq ?_
        refine E.reg hr (by simp [h3]; rfl) ?_
        refine E.seq ?_
        refine E.reg hr (by simp; rfl) ?_
        refine E.cond (t := true) (by rfl) (fun _ => ?_) (fun h => by cases h)
        refine E.drawC mixed hr [9] [] [0, 3, 4, 7, 9] (by kernel_rfl) (by simp [opSlice, evI, hw, e1, e2]; rfl) ?_
        refine E.seq ?_
        refine E.reg hq (by simp [hy]; rfl) ?_
        refine E.cond (t := false) (by rfl) (fun h => by cases h) (fun _ => ?_)
        refine E.skip ?_
        exact ⟨(k + 1 + 1, r'), Leads.ren2 [19] rfl rfl rfl ⟨rfl, rfl⟩ (by simp [S181]) (by simp [S181, hpk, -scB]), hnext, by dsimp only; omega⟩
    | false =>
      have hgb : goodN L = k := goodN_bad hkL (by rw [← hD1]; exact hb) hg
      obtain ⟨x, hx⟩ : ∃ x, x = prsV a := ⟨_, rfl⟩
      have hxb := prs_bad hb
      rw [← hx] at hxb
      obtain ⟨p, is⟩ := x
      dsimp only at hxb
      rcases k with _ | k
      · obtain ⟨q, hq, hy⟩ := yield84b0 (a ++ [10]) a r' p true is hcs hx.symm (.inr hxb) (by omega) (by omega)
        refine E.seq ?_
        refine E.seq ?_
        refine E.reg hr (by simp [S181, hrpos]; rfl) ?_
        refine E.cond (t := true) (by rfl) (fun _ => ?_) (fun h => by cases h)
        refine E.skip ?_
        refine E.block ?_
        refine E.seq ?_
        refine E.reg hr (by simp; rfl) ?_
        refine E.seq ?_
        refine E.seq ?_
        refine E.reg hr (by simp [h3]; rfl) ?_
        refine E.seq ?_
        refine E.reg hr (by simp; rfl) ?_
        refine E.cond (t := true) (by rfl) (fun _ => ?_) (fun h => by cases h)
        refine E.drawC mixed hr [9] [] [0, 3, 4, 7, 9] (by kernel_rfl) (by simp [opSlice, evI, hw, e1, e2]; rfl) ?_
        refine E.seq ?_
        refine E.reg hq (by simp [hy]; rfl) ?_
        refine E.cond (t := true) (by rfl) (fun _ => ?_) (fun h => by cases h)
        refine E.ret ?_
        refine ⟨.inr rfl, .tuple #[], _, _, by simp [leaveF, shutA, resultsA, Tryz.results181, dropOk]; exact ⟨rfl, rfl⟩, rfl, .inr (.inl ⟨by omega, r', .slice none 0 0, by rw [hgb]; simp⟩)⟩
      · have hpl : (pksD (L.take (k + 1))).length = k + 1 := pksD_len _ _ (by omega)
        have hpn : pksD (L.take (k + 1)) ≠ [] := fun h => by rw [h] at hpl; simp at hpl
        obtain ⟨q, hq, hy⟩ := yield84bS (a ++ [10]) a r' p (pksD (L.take (k + 1))) (by omega) hpn true is hcs hx.symm (.inr hxb) (by omega) (by omega)
        rw [hpl] at hy
        refine E.seq ?_
        refine E.seq ?_
        refine E.reg hr (by simp [S181, hrpos]; rfl) ?_
        refine E.cond (t := true) (by rfl) (fun _ => ?_) (fun h => by cases h)
        refine E.skip ?_
        refine E.block ?_
        refine E.seq ?_
        refine E.reg hr (by simp; rfl) ?_
        refine E.seq ?_
        refine E.seq ?_
        refine E.reg hr (by simp [h3]; rfl) ?_
        refine E.seq ?_
        refine E.reg hr (by simp; rfl) ?_
        refine E.cond (t := true) (by rfl) (fun _ => ?_) (fun h => by cases h)
        refine E.drawC mixed hr [9] [] [0, 3, 4, 7, 9] (by kernel_rfl) (by simp [opSlice, evI, hw, e1, e2]; rfl) ?_
        refine E.seq ?_
        refine E.reg hq (by simp [hy]; rfl) ?_
        refine E.cond (t := true) (by rfl) (fun _ => ?_) (fun h => by cases h)
        refine E.ret ?_
        refine ⟨.inr rfl, .tuple #[], _, _, by simp [leaveF, shutA, resultsA, Tryz.results181, dropOk]; exact ⟨rfl, rfl⟩, rfl, .inr (.inl ⟨by omega, r', oV (k + 1), by rw [hgb]; simp⟩)⟩
end Go.Proofs.YtkongcnmkiihjaaGreatDoor

namespace Go.Proofs.YtkongcnmkiihjaaGreatDoor
open Go Go.Ab Go.Proofs Go.RowKit
theorem w155 (s : List UInt8) (H : Heap) (n : Nat) : AC Tryz.prog 155 [sL s] H n (.func (.func 181) #[] #[.pointer (some ⟨n, 0, none⟩)]) ((n, .cells [sL s] 9) :: H) (n + 1) := by
  have hr := recT_ok (P := Tryz.prog) (l := []) (by simp)
  refine AC.body Tryz.func155 rfl (by kernel_rfl) rfl [] ?_
  refine E.seq ?_
  refine E.reg hr (by simp; rfl) ?_
  refine E.seq ?_
  refine E.reg hr (by simp [opMakefunc]; rfl) ?_
  refine E.ret ?_
  exact ⟨.inr rfl, by simp [leaveF, shutA, resultsA, resultA, Tryz.results155, dropOk]⟩
def q84 (s : List UInt8) (v : Value) (H : Heap) : Prop := match (parV s).out with
  | [] => v = .tuple #[.slice none 0 0, iv (parV s).at', iv (parV s).e]
  | p :: l => ∃ m, v = .tuple #[.slice (some ⟨m, 0, some 0⟩) (l.length + 1) 0, iv 0, iv 0] ∧ hget H m = some (.ext (pcs (p :: l)) 160 3) ∧ 9 ≤ m
theorem q84_nil {s : List UInt8} {a e : Int} {H : Heap} (h : parV s = ⟨[], a, e⟩) : q84 s (.tuple #[.slice none 0 0, iv a, iv e]) H := by
  unfold q84
  rw [h]
theorem q84_cons {s : List UInt8} {Q : List Pk} {H : Heap} {m : Nat} (h : parV s = ⟨Q, 0, 0⟩) (hne : Q ≠ []) (hm : hget H m = some (.ext (pcs Q) 160 3)) (h9 : 9 ≤ m) : q84 s (.tuple #[.slice (some ⟨m, 0, some 0⟩) Q.length 0, iv 0, iv 0]) H := by
  unfold q84
  rw [h]
  cases Q with
  | nil => exact absurd rfl hne
  | cons q Q => exact ⟨m, rfl, hm, h9⟩
theorem ent181 : enterable Tryz.prog 181 = true := by kernel_rfl
set_option maxHeartbeats 8000000 in
set_option maxRecDepth 100000 in
theorem w84 (s : List UInt8) (hl : s.length < 2147483648) : ∃ v H' n', AC Tryz.prog 84 [sL s] [] 9 v H' n' ∧ q84 s v H' := by
  have hr := recT_ok (P := Tryz.prog) (l := [(56, g56)]) (by simp only [List.forall_mem_cons]; exact ⟨ok56, by simp⟩)
  refine AC.bodyX (Q := fun v H _ => q84 s v H) Tryz.func84 rfl (by kernel_rfl) rfl vs84 ?_
  refine E.seq ?_
  refine E.reg hr (by simp; rfl) ?_
  refine E.seq ?_
  refine E.seq ?_
  refine E.reg hr (by simp; rfl) ?_
  refine E.cond (by rfl) (fun h => ?_) (fun h => ?_)
  · simp at h
    refine E.seq ?_
    refine E.reg hr (by simp; rfl) ?_
    refine E.ret ?_
    exact ⟨.inr rfl, _, _, _, by simp [leaveF, shutA, resultsA, resultA, Tryz.results84, dropOk]; first | exact ⟨⟨rfl, rfl⟩, rfl, rfl⟩ | exact ⟨rfl, rfl, rfl⟩ | exact ⟨rfl, rfl⟩ | rfl, q84_nil (parV_long (by omega))⟩
  · simp at h
    have hn : ¬ 4096 < s.length := by omega
    refine E.skip ?_
    refine E.seq ?_
    refine E.reg hr (by simp; rfl) ?_
    refine E.seq ?_
    refine E.seq ?_
    obtain ⟨q, hq, hc⟩ := call_of (w155 s [(12, .cells [.slice none 0 0] 79), (11, .cells [iv 0] 29), (10, .cells [iv 0] 3), (9, .cells [.slice none 0 0] 79)] 13)
    refine E.reg hq (by simp [hc]; rfl) ?_
    refine E.block ?_
    refine E.lead { fr := fr84, sz := 48, H := (B84 .ready none s (.slice none 0 0) 0 0).drop 2, n := 14, marks := [], vs := vs84 } (.less rfl rfl rfl (by simp) (by simp)) ?_
    obtain ⟨v, H', n', hAC, hv, hcase⟩ := w181 s (by omega)
    subst hv
    obtain ⟨L, hL⟩ : ∃ L, L = spD 10 s := ⟨_, rfl⟩
    rw [← hL] at hcase
    rcases hcase with ⟨hg, hW, ⟨hok, hok2⟩, hok3⟩ | ⟨hg, r', ov, hb⟩ | ⟨hg, hW, r', ov, hb⟩
    · have h15 := hok (15, _) (List.mem_cons_self ..)
      have h14 := hok (14, _) (List.mem_cons_of_mem _ (List.mem_cons_self ..))
      have h12 : hget H' 12 = some (.cells [outv (pksD L)] 79) := hok (12, _) (by simp)
      have h11 : hget H' 11 = some (.cells [iv 0] 29) := hok (11, _) (by simp)
      have h10 : hget H' 10 = some (.cells [iv 0] 3) := hok (10, _) (by simp)
      have h9 : hget H' 9 = some (.cells [.slice none 0 0] 79) := hok (9, _) (by simp)
      obtain ⟨Q, hQ⟩ : ∃ Q, Q = pksD L := ⟨_, rfl⟩
      rw [← hQ] at h12 hok2 hok3
      by_cases hQ0 : Q = []
      · subst hQ0
        have hpv := parV_ok hn (by rw [← hL]; exact hg) hW (by rw [← hL, ← hQ]; rfl)
        rw [← hL, ← hQ] at hpv
        refine E.rangeC (r := recV Tryz.prog (fun _ _ _ => none) (fun _ _ _ _ => some (.tuple #[], H', n'))) recV_ok { fr := fr84, sz := 48, H := [(14, .defd), (12, .cells [.slice none 0 0] 79), (11, .cells [iv 0] 29), (10, .cells [iv 0] 3), (9, .cells [.slice none 0 0] 79)], n := n', marks := [14], vs := vs84 } (rangeF_of rfl ent181 (recV_call rfl hAC) h15) rfl rfl rfl (by simp) (by simp [hget_hset, h14, h12, h11, h10, h9, outv]) ?_
        refine E.seq ?_
        refine E.seq ?_
        refine E.reg hr (by simp [g56, pksP, pksE_nil]; rfl) ?_
        refine E.seq ?_
        refine E.reg hr (by simp; rfl) ?_
        refine E.cond (t := false) (by rfl) (fun h => by cases h) (fun _ => ?_)
        refine E.skip ?_
        refine E.seq ?_
        refine E.reg hr (by simp; rfl) ?_
        refine E.ret ?_
        exact ⟨.inr rfl, _, _, _, by simp [leaveF, shutA, resultsA, resultA, Tryz.results84, dropOk]; first | exact ⟨⟨rfl, rfl⟩, rfl, rfl⟩ | exact ⟨rfl, rfl, rfl⟩ | exact ⟨rfl, rfl⟩ | rfl, q84_nil hpv⟩
      · have h16 := hok2 hQ0
        have hov : outv Q = oV Q.length := by unfold outv; rw [if_neg hQ0]
        rw [hov] at h12
        have hLl : L.length ≤ 4096 := by
          have := spF_len 10 s [] []
          rw [show (spF 10 s [] []).1 = spD 10 s from rfl, ← hL] at this
          simp at this
          omega
        have hQl : Q.length ≤ 4096 := by rw [hQ]; simp [pksD]; omega
        have hpk : ∀ H : Heap, hget H 16 = some (.ext (pcs Q) 160 3) → pksP H (oV Q.length) = some Q := fun H hH => by
          have hr : rowOf H 16 = some (pcs Q, 3) := by unfold rowOf; rw [hH]
          show rowPks H 16 Q.length = some Q
          unfold rowPks
          rw [hr]
          simp only [pksOf_pcs]
          rw [if_pos ⟨trivial, by omega⟩]
        refine E.rangeC (r := recV Tryz.prog (fun _ _ _ => none) (fun _ _ _ _ => some (.tuple #[], H', n'))) recV_ok { fr := fr84, sz := 48, H := [(16, .ext (pcs Q) 160 3), (14, .defd), (12, .cells [oV Q.length] 79), (11, .cells [iv 0] 29), (10, .cells [iv 0] 3), (9, .cells [.slice none 0 0] 79)], n := n', marks := [14], vs := vs84 } (rangeF_of rfl ent181 (recV_call rfl hAC) h15) rfl rfl rfl (by simp) (by simp [hget_hset, h16, h14, h12, h11, h10, h9]) ?_
        refine E.seq ?_
        refine E.seq ?_
        refine E.reg hr (by simp [g56, hpk]; rfl) ?_
        refine E.seq ?_
        by_cases he : pksE Q = 0
        · have hpv := parV_ok hn (by rw [← hL]; exact hg) hW (by rw [← hL, ← hQ]; exact he)
          rw [← hL, ← hQ] at hpv
          refine E.reg hr (by simp [he]; rfl) ?_
          refine E.cond (t := false) (by rfl) (fun h => by cases h) (fun _ => ?_)
          refine E.skip ?_
          refine E.seq ?_
          refine E.reg hr (by simp; rfl) ?_
          refine E.ret ?_
          exact ⟨.inr rfl, _, _, _, by simp [leaveF, shutA, resultsA, resultA, Tryz.results84, dropOk]; first | exact ⟨⟨rfl, rfl⟩, rfl, rfl⟩ | exact ⟨rfl, rfl, rfl⟩ | exact ⟨rfl, rfl⟩ | rfl, q84_cons hpv hQ0 (by simp) (by omega)⟩
        · have hpv := parV_err hn (by rw [← hL]; exact hg) hW (by rw [← hL, ← hQ]; exact he)
          rw [← hL, ← hQ, show L.length = Q.length by rw [hQ]; simp [pksD]] at hpv
          refine E.reg hr (by simp [he]; rfl) ?_
          refine E.cond (t := true) (by rfl) (fun _ => ?_) (fun h => by cases h)
          refine E.seq ?_
          have hn17 := hok3 hQ0
          have l1 : 16 < n' ∧ 14 < n' ∧ 12 < n' ∧ 11 < n' ∧ 10 < n' ∧ 9 < n' := by omega
          have l2 : ¬ n' ≤ 16 ∧ ¬ n' ≤ 14 ∧ ¬ n' ≤ 12 ∧ ¬ n' ≤ 11 ∧ ¬ n' ≤ 10 ∧ ¬ n' ≤ 9 := by omega
          refine E.drawW mixed hr [4, 5] [] [0, 3, 4, 5] [0, 1, 2] 3 (by kernel_rfl) (by simp [l1, l2]; rfl) ?_
          refine E.ret ?_
          exact ⟨.inr rfl, _, _, _, by simp [leaveF, shutA, resultsA, resultA, Tryz.results84, dropOk]; first | exact ⟨⟨rfl, rfl⟩, rfl, rfl⟩ | exact ⟨rfl, rfl, rfl⟩ | exact ⟨rfl, rfl⟩ | rfl, q84_nil hpv⟩
    · have h15 := hb (15, _) (List.mem_cons_self ..)
      have h14 := hb (14, _) (List.mem_cons_of_mem _ (List.mem_cons_self ..))
      have h11 : hget H' 11 = some (.cells [iv 25] 29) := hb (11, _) (by simp)
      have h10 : hget H' 10 = some (.cells [iv (goodN L)] 3) := hb (10, _) (by simp)
      have h9 : hget H' 9 = some (.cells [.slice none 0 0] 79) := hb (9, _) (by simp)
      refine E.rangeC (r := recV Tryz.prog (fun _ c st => match c with | .ret => some (.ret, st) | _ => none) (fun _ _ _ _ => some (.tuple #[], H', n'))) recV_ok { fr := fr84, sz := 48, H := [(14, .defd), (11, .cells [iv 25] 29), (10, .cells [iv (goodN L)] 3), (9, .cells [.slice none 0 0] 79)], n := n', marks := [14], vs := vs84 } (rangeF_ret rfl ent181 (recV_call rfl hAC) h15 (recV_code (by intro b h; cases h) rfl AT.ret)) rfl rfl rfl (by simp) (by simp [hget_hset, h14, h11, h10, h9]) ?_
      exact ⟨.inr rfl, _, _, _, by simp [leaveF, shutA, resultsA, resultA, Tryz.results84, dropOk]; first | exact ⟨⟨rfl, rfl⟩, rfl, rfl⟩ | exact ⟨rfl, rfl, rfl⟩ | exact ⟨rfl, rfl⟩ | rfl, q84_nil (by rw [hL]; exact parV_bad hn (by rw [← hL]; exact hg) rfl)⟩
    · have h15 := hb (15, _) (List.mem_cons_self ..)
      have h14 := hb (14, _) (List.mem_cons_of_mem _ (List.mem_cons_self ..))
      have h11 : hget H' 11 = some (.cells [iv 25] 29) := hb (11, _) (by simp)
      have h10 : hget H' 10 = some (.cells [iv (L.length)] 3) := hb (10, _) (by simp)
      have h9 : hget H' 9 = some (.cells [.slice none 0 0] 79) := hb (9, _) (by simp)
      refine E.rangeC (r := recV Tryz.prog (fun _ c st => match c with | .ret => some (.ret, st) | _ => none) (fun _ _ _ _ => some (.tuple #[], H', n'))) recV_ok { fr := fr84, sz := 48, H := [(14, .defd), (11, .cells [iv 25] 29), (10, .cells [iv (L.length)] 3), (9, .cells [.slice none 0 0] 79)], n := n', marks := [14], vs := vs84 } (rangeF_ret rfl ent181 (recV_call rfl hAC) h15 (recV_code (by intro b h; cases h) rfl AT.ret)) rfl rfl rfl (by simp) (by simp [hget_hset, h14, h11, h10, h9]) ?_
      exact ⟨.inr rfl, _, _, _, by simp [leaveF, shutA, resultsA, resultA, Tryz.results84, dropOk]; first | exact ⟨⟨rfl, rfl⟩, rfl, rfl⟩ | exact ⟨rfl, rfl, rfl⟩ | exact ⟨rfl, rfl⟩ | rfl, q84_nil (by rw [hL]; exact parV_left hn (by rw [← hL]; exact hg) hW)⟩
end Go.Proofs.YtkongcnmkiihjaaGreatDoor
