/-
Contracts and plain reckonings behind the law GunTexts, part 2 of 6 (each under the conditions in its statement).
-/
import Derived.Maps.RangeRun
import Derived.Laws.FloatBits
import Derived.Test.YtndlfijfjglkdaaGreatDoorRa
import Derived.Test.YtndlfijfjglkdaaGreatDoorAf
namespace Go.Proofs.YtndlfijfjglkdaaGreatDoor
open Go Go.Ab Go.Proofs
section
variable {P : Program}
theorem runP_bind' {α β : Type} (a : Sem α) (g : α → Sem β) : runP P (a >>= g) = (runP P a).bind fun x => runP P (g x) := runP_bind a g
theorem runP_pure {α : Type} (a : α) : runP P (pure a : Sem α) = some a := rfl
theorem runP_program : runP P program = some P := rfl
theorem runP_und' {t : TypeId} {d : TypeDesc} (h : P.underlying t = some d) : runP P (underlying t) = some d := by
 show runP P (match P.underlying t with | some d => _ | none => _) = _
 rw [h]
 rfl
theorem runP_ite {α : Type} {c : Prop} [Decidable c] (a b : Sem α) : runP P (if c then a else b) = if c then runP P a else runP P b := by
 split <;> rfl
theorem runP_eqStruct (d : Nat) {t : TypeId} {fs : Array Field} (xs ys : Array Value) (ht : P.underlying t = some (.struct fs)) (hp : P.stoodInHeld t = false)
   (h : ∀ f ∈ fs.toList, ∃ a b, runP P (part f.type xs f.offset) = some a ∧ runP P (part f.type ys f.offset) = some b ∧ runP P (Op.equalIn d f.type a b) = some true) : runP P (Op.equalIn (d + 1) t (.agg xs) (.agg ys)) = some true := by
 simp only [Op.equalIn, runP_bind', runP_und' ht, Option.bind_some, runP_program, hp, Bool.false_eq_true, if_false]
 rw [← Array.forIn_toList]
 generalize fs.toList = fl at h
 induction fl with
 | nil => rfl
 | cons f fl ih =>
   obtain ⟨a, b, h1, h2, h3⟩ := h f (List.mem_cons_self ..)
   have ih := ih fun f hf => h f (List.mem_cons_of_mem _ hf)
   simp only [List.forIn_cons, runP_bind', runP_ite]
   split
   · simp only [h1, h2, h3, Option.bind_some, Bool.not_true, Bool.false_eq_true, if_false, runP_pure]
     exact ih
   · simp only [runP_pure, Option.bind_some]
     exact ih
theorem runP_eqInt (d : Nat) {t : TypeId} {k k' : IntKind} (n : Int) (h : P.underlying t = some (.int k')) : runP P (Op.equalIn (d + 1) t (.int k n) (.int k n)) = some true := by
 simp only [Op.equalIn, runP_bind', runP_und' h, Option.bind_some, if_true, runP_pure, beq_self_eq_true]
theorem bytes_beq (s : ByteArray) : (s == s) = true := by
 obtain ⟨⟨x⟩⟩ := s
 show ((⟨x⟩ : Array UInt8) == ⟨x⟩) = true
 simp
theorem runP_eqStr (d : Nat) {t : TypeId} (s : ByteArray) (h : P.underlying t = some .string) : runP P (Op.equalIn (d + 1) t (.string s) (.string s)) = some true := by
 simp only [Op.equalIn, runP_bind', runP_und' h, Option.bind_some, runP_pure, bytes_beq]
end
theorem eq_pair {t : TypeId} {f1 f2 : Field} (ht : Tryz.prog.underlying t = some (.struct #[f1, f2])) (hp : Tryz.prog.stoodInHeld t = false) (h1 : f1.type = 3 ∧ f1.offset = 0) (h2 : f2.type = 3 ∧ f2.offset = 1) (a b : Int) (d : Nat) : runP Tryz.prog (Op.equalIn (d + 2) t (.agg #[iv a, iv b]) (.agg #[iv a, iv b])) = some true := by
 refine runP_eqStruct (d + 1) _ _ ht hp fun f hf => ?_
 simp at hf
 rcases hf with rfl | rfl
 · rw [h1.1, h1.2]
   exact ⟨iv a, iv a, by kernel_rfl, by kernel_rfl, runP_eqInt d a Tryz.underlying3⟩
 · rw [h2.1, h2.2]
   exact ⟨iv b, iv b, by kernel_rfl, by kernel_rfl, runP_eqInt d b Tryz.underlying3⟩
set_option maxRecDepth 100000 in
theorem eq_gun (g : Gun) : runP Tryz.prog (Op.equalIn 10000 94 (.agg ⟨g.cells⟩) (.agg ⟨g.cells⟩)) = some true := by
 refine runP_eqStruct 9999 _ _ Tryz.underlying94 (by kernel_rfl) fun f hf => ?_
 simp at hf
 rcases hf with rfl | rfl | rfl | rfl | rfl
 · exact ⟨sv g.name, sv g.name, by kernel_rfl, by kernel_rfl, runP_eqStr 9998 g.name Tryz.underlying9⟩
 · exact ⟨iv g.v, iv g.v, by kernel_rfl, by kernel_rfl, runP_eqInt 9998 g.v Tryz.underlying3⟩
 · exact ⟨.agg #[iv g.x, iv g.y], .agg #[iv g.x, iv g.y], by kernel_rfl, by kernel_rfl, eq_pair Tryz.underlying90 (by kernel_rfl) ⟨rfl, rfl⟩ ⟨rfl, rfl⟩ g.x g.y 9997⟩
 · exact ⟨iv g.d, iv g.d, by kernel_rfl, by kernel_rfl, runP_eqInt 9998 g.d Tryz.underlying3⟩
 · exact ⟨.agg #[iv g.lo, iv g.hi], .agg #[iv g.lo, iv g.hi], by kernel_rfl, by kernel_rfl, eq_pair Tryz.underlying92 (by kernel_rfl) ⟨rfl, rfl⟩ ⟨rfl, rfl⟩ g.lo g.hi 9997⟩
set_option maxRecDepth 100000 in
theorem neq_gun {x y : Operand} {H : Heap} {n : Nat} (g : Gun) : binV Tryz.prog .neq 94 x y (.agg ⟨g.cells⟩) (.agg ⟨g.cells⟩) H n = some (.bool false, H, n) := by
 have h : runP Tryz.prog (do eqGuard .neq 94 x y (.agg ⟨g.cells⟩) (.agg ⟨g.cells⟩); binOp .neq 94 (.agg ⟨g.cells⟩) (.agg ⟨g.cells⟩)) = some (.bool false) := by
   rw [runP_bind']
   have h1 : runP Tryz.prog (eqGuard .neq 94 x y (.agg ⟨g.cells⟩) (.agg ⟨g.cells⟩)) = some () := by kernel_rfl
   rw [h1, Option.bind_some]
   show runP Tryz.prog (Op.equalIn 10000 94 (.agg ⟨g.cells⟩) (.agg ⟨g.cells⟩) >>= fun b => pure (Value.bool (!b))) = _
   rw [runP_bind', eq_gun]
   rfl
 have ha : afq (.agg ⟨g.cells⟩) = true := rfl
 unfold binV
 rw [ha]
 simp only [Bool.and_self, if_true]
 rw [h]
 rfl
theorem w66n : AC Tryz.prog 66 [nilV, nilV] [] 10 (.bool true) [] 10 := by
 have hr := recT_ok (P := Tryz.prog) (l := []) (by simp)
 refine AC.pure Tryz.func66 rfl (by kernel_rfl) rfl [2, 3, 5] rfl ?_
 refine E.seq ?_
 refine E.reg hr (by simp; rfl) ?_
 refine E.seq ?_
 refine E.seq ?_
 refine E.reg hr (by simp; rfl) ?_
 refine E.cond (by rfl) (fun h => ?_) (fun h => ?_)
 · simp at h
 refine E.skip ?_
 refine E.seq ?_
 refine E.seq ?_
 refine E.reg hr (by simp; rfl) ?_
 refine E.block ?_
 refine E.loop ?_
 refine EL.step ?_
 refine E.seq ?_
 refine E.seq ?_
 refine E.reg hr (by simp; rfl) ?_
 refine E.cond (by rfl) (fun h2 => ?_) (fun h2 => ?_)
 · simp at h2
 refine E.exit ?_
 refine E.seq ?_
 refine E.reg hr (by simp; rfl) ?_
 refine E.ret ?_
 exact pureK.ret rfl rfl (by simp) (by repeat first | exact sub_refl _ | refine sub_cons rfl ?_)
set_option maxRecDepth 100000 in
theorem w66 (l : List Gun) (o o2 c c2 : Nat) (hl : l.length < 2 ^ 63) : AC Tryz.prog 66 [strV o l.length c, .agg ⟨[.slice (some ⟨11, o2, none⟩) l.length c2]⟩] [(11, .inp o2 (gcs l)), (10, .inp o (gcs l))] 12 (.bool true) [(11, .inp o2 (gcs l)), (10, .inp o (gcs l))] 12 := by
 have hr := recT_ok (P := Tryz.prog) (l := []) (by simp)
 refine AC.pure Tryz.func66 rfl (by kernel_rfl) rfl [2, 3, 5] rfl ?_
 refine E.seq ?_
 refine E.reg hr (by simp; rfl) ?_
 refine E.seq ?_
 refine E.seq ?_
 refine E.reg hr (by simp; rfl) ?_
 refine E.cond (by rfl) (fun h => ?_) (fun h => ?_)
 · simp at h
 refine E.skip ?_
 refine E.seq ?_
 refine E.seq ?_
 refine E.reg hr (by simp; rfl) ?_
 refine E.block ?_
 refine E.loop ?_
 refine EL.ind (fun i : Nat => { fr := [(2, .pointer (some ⟨12, 0, none⟩)), (3, .pointer (some ⟨13, 0, none⟩)), (5, iv i)], sz := 31, H := [(13, .cells [.slice (some ⟨11, o2, none⟩) l.length c2] 24), (12, .cells [.slice (some ⟨10, o, none⟩) l.length c] 24), (11, .inp o2 (gcs l)), (10, .inp o (gcs l))], n := 14, marks := [], vs := [2, 3, 5] }) (fun i => l.length - i) (fun i => i ≤ l.length) 0 (.less rfl rfl rfl (by simp) (by simp)) (Nat.zero_le _) (fun _ => rfl) ?_
 intro i hi
 refine E.seq ?_
 refine E.seq ?_
 refine E.reg hr (by simp; rfl) ?_
 refine E.cond (by rfl) (fun h2 => ?_) (fun h2 => ?_)
 · simp at h2
   have hw : IntKind.i64.wrap ((i : Int) + 1) = (i : Int) + 1 := W_in (by omega) (by omega)
   have h7 : i * 7 + 7 ≤ l.length * 7 := by omega
   have hx := gcs_take h2
   refine E.skip ?_
   refine E.seq ?_
   refine E.block ?_
   refine E.seq ?_
   refine E.drawC mixed hr [] [] [1, 4, 6, 9] (by kernel_rfl) (by simp [h2, h7, hx, neq_gun]; rfl) ?_
   refine E.cond (by rfl) (fun h3 => ?_) (fun h3 => ?_)
   · simp at h3
   refine E.skip ?_
   refine E.reg hr (by simp [hw]; rfl) ?_
   exact ⟨i + 1, .less rfl rfl rfl (by simp) (by simp), h2, by dsimp only; omega⟩
 · refine E.exit ?_
   refine E.seq ?_
   refine E.reg hr (by simp; rfl) ?_
   refine E.ret ?_
   exact pureK.ret rfl rfl (by simp) (by repeat first | exact sub_refl _ | refine sub_cons rfl ?_)
open Classical in
noncomputable def g66 (args : List Value) (H : Heap) (n : Nat) : R := match args with
 | [.agg ⟨[.slice none 0 0]⟩, .agg ⟨[.slice none 0 0]⟩] => some (.bool true, H, n)
 | [.agg ⟨[.slice (some a) len _]⟩, .agg ⟨[.slice (some b) len2 _]⟩] => match gunsAt H a len, gunsAt H b len2 with
   | some l, some k => if l = k then some (.bool true, H, n) else none
   | _, _ => none
 | _ => none
theorem ok66 : EntOk Tryz.prog (66, g66) := by
 intro args H n v H' n' h'
 simp only [g66] at h'
 split at h'
 · injection h' with h'; injection h' with e1 e2; injection e2 with e2 e3; subst e1 e2 e3
   exact AC.liftP rfl (Part.plain (by simp) [] (by simp [Seen]) gsz ⟨_, _, w66n⟩)
 · rename_i a len c0 b len2 c02
   split at h'
   · rename_i l k hl hk
     split at h'
     · rename_i e
       subst e
       injection h' with h'; injection h' with e1 e2; injection e2 with e2 e3; subst e1 e2 e3
       obtain ⟨hf, hc, hlen, hlt⟩ := gunsAt_ok hl
       obtain ⟨hf2, hc2, hlen2, hlt2⟩ := gunsAt_ok hk
       subst hlen
       have : len2 = l.length := hlen2.symm
       subst this
       exact AC.liftP rfl (Part.two (fun s u => [.agg ⟨[s]⟩, .agg ⟨[u]⟩]) (by intro φ φ0 s s0 u u0 h h'; simp [denL, den, h, h']) (by intro p s u h h'; exact ⟨⟨h, trivial⟩, ⟨h', trivial⟩, trivial⟩) hf hc (afL_gcs l) hf2 hc2 (afL_gcs l) [] (by simp [Seen]) gsz fun c c2 => ⟨_, _, w66 l _ _ c c2 hlt⟩)
     · cases h'
   · cases h'
 · cases h'
end Go.Proofs.YtndlfijfjglkdaaGreatDoor

namespace Go.Proofs.YtndlfijfjglkdaaGreatDoor
open Go Go.Ab Go.Proofs
end Go.Proofs.YtndlfijfjglkdaaGreatDoor

namespace Go.Proofs.YtndlfijfjglkdaaGreatDoor
open Go Go.Ab Go.Proofs
@[simp] theorem renL_tab3' (ρ : Nat → Nat) : renL ρ tab3 = tab3 := by kernel_rfl
@[simp] theorem scL_tab3' (p : Nat → Prop) : scL p tab3 := scL_af _ _ af_tab3
end Go.Proofs.YtndlfijfjglkdaaGreatDoor

namespace Go.Proofs.YtndlfijfjglkdaaGreatDoor
open Go Go.Ab Go.Proofs
end Go.Proofs.YtndlfijfjglkdaaGreatDoor

namespace Go.Proofs.YtndlfijfjglkdaaGreatDoor
open Go Go.Ab Go.Proofs
attribute [simp] run_vcall_tmp vcallF target
@[simp] theorem bin_fneq {P : Program} {t : TypeId} {x y : Operand} {H : Heap} {k : Nat} {a b : Nat} : binV P .neq t x y (.float .f32 a) (.float .f32 b) H k = some (.bool (FloatKind.f32.format.order a b != some .eq), H, k) := rfl
end Go.Proofs.YtndlfijfjglkdaaGreatDoor

namespace Go.Proofs.YtndlfijfjglkdaaGreatDoor
open Go Go.Ab Go.Proofs
end Go.Proofs.YtndlfijfjglkdaaGreatDoor

namespace Go.Proofs.YtndlfijfjglkdaaGreatDoor
open Go Go.Ab Go.Proofs
def bodyOf' (f : Func) : Code := match f.body with
 | some c => c
 | none => .skip
def rfOf : Code → Option (Code × Code)
 | .rangeFunc _ _ a b => some (a, b)
 | .seq a b => match rfOf a with
   | some x => some x
   | none => rfOf b
 | .block _ b => rfOf b
 | _ => none
theorem yieldF_of {r : Rec} {l : Nat} {args : List Value} {H : Heap} {n : Nat} {fr : Fr} {sz : Nat} {vs : List Nat} {ps : Array Tmp} {a b : Code} {d : Nat} {s1 s2 : St}
   (h0 : hget H l = some (.loop .ready none fr sz vs ps a b d)) (hlen : (Nat.beq args.length ps.size && ps.toList.all (fun t => Nat.blt t sz)) = true)
   (h1 : r.code (some l) a { fr := (ps.toList.zip args).foldl (fun fr (t, v) => (t, v) :: fr) fr, sz, H, n, marks := [], vs } = some (.normal, s1)) (hl1 : hget s1.H l = some (.loop .ready none fr sz vs ps a b d))
   (h2 : r.code (some l) b { s1 with H := hset s1.H l (.loop .busy none fr sz vs ps a b d) } = some (.normal, s2)) (hl2 : hget s2.H l = some (.loop .busy none fr sz vs ps a b d)) :
   yieldF r l args H n = some (.bool true, hset s2.H l (.loop .ready none fr sz vs ps a b d), s2.n) := by
 unfold yieldF
 rw [h0]
 simp only [hlen, h1, hl1, h2, hl2]
 rfl
end Go.Proofs.YtndlfijfjglkdaaGreatDoor

namespace Go.Proofs.YtndlfijfjglkdaaGreatDoor
open Go Go.Ab Go.Proofs
end Go.Proofs.YtndlfijfjglkdaaGreatDoor

namespace Go.Proofs.YtndlfijfjglkdaaGreatDoor
open Go Go.Ab Go.Proofs
end Go.Proofs.YtndlfijfjglkdaaGreatDoor

namespace Go.Ab
open Go
theorem rangeF_of {P : Program} {r : Rec} {f : Operand} {ps : Array Tmp} {x y : Code} {st : St} {g : FuncId} {first captured : Array Value} {v : Value} {H' : Heap} {k : Nat} {fr : Fr} {sz : Nat} {vs : List Nat} {d : Nat} {a b : Code}
   (hf : evO P st.fr f = some (.func (.func g) first captured)) (he : enterable P g = true)
   (hc : r.call g (first.toList ++ [.func (.yield (st.n + 1)) #[] #[]] ++ captured.toList) ((st.n + 1, .loop .ready none st.fr st.sz st.vs ps x y st.n) :: (st.n, .defd) :: st.H) (st.n + 2) = some (v, H', k))
   (hl : hget H' (st.n + 1) = some (.loop .ready none fr sz vs ps a b d)) :
   rangeF P r none f ps x y st = some (.normal, { st with H := hset H' (st.n + 1) (.loop .exhausted none fr sz vs ps a b d), n := k, marks := st.n :: st.marks }) := by
 unfold rangeF
 rw [hf]
 simp only [he, hc, hl]
 rfl
theorem E.range {P : Program} {n0 : Nat} {r : Rec} {m : Nat} (hr : RecOk P r m) {ro : Option Nat} {f : Operand} {ps : Array Tmp} {x y : Code} {st st' : St} {e : Ex} {K : Ex → St → Prop} (h : rangeF P r ro f ps x y st = some (e, st')) (k : K e st') : E P n0 ro (.rangeFunc f ps x y) st K := .at (rangeF_ok hr h) k
end Go.Ab

namespace Go.Proofs.YtndlfijfjglkdaaGreatDoor
open Go Go.Ab Go.Proofs
end Go.Proofs.YtndlfijfjglkdaaGreatDoor

namespace Go.Proofs.YtndlfijfjglkdaaGreatDoor
open Go Go.Ab Go.Proofs
end Go.Proofs.YtndlfijfjglkdaaGreatDoor

namespace Go.Proofs.YtndlfijfjglkdaaGreatDoor
open Go Go.Ab Go.Proofs
end Go.Proofs.YtndlfijfjglkdaaGreatDoor

namespace Go.Proofs.YtndlfijfjglkdaaGreatDoor
open Go Go.Ab Go.Proofs
end Go.Proofs.YtndlfijfjglkdaaGreatDoor

namespace Go.Proofs.YtndlfijfjglkdaaGreatDoor
open Go Go.Ab Go.Proofs
end Go.Proofs.YtndlfijfjglkdaaGreatDoor

namespace Go.Proofs.YtndlfijfjglkdaaGreatDoor
open Go Go.Ab Go.Proofs
end Go.Proofs.YtndlfijfjglkdaaGreatDoor

namespace Go.Proofs.YtndlfijfjglkdaaGreatDoor
open Go Go.Ab Go.Proofs
end Go.Proofs.YtndlfijfjglkdaaGreatDoor

namespace Go.Ab
open Go
end Go.Ab

namespace Go.Proofs.YtndlfijfjglkdaaGreatDoor
open Go Go.Ab Go.Proofs
end Go.Proofs.YtndlfijfjglkdaaGreatDoor

namespace Go.Proofs.YtndlfijfjglkdaaGreatDoor
open Go Go.Ab Go.Proofs
end Go.Proofs.YtndlfijfjglkdaaGreatDoor

namespace Go.Proofs.YtndlfijfjglkdaaGreatDoor
open Go Go.Ab Go.Proofs
end Go.Proofs.YtndlfijfjglkdaaGreatDoor

namespace Go.Proofs.YtndlfijfjglkdaaGreatDoor
open Go Go.Ab Go.Proofs
end Go.Proofs.YtndlfijfjglkdaaGreatDoor

namespace Go.Proofs.YtndlfijfjglkdaaGreatDoor
open Go Go.Ab Go.Proofs
end Go.Proofs.YtndlfijfjglkdaaGreatDoor

namespace Go.Proofs.YtndlfijfjglkdaaGreatDoor
open Go Go.Ab Go.Proofs
end Go.Proofs.YtndlfijfjglkdaaGreatDoor

namespace Go.Proofs.YtndlfijfjglkdaaGreatDoor
open Go Go.Ab Go.Proofs
end Go.Proofs.YtndlfijfjglkdaaGreatDoor

namespace Go.Proofs.YtndlfijfjglkdaaGreatDoor
open Go Go.Ab Go.Proofs
end Go.Proofs.YtndlfijfjglkdaaGreatDoor

namespace Go.Proofs.YtndlfijfjglkdaaGreatDoor
open Go Go.Ab Go.Proofs
end Go.Proofs.YtndlfijfjglkdaaGreatDoor

namespace Go.Ab
open Go
mutual
theorem sc_and {p q : Nat → Prop} : ∀ v, sc p v → sc q v → sc (fun k => p k ∧ q k) v
 | .bool _, _, _ | .int _ _, _, _ | .float _ _, _, _ | .complex _ _ _, _, _ | .string _, _, _ | .nilFunc, _, _ | .nilIface, _, _ | .chan _, _, _ => by simp [sc]
 | .pointer none, _, _ | .slice none _ _, _, _ | .map none, _, _ => by simp [sc]
 | .pointer (some _), h1, h2 => ⟨h1, h2⟩
 | .slice (some _) _ _, h1, h2 => ⟨h1, h2⟩
 | .map (some _), h1, h2 => ⟨h1, h2⟩
 | .func (.yield l) a b, h1, h2 => by
   simp only [sc] at h1 h2 ⊢
   exact ⟨⟨h1.1, h2.1⟩, scL_and _ h1.2.1 h2.2.1, scL_and _ h1.2.2 h2.2.2⟩
 | .func (.func f) a b, h1, h2 | .func (.method f) a b, h1, h2 | .func (.methodOf _ f) a b, h1, h2 | .func (.via _ _ f _) a b, h1, h2 => by
   simp only [sc] at h1 h2 ⊢
   exact ⟨scL_and _ h1.1 h2.1, scL_and _ h1.2 h2.2⟩
 | .iface t v, h1, h2 => by simp only [sc] at h1 h2 ⊢; exact sc_and v h1 h2
 | .agg cs, h1, h2 => by simp only [sc] at h1 h2 ⊢; exact scL_and _ h1 h2
 | .tuple cs, h1, h2 => by simp only [sc] at h1 h2 ⊢; exact scL_and _ h1 h2
theorem scL_and {p q : Nat → Prop} : ∀ vs, scL p vs → scL q vs → scL (fun k => p k ∧ q k) vs
 | [], _, _ => trivial
 | v :: vs, h1, h2 => by simp only [scL] at h1 h2 ⊢; exact ⟨sc_and v h1.1 h2.1, scL_and vs h1.2 h2.2⟩
end
def heldB (n0 : Nat) : Blk → Prop
 | .loop _ _ fr _ _ _ _ _ d => d < n0 ∧ ∀ x ∈ fr, sc (· < n0) x.2
 | _ => True
theorem heldB_cases {n0 : Nat} {b : Blk} (h : heldB n0 b) : carried b ∨ (scB (· < n0) b ∧ (∀ ρ, renB ρ b = b) ∧ ∀ (P : Program) (p : Nat → Prop) (φ ψ : Vl) (j k : Nat) (o : Option Obj), Agr p φ ψ → scB p b → BRel P φ j b o → BRel P ψ k b o) := by
 cases b with
 | loop st pe fr sz vs ps a c d =>
   refine .inr ⟨⟨h.1, fun t v hv => h.2 (t, v) (lk_mem _ _ _ hv)⟩, fun _ => rfl, fun P p φ ψ j k o ha hs hb => ?_⟩
   obtain ⟨fn, tmps, ho, hf⟩ := hb
   exact ⟨fn, tmps, by rw [(ha d hs.1).1]; exact ho, hf.congr ha hs.2⟩
 | _ => exact .inl trivial
theorem scB_and {p q : Nat → Prop} : ∀ b, scB p b → scB q b → scB (fun k => p k ∧ q k) b
 | .cells cs _, h1, h2 | .ext cs _ _, h1, h2 | .inp _ cs, h1, h2 | .row cs _, h1, h2 | .tab cs, h1, h2 => scL_and cs h1 h2
 | .map _ _, h1, h2 => fun e he => ⟨sc_and _ (h1 e he).1 (h2 e he).1, sc_and _ (h1 e he).2 (h2 e he).2⟩
 | .iter _ _, _, _ | .defd, _, _ => trivial
 | .miter _ _ _ _, h1, h2 => fun r hr => ⟨h1 r hr, h2 r hr⟩
 | .loop .., h1, h2 => ⟨⟨h1.1, h2.1⟩, fun t v hv => sc_and v (h1.2 t v hv) (h2.2 t v hv)⟩
structure Renamed2 (n0 : Nat) (ρ : Nat → Nat) (s s2 : St) : Prop where
 le : n0 ≤ s2.n
 sz : s2.sz = s.sz
 marks : s.marks = [] ∧ s2.marks = []
 low : ∀ k, k < n0 → ρ k = k
 high : ∀ k, n0 ≤ k → k < s2.n → n0 ≤ ρ k ∧ ρ k < s.n
 inj : ∀ j k, j < s2.n → k < s2.n → ρ j = ρ k → j = k
 fr : ∀ x ∈ s2.fr, lk s.fr x.1 = some (ren ρ x.2) ∧ sc (· < s2.n) x.2
 heap : ∀ x ∈ s2.H, x.1 < s2.n ∧ hget s.H (ρ x.1) = some (renB ρ x.2) ∧ scB (· < s2.n) x.2 ∧ heldB n0 x.2 ∧ (x.2.own = false → ρ x.1 = x.1 ∧ renB ρ x.2 = x.2)
theorem Renamed2.step {P : Program} {n0 : Nat} {ρ : Nat → Nat} {s s2 : St} (h : Renamed2 n0 ρ s s2) {p : Nat → Prop} {φ φ1 : Vl} {M : Mp} {w0 w : World} {a : Act} (hg : ∀ g, g < P.globals.size → p g) (hp : ∀ k, p k → k < n0)
   (hS : SRel P (Nx p n0 s.n) φ1 s a w) (hs : Step P φ n0 M w0 φ1 s.n (hget s.H) w) : ∃ φ2, SRel P (Nx p n0 s2.n) φ2 s2 a w ∧ Step P φ n0 M w0 φ2 s2.n (hget s2.H) w := by
 let φ2 : Vl := ⟨fun k => if n0 ≤ k ∧ k < s2.n then φ1.loc (ρ k) else φ.loc k, fun k => if n0 ≤ k ∧ k < s2.n then φ1.cap (ρ k) else φ.cap k⟩
 have hlow : ∀ k, k < n0 → φ2.loc k = φ.loc k ∧ φ2.cap k = φ.cap k := fun k hk => by simp only [φ2]; rw [if_neg (by omega), if_neg (by omega)]; exact ⟨rfl, rfl⟩
 have hmid : ∀ k, n0 ≤ k → k < s2.n → φ2.loc k = φ1.loc (ρ k) ∧ φ2.cap k = φ1.cap (ρ k) := fun k h1 h2 => by simp only [φ2]; rw [if_pos ⟨h1, h2⟩, if_pos ⟨h1, h2⟩]; exact ⟨rfl, rfl⟩
 have hrn : Rn (Nx p n0 s2.n) ρ φ1 φ2 := fun k hk => by
   rcases hk with hk | hk
   · have hk0 := hp k hk
     rw [(hlow k hk0).1, (hlow k hk0).2, h.low k hk0, (hs.only k (.inl hk0)).1, (hs.only k (.inl hk0)).2]
     exact ⟨rfl, rfl⟩
   · exact hmid k hk.1 hk.2
 have hnx : ∀ k, Nx p n0 s.n (ρ k) ∧ k < s2.n → Nx p n0 s2.n k := fun k hk => by
   by_cases h0 : k < n0
   · have := hk.1
     rw [h.low k h0] at this
     rcases this with h1 | h1
     · exact .inl h1
     · omega
   · exact .inr ⟨by omega, hk.2⟩
 have hscv : ∀ v, sc (Nx p n0 s.n) (ren ρ v) → sc (· < s2.n) v → sc (Nx p n0 s2.n) v := fun v h1 h2 => sc_mono hnx v (sc_ren v h1 h2)
 have hpl : ∀ k, Nx p n0 s.n k ∧ k < n0 → p k := fun k hk => by
   rcases hk.1 with h1 | h1
   · exact h1
   · omega
 have hH : ∀ k b, hget s2.H k = some b → Nx p n0 s2.n k ∧ hget s.H (ρ k) = some (renB ρ b) ∧ scB (Nx p n0 s2.n) b ∧ (BRel P φ1 (ρ k) (renB ρ b) w.heap[φ1.loc (ρ k)]? → BRel P φ2 k b w.heap[φ1.loc (ρ k)]?) ∧ (b.own = false → ρ k = k ∧ renB ρ b = b) := fun k b hk => by
   obtain ⟨h1, h2, h3, h4, h5⟩ := h.heap (k, b) (hget_mem _ _ _ hk)
   have hsm := hS.base.sm _ _ h2
   have hn := hnx k ⟨hsm.1, h1⟩
   rcases heldB_cases h4 with h4 | ⟨g1, g2, g3⟩
   · have := scB_mono hnx _ (scB_ren b h4 hsm.2 h3)
     exact ⟨hn, h2, this, BRel.ren hrn hn h4 this, h5⟩
   · have h6 := hsm.2
     simp only [g2] at h6
     have h7 : scB p b := scB_mono hpl _ (scB_and b h6 g1)
     refine ⟨hn, h2, scB_mono (fun _ h => .inl h) _ h7, fun hb => ?_, h5⟩
     rw [g2] at hb
     refine g3 P p φ1 φ2 _ k _ (fun j hj => ?_) h7 hb
     have hj0 := hp j hj
     rw [(hlow j hj0).1, (hlow j hj0).2, (hs.only j (.inl hj0)).1, (hs.only j (.inl hj0)).2]
     exact ⟨rfl, rfl⟩
 have hlt : ∀ k, Nx p n0 s2.n k → k < s2.n := fun k hk => Nx.lt hp h.le hk
 have hrel : HRel P φ2 (hget s2.H) w := by
   refine ⟨fun k b hk => ?_, fun k b k' b' h1 h2 hne ho => ?_, fun g hg' => ?_⟩
   · obtain ⟨hn, h2, h3, h4, _⟩ := hH k b hk
     rw [(hrn k hn).1]
     exact h4 (hS.base.rel.blk _ _ h2)
   · obtain ⟨n1, e1, _, _, _⟩ := hH k b h1
     obtain ⟨n2, e2, _, _, _⟩ := hH k' b' h2
     rw [(hrn k n1).1, (hrn k' n2).1]
     exact hS.base.rel.apart _ _ _ _ e1 e2 (fun e => hne (h.inj k k' (hlt k n1) (hlt k' n2) e)) (by rw [renB_own]; exact ho)
   · have := hp g (hg g hg')
     rw [(hlow g this).1, ← (hs.only g (.inl this)).1]
     exact hS.base.rel.glob g hg'
 refine ⟨φ2, ⟨⟨hrel, hlt, fun g hg' => .inl (hg g hg'), ?_, fun k b hk => ⟨(hH k b hk).1, (hH k b hk).2.2.1⟩, fun t v hv => ?_, fun t v hv => ?_⟩, ?_, ?_, ?_⟩, h.le, fun k hk => ?_, hrel, fun k b hk ho => ?_, fun k b hk ho => ?_, hs.frm⟩
 · refine Nat.le_of_not_lt fun hc => ?_
   have := hp _ (hg _ hc)
   have := h.le
   omega
 · obtain ⟨h1, h2⟩ := h.fr (t, v) (lk_mem _ _ _ hv)
   have hsf := hS.base.sf t _ h1
   rw [hS.base.ar t _ h1, den_ren hrn v (hscv v hsf h2)]
 · obtain ⟨h1, h2⟩ := h.fr (t, v) (lk_mem _ _ _ hv)
   exact hscv v (hS.base.sf t _ h1) h2
 · rw [h.sz]; exact hS.size
 · rw [h.marks.2, hS.defs, h.marks.1]; rfl
 · rw [h.marks.2]; simp
 · rcases hk with hk | hk
   · exact hlow k hk
   · simp only [φ2]; rw [if_neg (by omega), if_neg (by omega)]; exact ⟨rfl, rfl⟩
 · obtain ⟨hn, h2, _, _, _⟩ := hH k b hk
   rw [(hrn k hn).1]
   exact hs.new _ _ h2 (by rw [renB_own]; exact ho)
 · obtain ⟨hn, h2, _, _, h5⟩ := hH k b hk
   have := hs.inp _ _ h2 (by rw [renB_own]; exact ho)
   rw [(h5 ho).1, (h5 ho).2] at this
   exact this
theorem Leads.ren2 {P : Program} {n0 : Nat} {s s2 : St} (olds : List Nat) (ho : oldsOk n0 s.n olds = true) (hn : s2.n = n0 + olds.length) (hz : s2.sz = s.sz) (hm : s.marks = [] ∧ s2.marks = [])
   (hf : ∀ x ∈ s2.fr, lk s.fr x.1 = some (Ab.ren (rnm n0 olds) x.2) ∧ sc (· < s2.n) x.2)
   (hh : ∀ x ∈ s2.H, x.1 < s2.n ∧ hget s.H (rnm n0 olds x.1) = some (renB (rnm n0 olds) x.2) ∧ scB (· < s2.n) x.2 ∧ heldB n0 x.2 ∧ (x.2.own = false → rnm n0 olds x.1 = x.1 ∧ renB (rnm n0 olds) x.2 = x.2)) : Leads P n0 s s2 := by
 have hr := Leads.ren (P := P) (s := s) (s2 := { s2 with fr := [], H := [] }) olds ho hn hz hm (by simp) (by simp)
 obtain ⟨hk, hd⟩ := oldsOk_spec olds ho
 have hget : ∀ k, n0 ≤ k → k < s2.n → ∃ h : k - n0 < olds.length, rnm n0 olds k = olds[k - n0] := fun k h1 h2 => by
   refine ⟨by omega, ?_⟩
   unfold rnm
   rw [if_neg (by omega), List.getD_eq_getElem?_getD, List.getElem?_eq_getElem (by omega)]
   rfl
 have h2 : Renamed2 n0 (rnm n0 olds) s s2 := ⟨by omega, hz, hm, fun k h => by unfold rnm; rw [if_pos h], fun k h1 h2 => by
     obtain ⟨h, e⟩ := hget k h1 h2
     rw [e]; exact hk _ (List.getElem_mem h), fun j k h1 h2 he => by
   by_cases hj : j < n0
   · by_cases hk' : k < n0
     · unfold rnm at he; rw [if_pos hj, if_pos hk'] at he; exact he
     · obtain ⟨h, e⟩ := hget k (by omega) h2
       have := hk _ (List.getElem_mem h)
       rw [← e, ← he] at this
       unfold rnm at this; rw [if_pos hj] at this; omega
   · obtain ⟨h, e⟩ := hget j (by omega) h1
     by_cases hk' : k < n0
     · have := hk _ (List.getElem_mem h)
       rw [← e, he] at this
       unfold rnm at this; rw [if_pos hk'] at this; omega
     · obtain ⟨h', e'⟩ := hget k (by omega) h2
       rw [e, e'] at he
       have hne : ∀ (x y : Nat) (hx : x < olds.length) (hy : y < olds.length), x < y → olds[x] ≠ olds[y] := fun x y hx hy hlt => List.pairwise_iff_getElem.1 hd x y hx hy hlt
       rcases Nat.lt_trichotomy (j - n0) (k - n0) with hlt | heq | hlt
       · exact absurd he (hne _ _ _ _ hlt)
       · omega
       · exact absurd he.symm (hne _ _ _ _ hlt), hf, hh⟩
 exact fun p φ M w0 hg hp a w φ1 hS hs => h2.step hg hp hS hs
end Go.Ab

namespace Go.Proofs.YtndlfijfjglkdaaGreatDoor
open Go Go.Ab Go.Proofs
end Go.Proofs.YtndlfijfjglkdaaGreatDoor

namespace Go.Proofs.YtndlfijfjglkdaaGreatDoor
open Go Go.Ab Go.Proofs
end Go.Proofs.YtndlfijfjglkdaaGreatDoor

namespace Go.Proofs.YtndlfijfjglkdaaGreatDoor
open Go Go.Ab Go.Proofs
end Go.Proofs.YtndlfijfjglkdaaGreatDoor

namespace Go.Ab
open Go
def footT' (P : Program) (ops : Array Oper) (o : Oper) (st : St) (sn : List Nat) : List Nat := match footA P (trim (lookTmps ops o) st.fr) o.op with
 | some f => f.see ++ sn
 | none => sn
def handW (P : Program) (r : Rec) (mk : List Nat) (w : Nat) (o : Oper) (see put : List Nat) (fr : Fr) (st : St) : Option St :=
 match runOp P r o { st with fr := fr, H := handA see put st.H } with
 | some (v, H, k) => match Nat.ble st.n k && namesOk k (takeNew st.n H) && (Nat.beq k st.n || memN mk w) with
   | true => some { st with fr := putA st.fr o.dst v, H := takeNew st.n H ++ backA put H st.H, n := k }
   | false => none
 | none => none
def writeT (P : Program) (r : Rec) (ops : Array Oper) (al mk late : List Nat) (n0 w : Nat) (o : Oper) (sn : List Nat) (st : St) : Option St :=
 match dstOk st.sz o.dst with
 | false => none
 | true => match wantedA ops (trim (lookTmps ops o) st.fr) o with
   | some true => match isPure o.op || isRead o.op || memN al w with
     | true => none
     | false => match footA P (trim (lookTmps ops o) st.fr) o.op with
       | some f => match visT late n0 w st.n f.see && f.put.all (memN f.see) && disj f.put sn with
         | true => handW P r mk w o f.see f.put (trim (lookTmps ops o) st.fr) st
         | false => none
       | none => none
   | _ => none
def opsW (P : Program) (r : Rec) (ops : Array Oper) (al mk late q : List Nat) (w n0 : Nat) : List Oper → Nat → List Nat → St → Option St
 | [], _, _, st => some st
 | o :: os, i, sn, st => match Nat.beq i w with
   | true => match writeT P r ops al mk late n0 i o sn st with
     | some st' => opsW P r ops al mk late q w n0 os (i + 1) sn st'
     | none => none
   | false => match oneT P r ops al mk late n0 i o st with
     | some st' => match memN q i with
       | true => opsW P r ops al mk late q w n0 os (i + 1) (footT' P ops o st sn) st'
       | false => opsW P r ops al mk late q w n0 os (i + 1) sn st'
     | none => none
def runW (P : Program) (r : Rec) (ops : Array Oper) (al mk late q : List Nat) (w : Nat) (st : St) : Option St :=
 match namesOk st.n st.H with
 | true => opsW P r ops al mk late q w st.n ops.toList 0 [] st
 | false => none
def wOk (bef : Array Nat) (q : List Nat) (w : Nat) : List Oper → Nat → Bool
 | [], _ => true
 | o :: os, i => (if i < w then ahead bef i w || (memN q i && (isPure o.op || isRead o.op)) else Nat.beq i w || isPure o.op || ahead bef w i) && wOk bef q w os (i + 1)
structure InvW (mk : List Nat) (n0 i : Nat) (ds : List Done) (st : St) : Prop where
 lt : ∀ d ∈ ds, d.i < i
 cov : ∀ k, n0 ≤ k → k < st.n → ∃ d ∈ ds, d.lo ≤ k ∧ k < d.hi ∧ memN mk d.i = true ∧ d.i < i
 nam : ∀ x ∈ st.H, x.1 < st.n
theorem InvW.same {mk : List Nat} {n0 i : Nat} {ds : List Done} {st : St} (hI : InvW mk n0 i ds st) {fr : Fr} : InvW mk n0 (i + 1) ds { st with fr := fr } :=
 ⟨fun d hd => Nat.lt_succ_of_lt (hI.lt d hd), fun k h1 h2 => by obtain ⟨d, a, b, c, e, f⟩ := hI.cov k h1 h2; exact ⟨d, a, b, c, e, by omega⟩, hI.nam⟩
theorem InvW.next {mk : List Nat} {n0 i : Nat} {ds : List Done} {st : St} (hI : InvW mk n0 i ds st) {fr : Fr} {see put : List Nat} {H : Heap} {k : Nat} (hn : ∀ x ∈ H, x.1 < k) (hm : (Nat.beq k st.n || memN mk i) = true) : InvW mk n0 (i + 1) (⟨i, see, put, st.n, k⟩ :: ds) { st with fr := fr, H := H, n := k } := by
 refine ⟨fun d hd => ?_, fun j h1 h2 => ?_, hn⟩
 · rcases List.mem_cons.1 hd with rfl | hd
   · exact Nat.lt_succ_self _
   · exact Nat.lt_succ_of_lt (hI.lt d hd)
 · rcases Nat.lt_or_ge j st.n with h | h
   · obtain ⟨d, a, b, c, e, f⟩ := hI.cov j h1 h
     exact ⟨d, List.mem_cons_of_mem _ a, b, c, e, by omega⟩
   · rw [Bool.or_eq_true] at hm
     have h2 : j < k := h2
     rcases hm with hm | hm
     · have := Nat.eq_of_beq_eq_true hm
       omega
     · exact ⟨_, List.mem_cons_self .., h, h2, hm, Nat.lt_succ_self _⟩
theorem lateOk_visW {bef : Array Nat} {mk late : List Nat} (hl : lateOk bef mk late = true) {n0 i : Nat} (hi : memN late i = true) {ds : List Done} {st : St} (hI : InvW mk n0 i ds st) {k : Nat} (hk : k < st.n) : visA bef n0 i ds k = true := by
 unfold visA
 rw [Bool.or_eq_true]
 rcases Nat.lt_or_ge k n0 with h | h
 · exact .inl ((blt_iff _ _).2 h)
 · obtain ⟨d, hd, h1, h2, h3, h4⟩ := hI.cov k h hk
   refine .inr (List.any_eq_true.2 ⟨d, hd, ?_⟩)
   have := List.all_eq_true.1 (List.all_eq_true.1 hl i ((memN_iff _ _).1 hi)) d.i ((memN_iff _ _).1 h3)
   rw [Bool.or_eq_true] at this
   rcases this with h | h
   · have := Nat.le_of_ble_eq_true h
     omega
   · simp only [Bool.and_eq_true]
     exact ⟨⟨Nat.ble_eq_true_of_le h1, (blt_iff _ _).2 h2⟩, h⟩
theorem visW {bef : Array Nat} {mk late : List Nat} (hl : lateOk bef mk late = true) {n0 i : Nat} {ds : List Done} {st : St} (hI : InvW mk n0 i ds st) {see : List Nat} (h : visT late n0 i st.n see = true) : see.all (visA bef n0 i ds) = true := by
 refine List.all_eq_true.2 fun k hk => ?_
 unfold visT at h
 rw [Bool.or_eq_true] at h
 rcases h with h | h
 · rw [Bool.and_eq_true] at h
   exact lateOk_visW hl h.1 hI ((blt_iff _ _).1 (List.all_eq_true.1 h.2 k hk))
 · have := List.all_eq_true.1 h k hk
   unfold visA
   rw [this, Bool.true_or]
abbrev Calm (bef : Array Nat) (i : Nat) (ds : List Done) : Prop := ∀ d ∈ ds, d.put = [] ∨ ahead bef d.i i = true
theorem footW {bef : Array Nat} {mk late : List Nat} (hl : lateOk bef mk late = true) {n0 i : Nat} {ds : List Done} {st : St} (hI : InvW mk n0 i ds st) (hp : Calm bef i ds) {see : List Nat} (h : visT late n0 i st.n see = true) : footOk bef n0 i ds see [] = true := by
 unfold footOk
 simp only [Bool.and_eq_true]
 refine ⟨⟨List.all_eq_true.2 fun d hd => ?_, visW hl hI h⟩, rfl⟩
 rcases hp d hd with h | h <;> simp [disj, h]
theorem seeCall_calm {bef : Array Nat} {n0 i : Nat} {ds : List Done} (hp : Calm bef i ds) : ∀ H : Heap, (∀ x ∈ H, visA bef n0 i ds x.1 = true) → seeCall bef n0 i ds H = dnames H
 | [], _ => rfl
 | (k, b) :: H, hv => by
   have ih := seeCall_calm hp H fun x hx => hv x (List.mem_cons_of_mem _ hx)
   have h1 := hv _ (List.mem_cons_self ..)
   have h2 : (ds.all fun d => ahead bef d.i i || !memN d.put k) = true := List.all_eq_true.2 fun d hd => by rcases hp d hd with h | h <;> simp [h, memN]
   cases b <;> simp only [seeCall, dnames, h1, h2, ih, Bool.and_self, if_true]
theorem backA_mem (put : List Nat) (H' : Heap) : ∀ (H : Heap) (x : Nat × Blk), x ∈ backA put H' H → ∃ b, (x.1, b) ∈ H
 | [], _, h => by cases h
 | (k, b) :: H, x, h => by
   simp only [backA] at h
   split at h
   · rcases List.mem_cons.1 h with rfl | h
     · exact ⟨b, List.mem_cons_self ..⟩
     · obtain ⟨c, hc⟩ := backA_mem put H' H x h
       exact ⟨c, List.mem_cons_of_mem _ hc⟩
   · split at h
     · rcases List.mem_cons.1 h with rfl | h
       · exact ⟨b, List.mem_cons_self ..⟩
       · obtain ⟨c, hc⟩ := backA_mem put H' H x h
         exact ⟨c, List.mem_cons_of_mem _ hc⟩
     · obtain ⟨c, hc⟩ := backA_mem put H' H x h
       exact ⟨c, List.mem_cons_of_mem _ hc⟩
theorem handW_ok {P : Program} {r : Rec} {bef : Array Nat} {mk : List Nat} {n0 i : Nat} {ds : List Done} {o : Oper} {fr : Fr} {st st' : St} (hI : InvW mk n0 i ds st) {see put : List Nat} (hf : footOk bef n0 i ds see put = true) (h : handW P r mk i o see put fr st = some st') :
   ∃ lo hi, handOp P r bef n0 i ds o see put fr st = some (st', ⟨i, see, put, lo, hi⟩ :: ds) ∧ InvW mk n0 (i + 1) (⟨i, see, put, lo, hi⟩ :: ds) st' := by
 unfold handW at h
 unfold handOp
 rw [hf]
 simp only
 split at h
 · rename_i v H k hv
   rw [hv]
   simp only
   split at h
   · rename_i hc
     simp only [Bool.and_eq_true] at hc
     injection h with h; subst h
     rw [hc.1.1, hc.1.2]
     simp only [Bool.and_self]
     have hle := Nat.le_of_ble_eq_true hc.1.1
     refine ⟨_, _, rfl, hI.next (fun x hx => ?_) hc.2⟩
     rcases List.mem_append.1 hx with hx | hx
     · exact namesOk_mem _ _ hc.1.2 x hx
     · obtain ⟨b, hb⟩ := backA_mem _ _ _ _ hx
       exact Nat.lt_of_lt_of_le (hI.nam (x.1, b) hb) hle
   · cases h
 · cases h
theorem handT_W {P : Program} {r : Rec} {mk : List Nat} {i : Nat} {o : Oper} {see : List Nat} {fr : Fr} {st : St} : handT P r mk i o see fr st = handW P r mk i o see [] fr st := by
 have hb : ∀ (H' H : Heap), backA [] H' H = H := fun H' H => by
   induction H with
   | nil => rfl
   | cons x H ih => obtain ⟨k, b⟩ := x; simp only [backA, memN, ih]
 unfold handT handW
 simp only [hb]
 generalize runOp P r o { st with fr := fr, H := handA see [] st.H } = z
 cases z with
 | none => rfl
 | some y =>
   obtain ⟨v, H, k⟩ := y
   simp only
   cases (Nat.ble st.n k && namesOk k (takeNew st.n H) && (Nat.beq k st.n || memN mk i)) <;> rfl
theorem oneT_ok {P : Program} {r : Rec} {ops : Array Oper} {bef : Array Nat} {al mk late : List Nat} (hl : lateOk bef mk late = true) {n0 i : Nat} {o : Oper} {st st1 : St} {ds : List Done} (hal : (isPure o.op || isRead o.op || memN al i == aloneA bef i ops.toList 0) = true)
   (hI : InvW mk n0 i ds st) (hp : Calm bef i ds) (h1 : oneT P r ops al mk late n0 i o st = some st1) :
   ∃ ds', oneD P r ops bef n0 i ds o st = some (st1, ds') ∧ InvW mk n0 (i + 1) ds' st1 ∧ (ds' = ds ∨ isPure o.op = false ∧ ∃ see lo hi, ds' = ⟨i, see, [], lo, hi⟩ :: ds ∧ (isRead o.op = true → ∃ f, footA P (trim (lookTmps ops o) st.fr) o.op = some f ∧ see = f.see)) := by
 simp only [Bool.or_eq_true, beq_iff_eq] at hal
 have halo : isPure o.op = false → isRead o.op = false → memN al i = aloneA bef i ops.toList 0 := fun h1 h2 => by
   rcases hal with (h | h) | h
   · rw [h1] at h; cases h
   · rw [h2] at h; cases h
   · exact h
 unfold oneT at h1
 unfold oneD
 split at h1
 · cases h1
 · rename_i hd
   rw [hd]
   simp only
   split at h1
   · cases h1
   · rename_i hw
     rw [hw]
     injection h1 with h1; subst h1
     exact ⟨ds, rfl, hI.same, .inl rfl⟩
   · rename_i hw
     rw [hw]
     simp only
     unfold doneT at h1
     unfold doneD
     split at h1
     · rename_i hp
       rw [hp]
       simp only
       unfold pureS at h1
       unfold pureOp
       split at h1
       · rename_i v a k hv
         rw [hv]
         simp only
         split at h1
         · rename_i hk
           rw [hk]
           injection h1 with h1; subst h1
           exact ⟨ds, rfl, hI.same, .inl rfl⟩
         · cases h1
       · cases h1
     · rename_i hpu
       rw [hpu]
       simp only
       split at h1
       · rename_i hrd
         rw [hrd]
         simp only
         split at h1
         · rename_i f hf
           rw [hf]
           simp only
           unfold readT at h1
           split at h1
           · rename_i hv
             unfold readOp
             rw [footW hl hI hp hv]
             simp only
             split at h1
             · rename_i v a b hv
               rw [hv]
               injection h1 with h1; subst h1
               exact ⟨_, rfl, hI.next hI.nam (by simp), .inr ⟨trivial, _, _, _, rfl, fun _ => ⟨f, rfl, rfl⟩⟩⟩
             · cases h1
           · cases h1
         · cases h1
       · rename_i hrd
         rw [hrd]
         simp only
         split at h1
         · rename_i hm
           have ha : aloneA bef i ops.toList 0 = true := by rw [← halo hpu hrd, hm]
           rw [ha]
           simp only
           unfold aloneT at h1
           unfold aloneOp
           split at h1
           · rename_i v H k hv
             rw [hv]
             simp only
             split at h1
             · rename_i hk
               simp only [Bool.and_eq_true] at hk
               rw [hk.1.1, hk.1.2]
               injection h1 with h1; subst h1
               exact ⟨_, rfl, hI.next (namesOk_mem _ _ hk.1.2) hk.2, .inr ⟨trivial, _, _, _, rfl, fun h => by cases h⟩⟩
             · cases h1
           · cases h1
         · rename_i hm
           have ha : aloneA bef i ops.toList 0 = false := by rw [← halo hpu hrd, hm]
           rw [ha]
           simp only
           split at h1
           · rename_i f hf
             rw [hf]
             simp only
             split at h1
             · rename_i hv
               rw [Bool.and_eq_true] at hv
               rw [List.isEmpty_iff.1 hv.1]
               rw [handT_W] at h1
               obtain ⟨lo, hi, e1, e2⟩ := handW_ok hI (footW hl hI hp hv.2) h1
               exact ⟨_, e1, e2, .inr ⟨trivial, _, _, _, rfl, fun h => by cases h⟩⟩
             · cases h1
           · rename_i hf
             rw [hf]
             simp only
             split at h1
             · rename_i hv
               have hvis : ∀ k, k < st.n → visA bef n0 i ds k = true := fun k hk => lateOk_visW hl hv hI hk
               rw [seeCall_calm hp st.H fun x hx => hvis _ (hI.nam x hx)]
               rw [handT_W] at h1
               obtain ⟨lo, hi, e1, e2⟩ := handW_ok hI (footW hl hI hp (by
                 unfold visT
                 rw [hv]
                 simp only [Bool.true_and, Bool.or_eq_true]
                 refine .inl (List.all_eq_true.2 fun k hk => ?_)
                 obtain ⟨b, hb⟩ := dnames_mem _ _ hk
                 exact (blt_iff _ _).2 (hI.nam _ hb))) h1
               exact ⟨_, e1, e2, .inr ⟨trivial, _, _, _, rfl, fun h => by cases h⟩⟩
             · cases h1
theorem opsW_ok {P : Program} {r : Rec} {ops : Array Oper} {bef : Array Nat} {al mk late q : List Nat} {w : Nat} (hl : lateOk bef mk late = true) {n0 : Nat} : ∀ (os : List Oper) (i : Nat) (sn : List Nat) (st st' : St) (ds : List Done), alEq ops bef al os i = true → wOk bef q w os i = true → InvW mk n0 i ds st →
   (i ≤ w → ∀ d ∈ ds, d.put = [] ∧ (ahead bef d.i w = true ∨ ∀ k ∈ d.see, k ∈ sn)) → (w < i → ∀ d ∈ ds, d.put = [] ∨ d.i = w) → opsW P r ops al mk late q w n0 os i sn st = some st' → opsD P r ops bef n0 os i ds st = some st'
 | [], _, _, st, st', ds, _, _, _, _, _, h => h
 | o :: os, i, sn, st, st', ds, hal, hw, hI, hc1, hc2, h => by
   simp only [alEq, Bool.and_eq_true] at hal
   simp only [wOk, Bool.and_eq_true] at hw
   simp only [opsW] at h
   split at h
   · rename_i hiw
     have hiw := Nat.eq_of_beq_eq_true hiw
     subst hiw
     split at h
     · rename_i st1 h1
       have key : ∃ ds', oneD P r ops bef n0 i ds o st = some (st1, ds') ∧ InvW mk n0 (i + 1) ds' st1 ∧ ∃ see put lo hi, ds' = ⟨i, see, put, lo, hi⟩ :: ds := by
         unfold writeT at h1
         unfold oneD
         split at h1
         · cases h1
         · rename_i hd
           rw [hd]
           simp only
           split at h1
           · rename_i hwa
             rw [hwa]
             simp only
             split at h1
             · cases h1
             · rename_i hk
               simp only [Bool.or_eq_false_iff] at hk
               unfold doneD
               rw [hk.1.1, hk.1.2]
               simp only
               have ha : aloneA bef i ops.toList 0 = false := by
                 have := hal.1
                 rw [hk.1.1, hk.1.2, hk.2] at this
                 simpa using this
               rw [ha]
               simp only
               split at h1
               · rename_i f hf
                 rw [hf]
                 simp only
                 split at h1
                 · rename_i hv
                   simp only [Bool.and_eq_true] at hv
                   obtain ⟨⟨hv1, hv2⟩, hv3⟩ := hv
                   have hfo : footOk bef n0 i ds f.see f.put = true := by
                     unfold footOk
                     simp only [Bool.and_eq_true]
                     refine ⟨⟨List.all_eq_true.2 fun d hd => ?_, visW hl hI hv1⟩, hv2⟩
                     obtain ⟨e1, e2⟩ := hc1 (Nat.le_refl _) d hd
                     rw [Bool.or_eq_true]
                     rcases e2 with e2 | e2
                     · exact .inl e2
                     · refine .inr ?_
                       rw [e1, Bool.and_eq_true]
                       refine ⟨List.all_eq_true.2 fun k hk => ?_, rfl⟩
                       have := List.all_eq_true.1 hv3 k hk
                       cases hm : memN d.see k with
                       | false => rfl
                       | true =>
                         have h3 := (memN_iff _ _).2 (e2 k ((memN_iff _ _).1 hm))
                         rw [h3] at this
                         cases this
                   obtain ⟨lo, hi, g1, g2⟩ := handW_ok hI hfo h1
                   exact ⟨_, g1, g2, _, _, _, _, rfl⟩
                 · cases h1
               · cases h1
           · cases h1
       obtain ⟨ds', h2, hI', see, put, lo, hi, rfl⟩ := key
       simp only [opsD, h2]
       refine opsW_ok hl os (i + 1) sn st1 st' _ hal.2 hw.2 hI' (fun hle => by omega) (fun _ d hd => ?_) h
       rcases List.mem_cons.1 hd with rfl | hd
       · exact .inr rfl
       · exact .inl (hc1 (Nat.le_refl _) d hd).1
     · cases h
   · rename_i hiw
     have hne : i ≠ w := fun e => by rw [e, Nat.beq_refl] at hiw; cases hiw
     split at h
     · rename_i st1 h1
       by_cases hpu : isPure o.op = true
       · have hone : ∃ ds', oneD P r ops bef n0 i ds o st = some (st1, ds') ∧ InvW mk n0 (i + 1) ds' st1 ∧ ds' = ds := by
           unfold oneT at h1
           unfold oneD
           split at h1
           · cases h1
           · rename_i hd
             rw [hd]
             simp only
             split at h1
             · cases h1
             · rename_i hw
               rw [hw]
               injection h1 with h1; subst h1
               exact ⟨ds, rfl, hI.same, rfl⟩
             · rename_i hw
               rw [hw]
               simp only
               unfold doneT at h1
               unfold doneD
               rw [hpu] at h1 ⊢
               simp only at h1 ⊢
               unfold pureS at h1
               unfold pureOp
               split at h1
               · rename_i v a k hv
                 rw [hv]
                 simp only
                 split at h1
                 · rename_i hk
                   rw [hk]
                   injection h1 with h1; subst h1
                   exact ⟨ds, rfl, hI.same, rfl⟩
                 · cases h1
               · cases h1
         obtain ⟨ds', h2, hI', rfl⟩ := hone
         simp only [opsD, h2]
         split at h
         · refine opsW_ok hl os (i + 1) _ st1 st' _ hal.2 hw.2 hI' (fun hle d hd => ?_) (fun hlt d hd => hc2 (by omega) d hd) h
           obtain ⟨e1, e2⟩ := hc1 (by omega) d hd
           refine ⟨e1, e2.imp_right fun e2 k hk => ?_⟩
           unfold footT'
           split
           · exact List.mem_append_right _ (e2 k hk)
           · exact e2 k hk
         · exact opsW_ok hl os (i + 1) sn st1 st' _ hal.2 hw.2 hI' (fun hle d hd => hc1 (by omega) d hd) (fun hlt d hd => hc2 (by omega) d hd) h
       · have hpu : isPure o.op = false := by simpa using hpu
         have hcalm : Calm bef i ds := fun d hd => by
           rcases Nat.lt_or_ge w i with hlt | hle
           · rcases hc2 hlt d hd with e | e
             · exact .inl e
             · refine .inr ?_
               have := hw.1
               rw [if_neg (by omega), hpu, hiw] at this
               rw [e]
               simpa using this
           · exact .inl (hc1 hle d hd).1
         obtain ⟨ds', h2, hI', hds⟩ := oneT_ok hl hal.1 hI hcalm h1
         simp only [opsD, h2]
         have hsub : ∀ (sn' : List Nat), (∀ k ∈ sn, k ∈ sn') → (i < w → ahead bef i w = true ∨ (isRead o.op = true ∧ ∀ f, footA P (trim (lookTmps ops o) st.fr) o.op = some f → ∀ k ∈ f.see, k ∈ sn')) → i + 1 ≤ w → ∀ d ∈ ds', d.put = [] ∧ (ahead bef d.i w = true ∨ ∀ k ∈ d.see, k ∈ sn') := fun sn' hs ho hle d hd => by
           have old : ∀ d ∈ ds, d.put = [] ∧ (ahead bef d.i w = true ∨ ∀ k ∈ d.see, k ∈ sn') := fun d hd => by
             obtain ⟨e1, e2⟩ := hc1 (by omega) d hd
             exact ⟨e1, e2.imp_right fun e2 k hk => hs k (e2 k hk)⟩
           rcases hds with rfl | ⟨_, see, lo, hi, rfl, hf⟩
           · exact old d hd
           · rcases List.mem_cons.1 hd with rfl | hd
             · refine ⟨rfl, (ho (by omega)).imp_right fun h => ?_⟩
               obtain ⟨f, e1, e2⟩ := hf h.1
               intro k hk
               exact h.2 f e1 k (e2 ▸ hk)
             · exact old d hd
         have hput : w < i + 1 → ∀ d ∈ ds', d.put = [] ∨ d.i = w := fun hlt d hd => by
           rcases hds with rfl | ⟨_, see, lo, hi, rfl, _⟩
           · exact hc2 (by omega) d hd
           · rcases List.mem_cons.1 hd with rfl | hd
             · exact .inl rfl
             · exact hc2 (by omega) d hd
         have hst : i < w → ahead bef i w = true ∨ (memN q i = true ∧ isRead o.op = true) := fun hlt => by
           have := hw.1
           rw [if_pos hlt, hpu] at this
           simpa using this
         split at h
         · rename_i hq
           refine opsW_ok hl os (i + 1) _ st1 st' _ hal.2 hw.2 hI' (hsub _ (fun k hk => ?_) fun hlt => ?_) hput h
           · unfold footT'
             split
             · exact List.mem_append_right _ hk
             · exact hk
           · refine (hst hlt).imp_right fun e => ⟨e.2, fun f hf k hk => ?_⟩
             unfold footT'
             rw [hf]
             exact List.mem_append_left _ hk
         · rename_i hq
           refine opsW_ok hl os (i + 1) sn st1 st' _ hal.2 hw.2 hI' (hsub sn (fun k hk => hk) fun hlt => ?_) hput h
           refine (hst hlt).imp_right fun e => ?_
           rw [e.1] at hq
           cases hq
     · cases h
def drawTW (ops : Array Oper) (bef : Array Nat) (al mk late q : List Nat) (w : Nat) : Bool := drawT ops bef al mk late && wOk bef q w ops.toList 0
section
variable {P : Program} {n0 : Nat} {ro : Option Nat} {st st' : St} {K : Ex → St → Prop} {r : Rec} {m : Nat}
theorem E.drawW (hm : P.follows .mixedOrders = true) (hr : RecOk P r m) (al mk late q : List Nat) (w : Nat) {id : Nat} {ops : Array Oper} (hd : drawTW ops (Region.before ops) al mk late q w = true) (h : runW P r ops al mk late q w st = some st') (k : K .normal st') : E P n0 ro (.region id ops true) st K := by
 unfold drawTW drawT at hd
 simp only [Bool.and_eq_true] at hd
 obtain ⟨⟨⟨h1, h2⟩, h3⟩, h4⟩ := hd
 unfold runW at h
 split at h
 · rename_i hn
   exact E.draw hm hr h1 (opsW_ok h3 _ 0 [] st st' [] h2 h4 ⟨fun d hd => (by simp at hd), fun k h1 h2 => (by omega), namesOk_mem _ _ hn⟩ (fun _ d hd => (by simp at hd)) (fun _ d hd => (by simp at hd)) h) k
 · cases h
end
attribute [simp] runW opsW writeT handW footT' disj backA
end Go.Ab

namespace Go.Proofs.YtndlfijfjglkdaaGreatDoor
open Go Go.Ab Go.Proofs
theorem E.toATc {P : Program} {ro : Option Nat} {c : Code} {s s' : St} {e : Ex} (h : E P s.n ro c s fun e2 s2 => e2 = e ∧ s2.n = s'.n ∧ s2.sz = s'.sz ∧ s2.marks = s'.marks ∧ (∀ x ∈ s'.fr, lk s2.fr x.1 = some x.2) ∧ ∀ x ∈ s'.H, hget s2.H x.1 = some x.2) : AT P ro c s e s' := by
 obtain ⟨e2, s2, hx, rfl, h1, h2, h3, h4, h5⟩ := h
 exact (ATX.at hx).cut h1 h2 h3 (fun t v hv => h4 (t, v) (lk_mem _ _ _ hv)) (fun k b hk => h5 (k, b) (hget_mem _ _ _ hk))
@[simp] theorem scB_cells (p : Nat → Prop) (cs : List Value) (t : TypeId) : scB p (.cells cs t) = scL p cs := rfl
@[simp] theorem scB_ext (p : Nat → Prop) (cs : List Value) (t : TypeId) (sz : Nat) : scB p (.ext cs t sz) = scL p cs := rfl
@[simp] theorem scB_inp (p : Nat → Prop) (o : Nat) (cs : List Value) : scB p (.inp o cs) = scL p cs := rfl
@[simp] theorem scB_row (p : Nat → Prop) (cs : List Value) (sz : Nat) : scB p (.row cs sz) = scL p cs := rfl
@[simp] theorem scB_defd (p : Nat → Prop) : scB p .defd = True := rfl
@[simp] theorem scB_loop {p : Nat → Prop} {ls : LoopState} {pe : Option Code} {fr : Fr} {sz d : Nat} {vs : List Nat} {ps : Array Tmp} {a b : Code} (h1 : p d) (h2 : ∀ x ∈ fr, sc p x.2) : scB p (.loop ls pe fr sz vs ps a b d) = True := eq_true ⟨h1, fun t v hv => h2 (t, v) (lk_mem _ _ _ hv)⟩
@[simp] theorem heldB_cells (m : Nat) (cs : List Value) (t : TypeId) : heldB m (.cells cs t) = True := rfl
@[simp] theorem heldB_ext (m : Nat) (cs : List Value) (t : TypeId) (sz : Nat) : heldB m (.ext cs t sz) = True := rfl
@[simp] theorem heldB_inp (m o : Nat) (cs : List Value) : heldB m (.inp o cs) = True := rfl
@[simp] theorem heldB_row (m : Nat) (cs : List Value) (sz : Nat) : heldB m (.row cs sz) = True := rfl
@[simp] theorem heldB_defd (m : Nat) : heldB m .defd = True := rfl
end Go.Proofs.YtndlfijfjglkdaaGreatDoor

namespace Go.Proofs.YtndlfijfjglkdaaGreatDoor
open Go Go.Ab Go.Proofs
end Go.Proofs.YtndlfijfjglkdaaGreatDoor

namespace Go.Proofs.YtndlfijfjglkdaaGreatDoor
open Go Go.Ab Go.Proofs
end Go.Proofs.YtndlfijfjglkdaaGreatDoor

namespace Go.Proofs.YtndlfijfjglkdaaGreatDoor
open Go Go.Ab Go.Proofs
end Go.Proofs.YtndlfijfjglkdaaGreatDoor

namespace Go.Ab
open Go
theorem AC.given {P : Program} {f : FuncId} {args : List Value} {H : Heap} {n : Nat} {v : Value} {H' : Heap} {n' : Nat} (h : (∀ k b, hget H k = some b → k < n ∧ scB (· < n) b) → scL (· < n) args → P.globals.size ≤ n → AC P f args H n v H' n') : AC P f args H n v H' n' :=
 fun p φ w hB hsc => h (fun k b hk => ⟨hB.lt k (hB.sm k b hk).1, scB_mono hB.lt _ (hB.sm k b hk).2⟩) (scL_mono hB.lt _ hsc) hB.gn p φ w hB hsc
theorem AC.frame {P : Program} {f : FuncId} {args : List Value} {H H0 H1 H2 : Heap} {n n' : Nat} {v : Value} (h : AC P f args H0 n v H1 n') (hsub : ∀ k b, hget H0 k = some b → hget H k = some b)
   (h2 : ∀ k b, hget H2 k = some b → hget H1 k = some b ∨ (hget H k = some b ∧ hget H0 k = none)) : AC P f args H n v H2 n' := by
 intro p φ w hB hsc
 have hB0 : Base P p φ n (hget H0) w [] act0 := ⟨hB.rel.sub hsub, hB.lt, hB.gl, hB.gn, fun k b hk => hB.sm k b (hsub k b hk), fun t v hv => by simp [lk] at hv, fun t v hv => by simp [lk] at hv⟩
 have key : ∀ φ' w', Dn P p φ n (hget H0) w v n' (hget H1) φ' w' → Dn P p φ n (hget H) w v n' (hget H2) φ' w' := by
   intro φ' w' hd
   obtain ⟨hsm, hscv, hst⟩ := hd
   have hagr : Agr p φ φ' := fun k hk => hst.only k (.inl (hB.lt k hk))
   have hloc : ∀ k b, hget H k = some b → φ'.loc k = φ.loc k := fun k b hk => (hagr k (hB.sm k b hk).1).1
   have hkeep : ∀ k b, hget H k = some b → hget H0 k = none → w'.heap[φ.loc k]? = w.heap[φ.loc k]? := fun k b hk hn => hst.frm.keep _ (hB.rel.lt hk) fun j x hj ho => hB.rel.apart j x k b (hsub j x hj) hk (fun e => by subst e; rw [hn] at hj; cases hj) ho
   refine ⟨fun k b hk => ?_, hscv, hst.le, hst.only, ⟨fun k b hk => ?_, fun k b k' b' g1 g2 hne ho => ?_, hst.rel.glob⟩, fun k b hk ho => ?_, fun k b hk ho => ?_, ⟨hst.frm.os, hst.frm.tape, hst.frm.output, hst.frm.size, fun b hb hx => hst.frm.keep b hb fun k x hk ho => hx k x (hsub k x hk) ho⟩⟩
   · rcases h2 k b hk with h | ⟨h, _⟩
     · exact hsm k b h
     · exact ⟨.inl (hB.sm k b h).1, scB_mono (fun _ h => .inl h) _ (hB.sm k b h).2⟩
   · rcases h2 k b hk with h | ⟨h, hn⟩
     · exact hst.rel.blk k b h
     · rw [hloc k b h, hkeep k b h hn]
       exact (hB.rel.blk k b h).congr hagr (hB.sm k b h).1 (hB.sm k b h).2
   · rcases h2 k b g1 with h | ⟨h, hn⟩ <;> rcases h2 k' b' g2 with h' | ⟨h', hn'⟩
     · exact hst.rel.apart k b k' b' h h' hne ho
     · rw [hloc k' b' h']
       rcases hst.new k b h ho with g | ⟨k0, b0, e1, e2, e3⟩
       · have := hB.rel.lt h'
         omega
       · rw [← e3]
         exact hB.rel.apart k0 b0 k' b' (hsub _ _ e1) h' (fun e => by subst e; rw [hn'] at e1; cases e1) e2
     · rw [hloc k b h]
       cases hb : b'.own with
       | true =>
         rcases hst.new k' b' h' hb with g | ⟨k0, b0, e1, e2, e3⟩
         · have := hB.rel.lt h
           omega
         · rw [← e3]
           exact hB.rel.apart k b k0 b0 h (hsub _ _ e1) (fun e => by subst e; rw [hn] at e1; cases e1) ho
       | false =>
         have e1 := hst.inp k' b' h' hb
         rw [hloc k' b' (hsub _ _ e1)]
         exact hB.rel.apart k b k' b' h (hsub _ _ e1) hne ho
     · rw [hloc k b h, hloc k' b' h']
       exact hB.rel.apart k b k' b' h h' hne ho
   · rcases h2 k b hk with h | ⟨h, _⟩
     · rcases hst.new k b h ho with g | ⟨k0, b0, e1, e2, e3⟩
       · exact .inl g
       · exact .inr ⟨k0, b0, hsub _ _ e1, e2, e3⟩
     · exact .inr ⟨k, b, h, ho, (hloc k b h).symm⟩
   · rcases h2 k b hk with h | ⟨h, _⟩
     · exact hsub _ _ (hst.inp k b h ho)
     · exact h
 rcases h p φ w hB0 hsc with ⟨h1, h3⟩ | ⟨φ', w', h1, h3⟩
 · refine .inl ⟨h1, CallsIn.mono h3 fun e w' hh => ?_⟩
   obtain ⟨φ', he, hd⟩ := hh
   exact ⟨φ', he, key φ' w' hd⟩
 · exact .inr ⟨φ', w', h1, key φ' w' h3⟩
theorem AC.ren {P : Program} {f : FuncId} {args : List Value} {H H1 H2 : Heap} {n n1 n2 : Nat} {u v : Value} (ρ : Nat → Nat) (h : AC P f args H n u H1 n1) (hlow : ∀ k, k < n → ρ k = k) (hle : n ≤ n2) (hv : u = Ab.ren ρ v) (hsv : sc (· < n2) v)
   (hH : ∀ k b, hget H2 k = some b → (hget H k = some b ∧ hget H1 k = some b) ∨ (n ≤ k ∧ k < n2 ∧ n ≤ ρ k ∧ hget H1 (ρ k) = some (renB ρ b) ∧ scB (· < n2) b ∧ carried b ∧ b.own = true))
   (hinj : ∀ j b k c, n ≤ j → n ≤ k → hget H2 j = some b → hget H2 k = some c → ρ j = ρ k → j = k) : AC P f args H n v H2 n2 := by
 intro p φ w hB hsc
 have key : ∀ φ' w', Dn P p φ n (hget H) w u n1 (hget H1) φ' w' → ∃ φ2, den φ' u = den φ2 v ∧ Dn P p φ n (hget H) w v n2 (hget H2) φ2 w' := by
   intro φ' w' hd
   obtain ⟨hsm, hscu, hst⟩ := hd
   let φ2 : Vl := ⟨fun k => if n ≤ k ∧ k < n2 then φ'.loc (ρ k) else φ.loc k, fun k => if n ≤ k ∧ k < n2 then φ'.cap (ρ k) else φ.cap k⟩
   have hoth : ∀ k, ¬ (n ≤ k ∧ k < n2) → φ2.loc k = φ.loc k ∧ φ2.cap k = φ.cap k := fun k hk => by simp only [φ2]; rw [if_neg hk, if_neg hk]; exact ⟨rfl, rfl⟩
   have hmid : ∀ k, n ≤ k ∧ k < n2 → φ2.loc k = φ'.loc (ρ k) ∧ φ2.cap k = φ'.cap (ρ k) := fun k hk => by simp only [φ2]; rw [if_pos hk, if_pos hk]; exact ⟨rfl, rfl⟩
   have hrn : Rn (Nx p n n2) ρ φ' φ2 := fun k hk => by
     rcases hk with hk | hk
     · have hk0 := hB.lt k hk
       rw [(hoth k (by omega)).1, (hoth k (by omega)).2, hlow k hk0, (hst.only k (.inl hk0)).1, (hst.only k (.inl hk0)).2]
       exact ⟨rfl, rfl⟩
     · exact hmid k hk
   have hnx : ∀ k, Nx p n n1 (ρ k) ∧ k < n2 → Nx p n n2 k := fun k hk => by
     by_cases h0 : k < n
     · have := hk.1
       rw [hlow k h0] at this
       rcases this with h1 | h1
       · exact .inl h1
       · omega
     · exact .inr ⟨by omega, hk.2⟩
   have hscv : sc (Nx p n n2) v := sc_mono hnx v (sc_ren v (hv ▸ hscu) hsv)
   have hagr : Agr p φ φ2 := fun k hk => hoth k (by have := hB.lt k hk; omega)
   have hagr' : Agr p φ' φ2 := fun k hk => by
     have h1 := hagr k hk
     have h2 := hst.only k (.inl (hB.lt k hk))
     exact ⟨h1.1.trans h2.1.symm, h1.2.trans h2.2.symm⟩
   have hone : ∀ k b, hget H2 k = some b → (∃ b', hget H1 (ρ k) = some b' ∧ b'.own = b.own) ∧ φ2.loc k = φ'.loc (ρ k) := fun k b hk => by
     rcases hH k b hk with ⟨h1, h2⟩ | ⟨h1, h2, h3, h4, h5, h6, h7⟩
     · have hp := (hB.sm k b h1).1
       have hk0 := hB.lt k hp
       rw [hlow k hk0]
       exact ⟨⟨b, h2, rfl⟩, (hagr' k hp).1⟩
     · exact ⟨⟨_, h4, renB_own _ _⟩, (hmid k ⟨h1, h2⟩).1⟩
   refine ⟨φ2, by rw [hv]; exact den_ren hrn v hscv, fun k b hk => ?_, hscv, hle, fun k hk => hoth k (by omega), ⟨fun k b hk => ?_, fun k b k' b' g1 g2 hne ho => ?_, fun g hg => ?_⟩, fun k b hk ho => ?_, fun k b hk ho => ?_, hst.frm⟩
   · rcases hH k b hk with ⟨h1, h2⟩ | ⟨h1, h2, h3, h4, h5, h6, h7⟩
     · exact ⟨.inl (hB.sm k b h1).1, scB_mono (fun _ h => .inl h) _ (hB.sm k b h1).2⟩
     · exact ⟨.inr ⟨h1, h2⟩, scB_mono hnx _ (scB_ren b h6 (hsm _ _ h4).2 h5)⟩
   · rw [(hone k b hk).2]
     rcases hH k b hk with ⟨h1, h2⟩ | ⟨h1, h2, h3, h4, h5, h6, h7⟩
     · have hp := hB.sm k b h1
       rw [hlow k (hB.lt k hp.1)]
       exact (hst.rel.blk k b h2).congr hagr' hp.1 hp.2
     · exact BRel.ren hrn (.inr ⟨h1, h2⟩) h6 (scB_mono hnx _ (scB_ren b h6 (hsm _ _ h4).2 h5)) (hst.rel.blk _ _ h4)
   · obtain ⟨⟨c, c1, c2⟩, c3⟩ := hone k b g1
     obtain ⟨⟨d, d1, d2⟩, d3⟩ := hone k' b' g2
     rw [c3, d3]
     refine hst.rel.apart _ _ _ _ c1 d1 (fun e => hne ?_) (c2.trans ho)
     rcases hH k b g1 with ⟨h1, _⟩ | ⟨h1, _, h3, _⟩ <;> rcases hH k' b' g2 with ⟨h1', _⟩ | ⟨h1', _, h3', _⟩
     · have hk0 := hB.lt k (hB.sm k b h1).1
       have hk1 := hB.lt k' (hB.sm k' b' h1').1
       rwa [hlow k hk0, hlow k' hk1] at e
     · have hk0 := hB.lt k (hB.sm k b h1).1
       rw [hlow k hk0] at e
       omega
     · have hk1 := hB.lt k' (hB.sm k' b' h1').1
       rw [hlow k' hk1] at e
       omega
     · exact hinj k b k' b' h1 h1' g1 g2 e
   · rw [(hoth g (by have := hB.gn; omega)).1]; exact hB.rel.glob g hg
   · obtain ⟨⟨c, c1, c2⟩, c3⟩ := hone k b hk
     rw [c3]
     exact hst.new _ _ c1 (c2.trans ho)
   · rcases hH k b hk with ⟨h1, _⟩ | ⟨_, _, _, _, _, _, h7⟩
     · exact h1
     · rw [h7] at ho; cases ho
 rcases h p φ w hB hsc with ⟨h1, h3⟩ | ⟨φ', w', h1, h3⟩
 · refine .inl ⟨h1, CallsIn.mono h3 fun e w' hh => ?_⟩
   obtain ⟨φ', he, hd⟩ := hh
   obtain ⟨φ2, e2, hd2⟩ := key φ' w' hd
   exact ⟨φ2, by rw [he, e2], hd2⟩
 · obtain ⟨φ2, e2, hd2⟩ := key φ' w' h3
   exact .inr ⟨φ2, w', by rw [h1, e2], hd2⟩
def Fresh (n n2 : Nat) (H : Heap) (v : Value) (B : Heap) (u : Value) (H1 : Heap) : Prop :=
 ∃ ρ : Nat → Nat, (∀ k, k < n → ρ k = k) ∧ u = ren ρ v ∧ (∀ k b, hget B k = some b → n ≤ k ∧ k < n2 ∧ n ≤ ρ k ∧ hget H1 (ρ k) = some (renB ρ b) ∧ scB (· < n2) b ∧ carried b ∧ b.own = true) ∧
   (∀ j b k c, hget B j = some b → hget B k = some c → ρ j = ρ k → j = k) ∧ ∀ k b, hget H k = some b → hget H1 k = some b
theorem AC.fresh {P : Program} {f : FuncId} {fn : Func} {c : Code} {args : List Value} {H B : Heap} {n n2 : Nat} {v : Value} (hf : P.funcs[f]? = some fn) (hb : fn.body = some c) (he : enterable P f = true) (hlen : Nat.ble args.length fn.ntmps = true) (vs : List Nat) (hle : n ≤ n2) (hsv : sc (· < n2) v) (hnf : ∀ ρ, af (Ab.ren ρ v) = false)
   (h : E P n none c { fr := argsFr args 0, sz := fn.ntmps, H, n, marks := [], vs } (outK P fn (Fresh n n2 H v B))) : AC P f args H n v (B ++ H) n2 := by
 refine AC.given fun hlt _ _ => ?_
 obtain ⟨u, H1, n1, H3, hAC, ⟨ρ, h1, h2, h3, h4, h5⟩, hh⟩ := AC.out hf hb he hlen vs h
 obtain rfl := hh (by rw [h2]; exact hnf ρ)
 have happ : ∀ k b, hget (B ++ H) k = some b → hget B k = some b ∨ (hget B k = none ∧ hget H k = some b) := by
   clear h3 h4 h
   induction B with
   | nil => intro k b hk; exact .inr ⟨rfl, hk⟩
   | cons x B ih =>
     intro k b hk
     obtain ⟨j, y⟩ := x
     rw [List.cons_append, hget_cons] at hk
     rw [hget_cons]
     by_cases e : j = k
     · rw [if_pos e] at hk ⊢; exact .inl hk
     · rw [if_neg e] at hk ⊢; exact ih k b hk
 refine hAC.ren ρ h1 hle h2 hsv (fun k b hk => ?_) fun j b k c hj hk hb hc e => ?_
 · rcases happ k b hk with h | ⟨_, h⟩
   · exact .inr (h3 k b h)
   · exact .inl ⟨h, h5 k b h⟩
 · rcases happ j b hb with g | ⟨_, g⟩
   · rcases happ k c hc with g' | ⟨_, g'⟩
     · exact h4 j b k c g g' e
     · have := (hlt k c g').1
       omega
   · have := (hlt j b g).1
     omega
theorem Leads.renR {P : Program} {n0 : Nat} {s s2 : St} {A H : Heap} (ρ : Nat → Nat) (hs2 : s2.H = A ++ H) (hold : ∀ k b, hget H k = some b → k < n0 ∧ scB (· < n0) b) (hkeep : ∀ k b, hget H k = some b → hget s.H k = some b) (hlow : ∀ k, k < n0 → ρ k = k) (hle : n0 ≤ s2.n) (hz : s2.sz = s.sz) (hm : s.marks = [] ∧ s2.marks = [])
   (hf : ∀ t v, lk s2.fr t = some v → (lk s.fr t = some v ∧ sc (· < n0) v) ∨ (lk s.fr t = some (Ab.ren ρ v) ∧ sc (· < s2.n) v))
   (hA : ∀ x ∈ A, n0 ≤ x.1 ∧ x.1 < s2.n ∧ n0 ≤ ρ x.1 ∧ hget s.H (ρ x.1) = some (renB ρ x.2) ∧ scB (· < s2.n) x.2 ∧ carried x.2 ∧ x.2.own = true) (hinj : ∀ x ∈ A, ∀ y ∈ A, ρ x.1 = ρ y.1 → x.1 = y.1) : Leads P n0 s s2 := by
 intro p φ M w0 hg hp a w φ1 hS hs
 let φ2 : Vl := ⟨fun k => if n0 ≤ k ∧ k < s2.n then φ1.loc (ρ k) else φ.loc k, fun k => if n0 ≤ k ∧ k < s2.n then φ1.cap (ρ k) else φ.cap k⟩
 have hl2 : ∀ k, k < n0 → φ2.loc k = φ.loc k ∧ φ2.cap k = φ.cap k := fun k hk => by simp only [φ2]; rw [if_neg (by omega), if_neg (by omega)]; exact ⟨rfl, rfl⟩
 have hmid : ∀ k, n0 ≤ k → k < s2.n → φ2.loc k = φ1.loc (ρ k) ∧ φ2.cap k = φ1.cap (ρ k) := fun k h1 h2 => by simp only [φ2]; rw [if_pos ⟨h1, h2⟩, if_pos ⟨h1, h2⟩]; exact ⟨rfl, rfl⟩
 have hrn : Rn (Nx p n0 s2.n) ρ φ1 φ2 := fun k hk => by
   rcases hk with hk | hk
   · have hk0 := hp k hk
     rw [(hl2 k hk0).1, (hl2 k hk0).2, hlow k hk0, (hs.only k (.inl hk0)).1, (hs.only k (.inl hk0)).2]
     exact ⟨rfl, rfl⟩
   · exact hmid k hk.1 hk.2
 have hnx : ∀ k, Nx p n0 s.n (ρ k) ∧ k < s2.n → Nx p n0 s2.n k := fun k hk => by
   by_cases h0 : k < n0
   · have := hk.1
     rw [hlow k h0] at this
     rcases this with h1 | h1
     · exact .inl h1
     · omega
   · exact .inr ⟨by omega, hk.2⟩
 have hpl : ∀ k, Nx p n0 s.n k ∧ k < n0 → p k := fun k hk => by
   rcases hk.1 with h1 | h1
   · exact h1
   · omega
 have hagr : Agr p φ1 φ2 := fun k hk => by
   have hk0 := hp k hk
   rw [(hl2 k hk0).1, (hl2 k hk0).2, (hs.only k (.inl hk0)).1, (hs.only k (.inl hk0)).2]
   exact ⟨rfl, rfl⟩
 have hM : ∀ k b, hget s2.H k = some b → ((k, b) ∈ A) ∨ hget H k = some b := by
   rw [hs2]
   clear hA hs2 hinj
   induction A with
   | nil => intro k b hk; exact .inr hk
   | cons x A ih =>
     intro k b hk
     obtain ⟨j, y⟩ := x
     rw [List.cons_append, hget_cons] at hk
     by_cases e : j = k
     · rw [if_pos e] at hk; injection hk with hk; subst e hk; exact .inl (List.mem_cons_self ..)
     · rw [if_neg e] at hk
       rcases ih k b hk with h | h
       · exact .inl (List.mem_cons_of_mem _ h)
       · exact .inr h
 have old : ∀ k b, hget H k = some b → p k ∧ scB p b ∧ hget s.H k = some b ∧ k < n0 := fun k b hk => by
   obtain ⟨h1, h2⟩ := hold k b hk
   have h3 := hkeep k b hk
   have h4 := hS.base.sm k b h3
   exact ⟨hpl k ⟨h4.1, h1⟩, scB_mono hpl _ (scB_and b h4.2 h2), h3, h1⟩
 have hone : ∀ k b, hget s2.H k = some b → Nx p n0 s2.n k ∧ scB (Nx p n0 s2.n) b ∧ (∃ b', hget s.H (ρ k) = some b' ∧ b'.own = b.own) ∧ φ2.loc k = φ1.loc (ρ k) ∧ BRel P φ2 k b w.heap[φ1.loc (ρ k)]? := fun k b hk => by
   rcases hM k b hk with h | h
   · obtain ⟨h1, h2, _, h3, h4, h5, h6⟩ := hA (k, b) h
     have hn' : Nx p n0 s2.n k := .inr ⟨h1, h2⟩
     have hsc := scB_mono hnx _ (scB_ren b h5 (hS.base.sm _ _ h3).2 h4)
     exact ⟨hn', hsc, ⟨_, h3, renB_own _ _⟩, (hrn k hn').1, BRel.ren hrn hn' h5 hsc (hS.base.rel.blk _ _ h3)⟩
   · obtain ⟨h1, h2, h3, h4⟩ := old k b h
     have e : ρ k = k := hlow k h4
     rw [e]
     exact ⟨.inl h1, scB_mono (fun _ h => .inl h) _ h2, ⟨b, h3, rfl⟩, (hagr k h1).1, (hS.base.rel.blk k b h3).congr hagr h1 h2⟩
 have hlt : ∀ k, Nx p n0 s2.n k → k < s2.n := fun k hk => Nx.lt hp hle hk
 have hrinj : ∀ k b k' b', hget s2.H k = some b → hget s2.H k' = some b' → ρ k = ρ k' → k = k' := fun k b k' b' g1 g2 e => by
   rcases hM k b g1 with h | h <;> rcases hM k' b' g2 with h' | h'
   · exact hinj (k, b) h (k', b') h' e
   · have h1 := (hA (k, b) h).2.2.1
     have h3 := (old k' b' h').2.2.2
     rw [hlow k' h3] at e
     dsimp only at h1
     omega
   · have h1 := (hA (k', b') h').2.2.1
     have h3 := (old k b h).2.2.2
     rw [hlow k h3] at e
     dsimp only at h1
     omega
   · have h3 := (old k b h).2.2.2
     have h4 := (old k' b' h').2.2.2
     rwa [hlow k h3, hlow k' h4] at e
 have hrel : HRel P φ2 (hget s2.H) w := by
   refine ⟨fun k b hk => ?_, fun k b k' b' h1 h2 hne ho => ?_, fun g hg' => ?_⟩
   · obtain ⟨_, _, _, h4, h5⟩ := hone k b hk
     rw [h4]; exact h5
   · obtain ⟨_, _, ⟨c, c1, c2⟩, c3, _⟩ := hone k b h1
     obtain ⟨_, _, ⟨d, d1, _⟩, d3, _⟩ := hone k' b' h2
     rw [c3, d3]
     exact hS.base.rel.apart _ _ _ _ c1 d1 (fun e => hne (hrinj k b k' b' h1 h2 e)) (c2.trans ho)
   · have := hp g (hg g hg')
     rw [(hl2 g this).1, ← (hs.only g (.inl this)).1]
     exact hS.base.rel.glob g hg'
 have hfr : ∀ t v, lk s2.fr t = some v → ∃ u, lk s.fr t = some u ∧ den φ1 u = den φ2 v ∧ sc (Nx p n0 s2.n) v := fun t v hv => by
   rcases hf t v hv with ⟨h1, h2⟩ | ⟨h1, h2⟩
   · have hsf := hS.base.sf t _ h1
     have hsp : sc p v := sc_mono hpl v (sc_and v hsf h2)
     exact ⟨v, h1, (den_congr hagr v hsp).symm, sc_mono (fun _ h => .inl h) v hsp⟩
   · have hsf := hS.base.sf t _ h1
     have hsv : sc (Nx p n0 s2.n) v := sc_mono hnx v (sc_ren v hsf h2)
     exact ⟨_, h1, den_ren hrn v hsv, hsv⟩
 refine ⟨φ2, ⟨⟨hrel, hlt, fun g hg' => .inl (hg g hg'), ?_, fun k b hk => ⟨(hone k b hk).1, (hone k b hk).2.1⟩, fun t v hv => ?_, fun t v hv => ?_⟩, ?_, ?_, ?_⟩, hle, fun k hk => ?_, hrel, fun k b hk ho => ?_, fun k b hk ho => ?_, hs.frm⟩
 · refine Nat.le_of_not_lt fun hc => ?_
   have := hp _ (hg _ hc)
   omega
 · obtain ⟨u, h1, h2, _⟩ := hfr t v hv
   rw [hS.base.ar t _ h1, h2]
 · exact (hfr t v hv).choose_spec.2.2
 · rw [hz]; exact hS.size
 · rw [hm.2, hS.defs, hm.1]; rfl
 · rw [hm.2]; simp
 · rcases hk with hk | hk
   · exact hl2 k hk
   · simp only [φ2]; rw [if_neg (by omega), if_neg (by omega)]; exact ⟨rfl, rfl⟩
 · obtain ⟨_, _, ⟨c, c1, c2⟩, c3, _⟩ := hone k b hk
   rw [c3]
   exact hs.new _ _ c1 (c2.trans ho)
 · rcases hM k b hk with h | h
   · rw [(hA (k, b) h).2.2.2.2.2.2] at ho; cases ho
   · exact hs.inp k b (hkeep k b h) ho
end Go.Ab

namespace Go.Ab
open Go
end Go.Ab

namespace Go.Ab
open Go
def NPost (P : Program) (p : Nat → Prop) (φ : Vl) (n : Nat) (M : Mp) (w : World) (L : List (Ex × St)) (e2 : Exit) (a' : Act) (w' : World) : Prop := ∃ y ∈ L, Post P p φ n M w y.1 y.2 e2 a' w'
def NT (P : Program) (ro : Option Nat) (c : Code) (st : St) (L : List (Ex × St)) : Prop :=
 ∀ p φ a w, SRel P p φ st a w → (∀ l, ro = some l → p l) → c.wpIn (fence φ ro) 0 P (NPost P p φ st.n (hget st.H) w L) a w
theorem NT.join {P : Program} {ro : Option Nat} {c : Code} {st st0 : St} {e : Ex} {L : List (Ex × St)} (h : NT P ro c st L) (hj : ∀ y ∈ L, y.1 = e ∧ Leads P st.n y.2 st0) : AT P ro c st e st0 := fun p φ a w hS hl =>
 wpIn_mono (h p φ a w hS hl) fun e2 a' w' hh => by
   obtain ⟨⟨e', s⟩, hy, he, φ', hr, hs⟩ := hh
   obtain ⟨rfl, hlead⟩ := hj _ hy
   exact ⟨he, hlead p φ (hget st.H) w hS.base.gl hS.base.lt a' w' φ' hr hs⟩
end Go.Ab

namespace Go.Ab
open Go
def cellB (o : Nat) : Blk → Option Value
 | .cells cs _ => cs[o]?
 | .ext cs _ _ => cs[o]?
 | .row cs _ => cs[o]?
 | .inp o' cs => if o' ≤ o then cs[o - o']? else none
 | _ => none
theorem cellA_eq (H : Heap) (k o : Nat) : cellA H k o = (hget H k).bind (cellB o) := by
 unfold cellA
 cases hget H k with
 | none => rfl
 | some b => cases b <;> rfl
def cellsB (o n : Nat) : Blk → Option (List Value)
 | .cells cs _ => if o + n ≤ cs.length then some ((cs.drop o).take n) else none
 | .ext cs _ _ => if o + n ≤ cs.length then some ((cs.drop o).take n) else none
 | .row cs _ => if o + n ≤ cs.length then some ((cs.drop o).take n) else none
 | .inp o' cs => if o' ≤ o ∧ o - o' + n ≤ cs.length then some ((cs.drop (o - o')).take n) else none
 | _ => none
theorem cellsA_eq (H : Heap) (k o n : Nat) : cellsA H k o n = (hget H k).bind (cellsB o n) := by
 unfold cellsA
 cases hget H k with
 | none => rfl
 | some b => cases b <;> rfl
def Sub (H H' : Heap) : Prop := ∀ k b, hget H k = some b → hget H' k = some b
theorem Sub.refl (H : Heap) : Sub H H := fun _ _ h => h
theorem Sub.cons {H H' : Heap} {j : Nat} {b : Blk} (hj : hget H j = none) (h : Sub H H') : Sub H ((j, b) :: H') := fun k c hk => by
 rw [hget_cons, if_neg]
 · exact h k c hk
 · intro e; subst e; rw [hj] at hk; cases hk
theorem Sub.trans {H H1 H2 : Heap} (h1 : Sub H H1) (h2 : Sub H1 H2) : Sub H H2 := fun k b h => h2 k b (h1 k b h)
theorem Sub.cell {H H' : Heap} (h : Sub H H') {k o : Nat} {v : Value} (hc : cellA H k o = some v) : cellA H' k o = some v := by
 rw [cellA_eq] at hc ⊢
 cases hb : hget H k with
 | none => rw [hb] at hc; cases hc
 | some b => rw [hb] at hc; rw [h k b hb]; exact hc
theorem Sub.cells {H H' : Heap} (h : Sub H H') {k o n : Nat} {v : List Value} (hc : cellsA H k o n = some v) : cellsA H' k o n = some v := by
 rw [cellsA_eq] at hc ⊢
 cases hb : hget H k with
 | none => rw [hb] at hc; cases hc
 | some b => rw [hb] at hc; rw [h k b hb]; exact hc
theorem no_new {H : Heap} {n : Nat} (hl : ∀ k b, hget H k = some b → k < n) : hget H n = none ∧ ∀ c, hget H (n + c) = none := by
 have go : ∀ c, hget H (n + c) = none := fun c => by
   cases hb : hget H (n + c) with
   | none => rfl
   | some b => have := hl _ _ hb; omega
 exact ⟨go 0, go⟩
def plainB2 : Blk → Bool
 | .cells _ _ | .ext _ _ _ | .inp _ _ | .row _ _ | .tab _ => true
 | _ => false
def plainH : Heap → Bool
 | [] => true
 | (_, b) :: H => plainB2 b && plainH H
def tidyL (H : Heap) (n : Nat) : List Nat → Heap
 | [] => []
 | k :: ks => match hget H k with
   | some b => if k < n ∧ plainB2 b = true then (k, b) :: tidyL H n ks else tidyL H n ks
   | none => tidyL H n ks
def tidy (n : Nat) (H : Heap) : Heap := tidyL H n (H.map (·.1))
theorem hget_tidyL {H : Heap} {n : Nat} : ∀ (ks : List Nat) (k : Nat) (b : Blk), hget (tidyL H n ks) k = some b ↔ k ∈ ks ∧ hget H k = some b ∧ k < n ∧ plainB2 b = true
 | [], k, b => by simp [tidyL]
 | j :: ks, k, b => by
   have ih := hget_tidyL (H := H) (n := n) ks k b
   unfold tidyL
   cases hj : hget H j with
   | none =>
     simp only
     rw [ih]
     constructor
     · rintro ⟨h1, h2⟩; exact ⟨List.mem_cons_of_mem _ h1, h2⟩
     · rintro ⟨h1, h2, h3⟩
       rcases List.mem_cons.1 h1 with rfl | h1
       · rw [hj] at h2; cases h2
       · exact ⟨h1, h2, h3⟩
   | some c =>
     simp only
     by_cases hc : j < n ∧ plainB2 c = true
     · rw [if_pos hc, hget_cons]
       by_cases e : j = k
       · subst e
         rw [if_pos rfl]
         constructor
         · intro h; injection h with h; subst h; exact ⟨List.mem_cons_self .., hj, hc⟩
         · rintro ⟨_, h2, _⟩; rw [hj] at h2; exact h2
       · rw [if_neg e, ih]
         constructor
         · rintro ⟨h1, h2⟩; exact ⟨List.mem_cons_of_mem _ h1, h2⟩
         · rintro ⟨h1, h2⟩
           rcases List.mem_cons.1 h1 with rfl | h1
           · exact absurd rfl e
           · exact ⟨h1, h2⟩
     · rw [if_neg hc, ih]
       constructor
       · rintro ⟨h1, h2⟩; exact ⟨List.mem_cons_of_mem _ h1, h2⟩
       · rintro ⟨h1, h2, h3⟩
         rcases List.mem_cons.1 h1 with rfl | h1
         · rw [hj] at h2; injection h2 with h2; subst h2; exact absurd h3 hc
         · exact ⟨h1, h2, h3⟩
theorem hget_tidy {H : Heap} {n k : Nat} {b : Blk} : hget (tidy n H) k = some b ↔ hget H k = some b ∧ k < n ∧ plainB2 b = true := by
 rw [tidy, hget_tidyL]
 constructor
 · exact fun h => h.2
 · exact fun h => ⟨List.mem_map.2 ⟨(k, b), hget_mem _ _ _ h.1, rfl⟩, h⟩
theorem namesOk_tidyL {H : Heap} {n : Nat} : ∀ (ks : List Nat), namesOk n (tidyL H n ks) = true ∧ plainH (tidyL H n ks) = true
 | [] => ⟨rfl, rfl⟩
 | k :: ks => by
   have ih := namesOk_tidyL (H := H) (n := n) ks
   unfold tidyL
   cases hget H k with
   | none => exact ih
   | some b =>
     simp only
     split
     · rename_i hc
       refine ⟨?_, by simp [plainH, hc.2, ih.2]⟩
       simp only [namesOk]
       rw [(blt_iff _ _).2 hc.1]
       exact ih.1
     · exact ih
theorem namesOk_mono {m n : Nat} (h : n ≤ m) : ∀ H : Heap, namesOk n H = true → namesOk m H = true
 | [], _ => rfl
 | (k, b) :: H, hk => by
   simp only [namesOk] at hk ⊢
   split at hk
   · rename_i hb
     have := (blt_iff _ _).1 hb
     rw [(blt_iff _ _).2 (by omega : k < m)]
     exact namesOk_mono h H hk
   · cases hk
theorem AC.tidied {P : Program} {f : FuncId} {args : List Value} {H B : Heap} {n : Nat} {v : Value} {n' : Nat} (hB : ∀ x ∈ B, n ≤ x.1) (h : AC P f args (Ab.tidy n H) n v (B ++ Ab.tidy n H) n') : AC P f args H n v (B ++ H) n' := by
 refine AC.given fun hlt _ _ => ?_
 refine h.frame (fun k b hk => (hget_tidy.1 hk).1) fun k b hk => ?_
 have go : ∀ (B : Heap), (∀ x ∈ B, n ≤ x.1) → hget (B ++ H) k = some b → hget (B ++ Ab.tidy n H) k = some b ∨ (hget H k = some b ∧ hget (Ab.tidy n H) k = none) := by
   intro B
   induction B with
   | nil =>
     intro _ hk
     cases ht : hget (Ab.tidy n H) k with
     | none => exact .inr ⟨hk, rfl⟩
     | some c =>
       have h1 := (hget_tidy.1 ht).1
       rw [show hget H k = some b from hk] at h1
       injection h1 with h1; subst h1
       exact .inl ht
   | cons x B ih =>
     intro hB hk
     obtain ⟨j, y⟩ := x
     rw [List.cons_append, hget_cons] at hk ⊢
     by_cases e : j = k
     · rw [if_pos e] at hk ⊢; exact .inl hk
     · rw [if_neg e] at hk ⊢
       exact ih (fun x hx => hB x (List.mem_cons_of_mem _ hx)) hk
 exact go B hB hk
theorem cellsA_tidy {H : Heap} {n k o m : Nat} (hl : ∀ k b, hget H k = some b → k < n) {cs : List Value} (h : cellsA H k o m = some cs) : cellsA (tidy n H) k o m = some cs := by
 rw [cellsA_eq] at h ⊢
 cases hb : hget H k with
 | none => rw [hb] at h; cases h
 | some b =>
   rw [hb] at h
   have hp : plainB2 b = true := by
     cases b <;> first | rfl | cases h
   rw [hget_tidy.2 ⟨hb, hl k b hb, hp⟩]
   exact h
def frz : Blk → Blk
 | .cells cs _ => .inp 0 cs
 | .ext cs _ sz => .row cs sz
 | b => b
def frzH : Heap → Heap
 | [] => []
 | (k, b) :: H => (k, frz b) :: frzH H
theorem hget_frz : ∀ (H : Heap) (k : Nat), hget (frzH H) k = (hget H k).map frz
 | [], _ => rfl
 | (j, b) :: H, k => by
   rw [frzH, hget_cons, hget_cons, hget_frz H k]
   by_cases h : j = k
   · rw [if_pos h, if_pos h]; rfl
   · rw [if_neg h, if_neg h]
theorem cellsA_frz (H : Heap) (k o n : Nat) : cellsA (frzH H) k o n = cellsA H k o n := by
 rw [cellsA_eq, cellsA_eq, hget_frz]
 cases hget H k with
 | none => rfl
 | some b => cases b <;> simp [frz, cellsB]
theorem handA_frz : ∀ (H : Heap) (L : List Nat), (∀ x ∈ H, memN L x.1 = true) → plainH H = true → handA L [] H = frzH H
 | [], _, _, _ => rfl
 | (k, b) :: H, L, hL, hp => by
   simp only [plainH, Bool.and_eq_true] at hp
   have ih := handA_frz H L (fun x hx => hL x (List.mem_cons_of_mem _ hx)) hp.2
   have hk := hL (k, b) (List.mem_cons_self ..)
   have hp1 := hp.1
   cases b <;> first | (simp only [handA, memN, hk, ih, frzH, frz]; done) | cases hp1
theorem dnames_plain : ∀ (H : Heap), plainH H = true → dnames H = H.map (·.1)
 | [], _ => rfl
 | (k, b) :: H, hp => by
   simp only [plainH, Bool.and_eq_true] at hp
   have ih := dnames_plain H hp.2
   have hp1 := hp.1
   cases b <;> first | (simp only [dnames, ih, List.map_cons]; done) | cases hp1
theorem handA_dnames {H : Heap} (h : plainH H = true) : handA (dnames H) [] H = frzH H :=
 handA_frz H _ (fun x hx => (memN_iff _ _).2 (by rw [dnames_plain H h]; exact List.mem_map_of_mem hx)) h
theorem takeNew_frz {H : Heap} {n : Nat} (h : namesOk n H = true) : takeNew n (frzH H) = [] := by
 cases H with
 | nil => rfl
 | cons x H =>
   obtain ⟨k, b⟩ := x
   have := namesOk_mem _ _ h (k, b) (List.mem_cons_self ..)
   rw [frzH, takeNew, ble_dec]
   rw [decide_eq_false (by omega)]
def handU (P : Program) (r : Rec) (mk : List Nat) (i : Nat) (o : Oper) (fr : Fr) (st : St) : Option St :=
 match runOp P r o { st with fr := fr, H := frzH st.H } with
 | some (v, H, k) => match Nat.ble st.n k && namesOk k (takeNew st.n H) && (Nat.beq k st.n || memN mk i) with
   | true => some { st with fr := putA st.fr o.dst v, H := takeNew st.n H ++ st.H, n := k }
   | false => none
 | none => none
def doneU (P : Program) (r : Rec) (al mk late : List Nat) (n0 i : Nat) (o : Oper) (fr : Fr) (st : St) : Option St :=
 match isPure o.op with
 | true => pureS P o fr st
 | false => match isRead o.op with
   | true => match footA P fr o.op with
     | some f => readT P late n0 i o fr st f.see
     | none => none
   | false => match memN al i with
     | true => aloneT P r mk i o fr st
     | false => match footA P fr o.op with
       | some f => match f.put.isEmpty && visT late n0 i st.n f.see with
         | true => handT P r mk i o f.see fr st
         | false => none
       | none => match memN late i && plainH st.H with
         | true => handU P r mk i o fr st
         | false => none
def oneU (P : Program) (r : Rec) (ops : Array Oper) (al mk late : List Nat) (n0 i : Nat) (o : Oper) (st : St) : Option St :=
 match dstOk st.sz o.dst with
 | false => none
 | true => match wantedA ops (trim (lookTmps ops o) st.fr) o with
   | none => none
   | some false => some { st with fr := putA st.fr o.dst undefV }
   | some true => doneU P r al mk late n0 i o (trim (lookTmps ops o) st.fr) st
def opsU (P : Program) (r : Rec) (ops : Array Oper) (al mk late : List Nat) (n0 : Nat) : List Oper → Nat → St → Option St
 | [], _, st => some st
 | o :: os, i, st => match oneU P r ops al mk late n0 i o st with
   | some st' => opsU P r ops al mk late n0 os (i + 1) st'
   | none => none
def runU (P : Program) (r : Rec) (ops : Array Oper) (al mk late : List Nat) (st : St) : Option St :=
 match namesOk st.n st.H with
 | true => opsU P r ops al mk late st.n ops.toList 0 st
 | false => none
theorem opsU_ok {P : Program} {r : Rec} {ops : Array Oper} {al mk late : List Nat} {n0 : Nat} : ∀ (os : List Oper) (i : Nat) (st st' : St), opsU P r ops al mk late n0 os i st = some st' → opsT P r ops al mk late n0 os i st = some st'
 | [], _, _, _, h => h
 | o :: os, i, st, st', h => by
   simp only [opsU] at h
   split at h
   · rename_i st1 h1
     have key : oneT P r ops al mk late n0 i o st = some st1 := by
       unfold oneU at h1
       unfold oneT
       split at h1
       · cases h1
       · rename_i hd
         rw [hd]
         simp only
         split at h1
         · cases h1
         · rename_i hw; rw [hw]; exact h1
         · rename_i hw
           rw [hw]
           simp only
           unfold doneU at h1
           unfold doneT
           split at h1
           · rename_i hp; rw [hp]; exact h1
           · rename_i hp
             rw [hp]
             simp only
             split at h1
             · rename_i hrd; rw [hrd]; exact h1
             · rename_i hrd
               rw [hrd]
               simp only
               split at h1
               · rename_i hm; rw [hm]; exact h1
               · rename_i hm
                 rw [hm]
                 simp only
                 split at h1
                 · rename_i f hf; rw [hf]; exact h1
                 · rename_i hf
                   rw [hf]
                   simp only
                   split at h1
                   · rename_i hc
                     rw [Bool.and_eq_true] at hc
                     rw [hc.1]
                     simp only
                     unfold handT
                     rw [handA_dnames hc.2]
                     exact h1
                   · cases h1
     simp only [opsT, key]
     exact opsU_ok os (i + 1) st1 st' h
   · cases h
section
variable {P : Program} {n0 : Nat} {ro : Option Nat} {st st' : St} {K : Ex → St → Prop} {r : Rec} {m : Nat}
theorem E.drawU (hm : P.follows .mixedOrders = true) (hr : RecOk P r m) (al mk late : List Nat) {id : Nat} {ops : Array Oper} (hd : drawT ops (Region.before ops) al mk late = true) (h : runU P r ops al mk late st = some st') (k : K .normal st') : E P n0 ro (.region id ops true) st K := by
 refine E.drawC hm hr al mk late hd ?_ k
 unfold runU at h
 unfold runT
 split at h
 · rename_i hn; rw [hn]; exact opsU_ok _ _ _ _ h
 · cases h
end
attribute [simp] runU opsU oneU doneU handU frz frzH plainH plainB2 cellB cellsB
end Go.Ab

namespace Go.Ab
open Go
theorem Leads.keep {P : Program} {n0 : Nat} {s s2 : St} (hn : s2.n = s.n) (hz : s2.sz = s.sz) (hm : s2.marks = s.marks) (hf : ∀ x ∈ s2.fr, lk s.fr x.1 = some x.2) (hh : Sub s2.H s.H) : Leads P n0 s s2 := by
 intro p φ M w0 hg hp a w φ1 hS hs
 have hf' : ∀ t v, lk s2.fr t = some v → lk s.fr t = some v := fun t v h => hf (t, v) (lk_mem _ _ _ h)
 rw [hn]
 exact ⟨φ1, ⟨⟨hS.base.rel.sub hh, hn ▸ hS.base.lt, hS.base.gl, hn ▸ hS.base.gn, fun k b hk => hS.base.sm k b (hh k b hk), fun t v hv => hS.base.ar t v (hf' t v hv), fun t v hv => hS.base.sf t v (hf' t v hv)⟩, hz ▸ hS.size, hm ▸ hS.defs, hm ▸ hS.marks⟩, hs.sub hh⟩
theorem cells_part {H : Heap} {k o n sz i : Nat} {cs : List Value} (h : cellsA H k o (n * sz) = some cs) (hi : i < n) : cellsA H k (o + i * sz) sz = some ((cs.drop (i * sz)).take sz) := by
 have hm : i * sz + sz ≤ n * sz := by
   rw [← Nat.succ_mul]; exact Nat.mul_le_mul_right _ hi
 rw [cellsA_eq] at h ⊢
 cases hb : hget H k with
 | none => rw [hb] at h; cases h
 | some b =>
   rw [hb] at h
   simp only [Option.bind_some] at h ⊢
   have key : ∀ (xs : List Value) (p : Nat), p + n * sz ≤ xs.length → ((xs.drop (p + i * sz)).take sz) = ((((xs.drop p).take (n * sz)).drop (i * sz)).take sz) := fun xs p hp => by
     rw [List.drop_take, List.take_take, List.drop_drop, Nat.min_eq_left (by omega)]
   cases b <;> simp only [cellsB] at h ⊢
   all_goals first
     | (split at h
        · injection h with h; subst h
          first
            | (rw [if_pos (by omega), key _ _ (by omega)])
            | (rename_i hc
               rw [if_pos (by omega), ← key _ _ (by omega)]
               congr 3
               omega)
        · cases h)
     | cases h
end Go.Ab

namespace Go.Ab
open Go
def EN (P : Program) (n0 : Nat) (ro : Option Nat) (c : Code) (st : St) (K : Ex → St → Prop) : Prop :=
 ∀ p φ M w0, (∀ g, g < P.globals.size → p g) → (∀ k, p k → k < n0) → (∀ l, ro = some l → p l) → ∀ a w φ1, SRel P (Nx p n0 st.n) φ1 st a w → Step P φ n0 M w0 φ1 st.n (hget st.H) w → c.wpIn (fence φ ro) 0 P (fun e2 a' w' => ∃ e st', K e st' ∧ Post P p φ n0 M w0 e st' e2 a' w') a w
section
variable {P : Program} {n0 : Nat} {ro : Option Nat} {st : St} {K : Ex → St → Prop}
theorem EN.join {c : Code} {e : Ex} (st0 : St) (h : EN P n0 ro c st fun e' s' => e' = e ∧ Leads P n0 s' st0) (k : K e st0) : E P n0 ro c st K :=
 ⟨e, st0, fun p φ M w0 hg hp hl a w φ1 hS hs => wpIn_mono (h p φ M w0 hg hp hl a w φ1 hS hs) fun _ _ _ ⟨e', s', ⟨h1, h2⟩, hh⟩ => by
   subst h1
   obtain ⟨he, φ2, hS2, hs2⟩ := hh
   obtain ⟨φ3, hS3, hs3⟩ := h2 p φ M w0 hg hp _ _ φ2 hS2 hs2
   exact ⟨he, φ3, hS3, hs3⟩, k⟩
end
end Go.Ab

namespace Go.Ab
open Go
theorem Step.drawn {P : Program} {φ : Vl} {n : Nat} {M : Mp} {w : World} (h : HRel P φ M w) (d : Nat) : Step P φ n M w φ n M { w with drawn := d } :=
 ⟨Nat.le_refl _, fun _ _ => ⟨rfl, rfl⟩, ⟨h.blk, h.apart, h.glob⟩, fun k b hb ho => .inr ⟨k, b, hb, ho, rfl⟩, fun _ _ hb _ => hb, ⟨rfl, rfl, rfl, Nat.le_refl _, fun _ _ _ => rfl⟩⟩
theorem read32 (b : Nat) : Ieee.single.read b = if b % 2 ^ 31 < 2 ^ 23 then .number (b / 2 ^ 31 % 2 == 1) (b % 2 ^ 31) (-149) else if b % 2 ^ 31 < 0x7f800000 then .number (b / 2 ^ 31 % 2 == 1) (2 ^ 23 + b % 2 ^ 31 % 2 ^ 23) (-149 + (b % 2 ^ 31 / 2 ^ 23 - 1 : Nat)) else if b % 2 ^ 31 = 0x7f800000 then .infinity (b / 2 ^ 31 % 2 == 1) else .nan (b / 2 ^ 31 % 2 == 1) (b % 2 ^ 31 - 0x7f800000) := rfl
end Go.Ab

namespace Go.Ab
open Go Ieee
theorem cut_exact {way : Toward} {s : Bool} {n D : Nat} (hn : n ≠ 0) (hd : 2 ^ D ∣ n) : way.cut s n D = n / 2 ^ D := by
 have hlog : D ≤ n.log2 := by
   have h1 : 2 ^ D ≤ n := Nat.le_of_dvd (Nat.pos_of_ne_zero hn) hd
   have h2 := Nat.lt_log2_self (n := n)
   have h3 : 2 ^ D < 2 ^ (n.log2 + 1) := Nat.lt_of_le_of_lt h1 h2
   have := (Nat.pow_lt_pow_iff_right (by decide : 1 < 2)).1 h3
   omega
 unfold Toward.cut
 have hmin : min D (n.log2 + 2) = D := by omega
 have hr : n % 2 ^ D = 0 := Nat.mod_eq_zero_of_dvd hd
 have hp : 0 < 2 ^ D := Nat.two_pow_pos _
 simp only [hmin, Nat.one_shiftLeft, hr]
 cases way
 · have h1 : ¬ 2 ^ D < 0 := by omega
   have h2 : ¬ 2 ^ D = 0 := by omega
   simp
 · simp
 · simp
 · simp
theorem kept_lt {f : Format} {mag : Nat} {place last : Int} (hl : last = max (place + mag.log2 - f.fractionBits) f.leastPlace) (hd : 2 ^ (last - place).toNat ∣ mag * 2 ^ (place - last).toNat) : mag * 2 ^ (place - last).toNat / 2 ^ (last - place).toNat < 2 * f.binade := by
 obtain ⟨A, hA⟩ : ∃ A, (place - last).toNat = A := ⟨_, rfl⟩
 obtain ⟨D, hD⟩ : ∃ D, (last - place).toNat = D := ⟨_, rfl⟩
 rw [hA, hD] at hd ⊢
 obtain ⟨kept, hk⟩ : ∃ k, mag * 2 ^ A / 2 ^ D = k := ⟨_, rfl⟩
 have hkD : mag * 2 ^ A = kept * 2 ^ D := by rw [← hk, Nat.div_mul_cancel hd]
 have hhigh := Nat.lt_log2_self (n := mag)
 have hB : f.binade = 2 ^ f.fractionBits := rfl
 rw [hk]
 have h1 : kept * 2 ^ D < 2 ^ (mag.log2 + 1 + A) := by
   rw [← hkD, Nat.pow_add]
   exact Nat.mul_lt_mul_of_pos_right hhigh (Nat.two_pow_pos _)
 have h2 : 2 ^ (mag.log2 + 1 + A) ≤ 2 ^ (f.fractionBits + 1 + D) := Nat.pow_le_pow_right (by decide) (by omega)
 have h3 : kept * 2 ^ D < 2 * f.binade * 2 ^ D := by
   rw [hB, ← Nat.pow_succ', ← Nat.pow_add]
   exact Nat.lt_of_lt_of_le h1 h2
 exact Nat.lt_of_mul_lt_mul_right h3
theorem write_exact (f : Format) (s : Bool) {mag : Nat} {place last : Int} (hm : mag ≠ 0) (hl : last = max (place + mag.log2 - f.fractionBits) f.leastPlace) (hd : 2 ^ (last - place).toNat ∣ mag * 2 ^ (place - last).toNat)
   (hi : (last - f.leastPlace).toNat * f.binade + mag * 2 ^ (place - last).toNat / 2 ^ (last - place).toNat < f.infRung) :
   f.read (f.nearest s mag place) = .number s (mag * 2 ^ (place - last).toNat / 2 ^ (last - place).toNat) last := by
 obtain ⟨A, hA⟩ : ∃ A, (place - last).toNat = A := ⟨_, rfl⟩
 obtain ⟨D, hD⟩ : ∃ D, (last - place).toNat = D := ⟨_, rfl⟩
 rw [hA, hD] at hd hi ⊢
 have hn : mag * 2 ^ A ≠ 0 := Nat.mul_ne_zero hm (Nat.pos_iff_ne_zero.1 (Nat.two_pow_pos _))
 obtain ⟨kept, hk⟩ : ∃ k, mag * 2 ^ A / 2 ^ D = k := ⟨_, rfl⟩
 have hkD : mag * 2 ^ A = kept * 2 ^ D := by rw [← hk, Nat.div_mul_cancel hd]
 have hlow := Nat.log2_self_le hm
 have hB : f.binade = 2 ^ f.fractionBits := rfl
 have hkb : kept < 2 * f.binade := by
   have := kept_lt hl (by rw [hA, hD]; exact hd)
   rwa [hA, hD, hk] at this
 have hkl : f.leastPlace < last → f.binade ≤ kept := fun h => by
   have h1 : 2 ^ (mag.log2 + A) ≤ kept * 2 ^ D := by
     rw [← hkD, Nat.pow_add]
     exact Nat.mul_le_mul_right _ hlow
   have h2 : 2 ^ (f.fractionBits + D) ≤ 2 ^ (mag.log2 + A) := Nat.pow_le_pow_right (by decide) (by omega)
   have h3 : f.binade * 2 ^ D ≤ kept * 2 ^ D := by
     rw [hB, ← Nat.pow_add]
     exact Nat.le_trans h2 h1
   exact Nat.le_of_mul_le_mul_right h3 (Nat.two_pow_pos _)
 have hnear : f.nearest s mag place = f.word s ((last - f.leastPlace).toNat * f.binade + kept) := by
   unfold Format.nearest
   rw [if_neg hm]
   have h1 : Toward.cut Toward.even s (mag <<< (place - last).toNat) (last - place).toNat = kept := by
     rw [hA, hD, Nat.shiftLeft_eq, cut_exact hn hd, hk]
   simp only [← hl]
   rw [h1, Nat.min_eq_left]
   rw [hk] at hi
   omega
 rw [hnear, hk]
 rw [hk] at hi
 obtain ⟨q, hq⟩ : ∃ q, (last - f.leastPlace).toNat = q := ⟨_, rfl⟩
 rw [hq] at hi ⊢
 have hinf := f.infRung_lt
 have hbp : 0 < f.binade := Nat.two_pow_pos _
 obtain ⟨rung, hrung⟩ : ∃ r, q * f.binade + kept = r := ⟨_, rfl⟩
 rw [hrung] at hi ⊢
 have hsw : f.word s rung / f.signWeight % 2 = (if s then 1 else 0) ∧ f.word s rung % f.signWeight = rung := by
   unfold Format.word
   cases s
   · simp only [Bool.false_eq_true, if_false]
     rw [Nat.div_eq_of_lt (by omega), Nat.mod_eq_of_lt (a := rung) (by omega)]
     exact ⟨rfl, rfl⟩
   · simp only [if_true]
     have hp : 0 < f.signWeight := by omega
     rw [Nat.add_div_left _ hp, Nat.div_eq_of_lt (by omega), Nat.add_mod_left, Nat.mod_eq_of_lt (a := rung) (by omega)]
     exact ⟨rfl, rfl⟩
 unfold Format.read
 rw [hsw.1, hsw.2]
 have hneg : ((if s = true then 1 else 0) == 1) = s := by cases s <;> rfl
 simp only [hneg]
 by_cases h0 : last = f.leastPlace
 · have hq0 : q = 0 := by omega
   subst hq0
   have hr : rung = kept := by omega
   subst hr
   by_cases hb : rung < f.binade
   · rw [if_pos hb, h0]
   · rw [if_neg hb, if_pos hi]
     have h1 : rung / f.binade = 1 := by
       rw [show rung = f.binade * 1 + (rung - f.binade) by omega, Nat.mul_add_div hbp, Nat.div_eq_of_lt (by omega)]
     have h2 : rung % f.binade = rung - f.binade := by
       rw [Nat.mod_eq_sub_mod (by omega), Nat.mod_eq_of_lt (by omega)]
     rw [h1, h2, h0]
     congr 1 <;> omega
 · have hlt : f.leastPlace < last := by omega
   have hkl := hkl hlt
   have hqp : 0 < q := by omega
   have hr : rung = (q + 1) * f.binade + (kept - f.binade) := by rw [Nat.succ_mul]; omega
   have hnb : ¬ rung < f.binade := by
     have : 1 * f.binade ≤ q * f.binade := Nat.mul_le_mul_right _ hqp
     omega
   rw [if_neg hnb, if_pos hi]
   have h1 : rung / f.binade = q + 1 := by
     rw [hr, Nat.mul_comm, Nat.mul_add_div hbp, Nat.div_eq_of_lt (by omega)]
   have h2 : rung % f.binade = kept - f.binade := by
     rw [hr, Nat.mul_comm, Nat.mul_add_mod, Nat.mod_eq_of_lt (by omega)]
   rw [h1, h2]
   congr 1 <;> omega
theorem write_zero (f : Format) (s : Bool) (place : Int) : f.read (f.nearest s 0 place) = .number s 0 f.leastPlace := by
 have hinf := f.infRung_lt
 have hbp : 0 < f.binade := Nat.two_pow_pos _
 unfold Format.nearest
 rw [if_pos rfl]
 have hsw : f.word s 0 / f.signWeight % 2 = (if s then 1 else 0) ∧ f.word s 0 % f.signWeight = 0 := by
   unfold Format.word
   cases s
   · simp
   · have hp : 0 < f.signWeight := by omega
     simp [Nat.div_self hp]
 unfold Format.read
 rw [hsw.1, hsw.2, if_pos hbp]
 cases s <;> rfl
def mv2 (m : Nat) (e : Int) : Nat := m * 2 ^ (e + 1200).toNat
def sv2 (s : Bool) (m : Nat) (e : Int) : Int := if s then -(mv2 m e : Int) else mv2 m e
theorem write_val (f : Format) (s : Bool) {mag : Nat} {place last : Int} (hp : -1200 ≤ place) (hf : -1200 ≤ f.leastPlace) (hl : last = max (place + mag.log2 - f.fractionBits) f.leastPlace) (hd : 2 ^ (last - place).toNat ∣ mag)
   (hi : mag ≠ 0 → (last - f.leastPlace).toNat * f.binade + mag * 2 ^ (place - last).toNat / 2 ^ (last - place).toNat < f.infRung) :
   ∃ m e, f.read (f.nearest s mag place) = .number s m e ∧ f.leastPlace ≤ e ∧ mv2 m e = mv2 mag place := by
 by_cases hm : mag = 0
 · subst hm
   exact ⟨0, _, write_zero f s place, Int.le_refl _, by simp [mv2]⟩
 · refine ⟨_, _, write_exact f s hm hl (Nat.dvd_trans hd (Nat.dvd_mul_right _ _)) (hi hm), by omega, ?_⟩
   unfold mv2
   by_cases h : last ≤ place
   · have h1 : (last - place).toNat = 0 := by omega
     rw [h1, Nat.pow_zero, Nat.div_one, Nat.mul_assoc, ← Nat.pow_add]
     congr 2
     omega
   · have h1 : (place - last).toNat = 0 := by omega
     rw [h1, Nat.pow_zero, Nat.mul_one]
     rw [show (last + 1200).toNat = (last - place).toNat + (place + 1200).toNat by omega, Nat.pow_add, ← Nat.mul_assoc, Nat.div_mul_cancel hd]
end Go.Ab

namespace Go.Ab
open Go Ieee
theorem log2_lt {m k : Nat} (h : m < 2 ^ k) (hm : m ≠ 0) : m.log2 < k := (Nat.log2_lt hm).2 h
def val32 (b : Nat) : Int := match single.read b with
 | .number s m e => sv2 s m e
 | _ => 0
def fin32 (b : Nat) : Bool := match single.read b with
 | .number .. => true
 | _ => false
theorem fin_form {b : Nat} (h : fin32 b = true) : ∃ s m e, single.read b = .number s m e ∧ m < 2 ^ 24 ∧ -149 ≤ e ∧ val32 b = sv2 s m e := by
 unfold fin32 at h
 unfold val32
 rw [read32] at h ⊢
 have hm := Nat.mod_lt (b % 2 ^ 31) (y := 2 ^ 23) (by decide)
 by_cases c1 : b % 2 ^ 31 < 2 ^ 23
 · rw [if_pos c1]
   exact ⟨_, _, _, rfl, by omega, by omega, rfl⟩
 rw [if_neg c1] at h ⊢
 by_cases c2 : b % 2 ^ 31 < 0x7f800000
 · rw [if_pos c2]
   exact ⟨_, _, _, rfl, by omega, by omega, rfl⟩
 rw [if_neg c2] at h
 by_cases c3 : b % 2 ^ 31 = 0x7f800000
 · rw [if_pos c3] at h
   cases h
 · rw [if_neg c3] at h
   cases h
end Go.Ab

namespace Go.Ab
open Go Ieee
def val64 (b : Nat) : Int := match double.read b with
 | .number s m e => sv2 s m e
 | _ => 0
def fin64 (b : Nat) : Bool := match double.read b with
 | .number .. => true
 | _ => false
theorem fin64_of {r : Nat} {s : Bool} {m : Nat} {e : Int} (h : double.read r = .number s m e) : fin64 r = true ∧ val64 r = sv2 s m e := by
 unfold fin64 val64
 rw [h]
 exact ⟨rfl, rfl⟩
theorem wide {b : Nat} (h : fin32 b = true) : ∃ s m e, single.read b = .number s m e ∧ fin64 (double.write (.number s m e)) = true ∧ val64 (double.write (.number s m e)) = val32 b := by
 obtain ⟨s, m, e, h1, h2, h3, h4⟩ := fin_form h
 refine ⟨s, m, e, h1, ?_⟩
 by_cases hbig : e ≤ 104
 · obtain ⟨k, l, w1, w2, w3⟩ : ∃ k l, double.read (double.nearest s m e) = .number s k l ∧ double.leastPlace ≤ l ∧ mv2 k l = mv2 m e := by
     refine write_val double s (last := max (e + m.log2 - double.fractionBits) double.leastPlace) (by omega) (by decide) rfl ?_ fun hm => ?_
     · by_cases hm : m = 0
       · subst hm; exact Nat.dvd_zero _
       have := log2_lt h2 hm
       have e0 : (max (e + (m.log2 : Int) - double.fractionBits) double.leastPlace - e).toNat = 0 := by
         have e1 : double.fractionBits = 52 := rfl
         have e2 : double.leastPlace = -1074 := rfl
         rw [e1, e2]
         push_cast
         omega
       rw [e0]
       exact Nat.one_dvd _
     · have hlog := log2_lt h2 hm
       have e1 : double.fractionBits = 52 := rfl
       have e2 : double.leastPlace = -1074 := rfl
       have e0 : (max (e + (m.log2 : Int) - double.fractionBits) double.leastPlace - e).toNat = 0 := by
         rw [e1, e2]
         push_cast
         omega
       have hk := kept_lt (f := double) (mag := m) (place := e) rfl (by rw [e0]; exact Nat.one_dvd _)
       obtain ⟨last, hl⟩ : ∃ l, max (e + (m.log2 : Int) - double.fractionBits) double.leastPlace = l := ⟨_, rfl⟩
       rw [hl] at hk ⊢
       have hle : (last - double.leastPlace).toNat + 2 ≤ 2 ^ double.exponentBits - 1 := by
         have e3 : 2 ^ double.exponentBits - 1 = 2047 := by decide
         rw [e3]
         rw [e1, e2] at hl
         rw [e2]
         push_cast at hl
         omega
       unfold Format.infRung
       calc (last - double.leastPlace).toNat * double.binade + m * 2 ^ (e - last).toNat / 2 ^ (last - e).toNat < (last - double.leastPlace).toNat * double.binade + 2 * double.binade := by omega
         _ = ((last - double.leastPlace).toNat + 2) * double.binade := by rw [Nat.add_mul]
         _ ≤ _ := Nat.mul_le_mul_right _ hle
   have hw : double.write (.number s m e) = double.nearest s m e := rfl
   rw [hw]
   obtain ⟨q1, q2⟩ := fin64_of w1
   refine ⟨q1, ?_⟩
   rw [q2, h4]
   unfold sv2
   rw [w3]
 · exfalso
   rw [read32] at h1
   by_cases c1 : b % 2 ^ 31 < 2 ^ 23
   · rw [if_pos c1] at h1
     injection h1 with a1 a2 a3
     omega
   rw [if_neg c1] at h1
   by_cases c2 : b % 2 ^ 31 < 0x7f800000
   · rw [if_pos c2] at h1
     injection h1 with a1 a2 a3
     omega
   · rw [if_neg c2] at h1
     by_cases c3 : b % 2 ^ 31 = 0x7f800000
     · rw [if_pos c3] at h1
       cases h1
     · rw [if_neg c3] at h1
       cases h1
end Go.Ab

namespace Go.Ab
open Go Ieee
end Go.Ab

namespace Go.Proofs.YtndlfijfjglkdaaGreatDoor
open Go Go.Ab Go.Proofs Ieee
end Go.Proofs.YtndlfijfjglkdaaGreatDoor

namespace Go.Proofs.YtndlfijfjglkdaaGreatDoor
open Go Go.Ab Go.Proofs Ieee
end Go.Proofs.YtndlfijfjglkdaaGreatDoor

namespace Go.Proofs.YtndlfijfjglkdaaGreatDoor
open Go Go.Ab Go.Proofs Ieee
end Go.Proofs.YtndlfijfjglkdaaGreatDoor

namespace Go.Proofs.YtndlfijfjglkdaaGreatDoor
open Go Go.Ab Go.Proofs Ieee
end Go.Proofs.YtndlfijfjglkdaaGreatDoor

namespace Go.Proofs.YtndlfijfjglkdaaGreatDoor
open Go Go.Ab Go.Proofs Ieee
end Go.Proofs.YtndlfijfjglkdaaGreatDoor

namespace Go.Proofs.YtndlfijfjglkdaaGreatDoor
open Go Go.Ab Go.Proofs Ieee
end Go.Proofs.YtndlfijfjglkdaaGreatDoor

namespace Go.Ab
open Go
theorem flat_n {b o : Nat} : flat ⟨b, o, none⟩ = true := rfl
section
variable {n : Nat} {H : Heap}
@[simp] theorem namesOk_tidy : namesOk n (tidy n H) = true := (namesOk_tidyL _).1
@[simp] theorem plainH_tidy : plainH (tidy n H) = true := (namesOk_tidyL _).2
theorem tidy_lt : ∀ k b, hget (tidy n H) k = some b → k < n := fun _ _ h => (hget_tidy.1 h).2.1
@[simp] theorem tidy_new : hget (tidy n H) n = none := (no_new tidy_lt).1
end
theorem tidy_old {H : Heap} {n : Nat} (hold : ∀ k b, hget H k = some b → k < n ∧ scB (· < n) b) : ∀ k b, hget (tidy n H) k = some b → k < n ∧ scB (· < n) b := fun k b h => hold k b (hget_tidy.1 h).1
@[simp] theorem sne2 {n : Nat} : (n + 1 + 1 = n) = False := eq_false (by omega)
@[simp] theorem slt2 {n : Nat} : (n < n + 1 + 1) = True := eq_true (by omega)
@[simp] theorem sle2 {n : Nat} : (n ≤ n + 1 + 1) = True := eq_true (by omega)
@[simp] theorem sne3 {n : Nat} : (n + 1 + 1 + 1 = n) = False := eq_false (by omega)
@[simp] theorem slt3 {n : Nat} : (n < n + 1 + 1 + 1) = True := eq_true (by omega)
@[simp] theorem sle3 {n : Nat} : (n ≤ n + 1 + 1 + 1) = True := eq_true (by omega)
@[simp] theorem sne4 {n : Nat} : (n + 1 + 1 + 1 + 1 = n) = False := eq_false (by omega)
@[simp] theorem slt4 {n : Nat} : (n < n + 1 + 1 + 1 + 1) = True := eq_true (by omega)
@[simp] theorem sle4 {n : Nat} : (n ≤ n + 1 + 1 + 1 + 1) = True := eq_true (by omega)
@[simp] theorem sne5 {n : Nat} : (n + 1 + 1 + 1 + 1 + 1 = n) = False := eq_false (by omega)
@[simp] theorem slt5 {n : Nat} : (n < n + 1 + 1 + 1 + 1 + 1) = True := eq_true (by omega)
@[simp] theorem sle5 {n : Nat} : (n ≤ n + 1 + 1 + 1 + 1 + 1) = True := eq_true (by omega)
@[simp] theorem sne6 {n : Nat} : (n + 1 + 1 + 1 + 1 + 1 + 1 = n) = False := eq_false (by omega)
@[simp] theorem slt6 {n : Nat} : (n < n + 1 + 1 + 1 + 1 + 1 + 1) = True := eq_true (by omega)
@[simp] theorem sle6 {n : Nat} : (n ≤ n + 1 + 1 + 1 + 1 + 1 + 1) = True := eq_true (by omega)
@[simp] theorem sne7 {n : Nat} : (n + 1 + 1 + 1 + 1 + 1 + 1 + 1 = n) = False := eq_false (by omega)
@[simp] theorem slt7 {n : Nat} : (n < n + 1 + 1 + 1 + 1 + 1 + 1 + 1) = True := eq_true (by omega)
@[simp] theorem sle7 {n : Nat} : (n ≤ n + 1 + 1 + 1 + 1 + 1 + 1 + 1) = True := eq_true (by omega)
@[simp] theorem sne8 {n : Nat} : (n + 1 + 1 + 1 + 1 + 1 + 1 + 1 + 1 = n) = False := eq_false (by omega)
@[simp] theorem slt8 {n : Nat} : (n < n + 1 + 1 + 1 + 1 + 1 + 1 + 1 + 1) = True := eq_true (by omega)
@[simp] theorem sle8 {n : Nat} : (n ≤ n + 1 + 1 + 1 + 1 + 1 + 1 + 1 + 1) = True := eq_true (by omega)
@[simp] theorem sne9 {n : Nat} : (n + 1 + 1 + 1 + 1 + 1 + 1 + 1 + 1 + 1 = n) = False := eq_false (by omega)
@[simp] theorem slt9 {n : Nat} : (n < n + 1 + 1 + 1 + 1 + 1 + 1 + 1 + 1 + 1) = True := eq_true (by omega)
@[simp] theorem sle9 {n : Nat} : (n ≤ n + 1 + 1 + 1 + 1 + 1 + 1 + 1 + 1 + 1) = True := eq_true (by omega)
theorem put_at {α : Type} {cs : List α} {i : Nat} {v : α} (h : i < cs.length) : cs.take i ++ [v] ++ cs.drop (i + 1) = cs.set i v := by
 rw [List.set_eq_take_append_cons_drop, if_pos h, List.append_assoc]
 rfl
theorem store_at {H : Heap} {b i : Nat} {t : TypeId} {cs : List Value} {v : Value} (h : hget H b = some (.cells cs t)) (hi : i < cs.length) : storeA H b i [v] = some (hset H b (.cells (cs.set i v) t)) := by
 unfold storeA
 rw [h]
 simp only [List.length_cons, List.length_nil, putL]
 rw [if_pos (by omega), put_at hi]
theorem hget_set {H : Heap} {b k : Nat} {x : Blk} : hget (hset H b x) k = if b = k then (hget H b).map fun _ => x else hget H k := by
 rw [hget_hset]
theorem handA_nil : ∀ H : Heap, handA [] [] H = []
 | [] => rfl
 | (k, b) :: H => by simp only [handA]; exact handA_nil H
theorem namesOk_iff {k : Nat} : ∀ {H : Heap}, namesOk k H = true ↔ ∀ x ∈ H, x.1 < k
 | [] => by simp [namesOk]
 | (i, b) :: H => by
   rw [namesOk]
   by_cases h : i < k
   · rw [(blt_iff _ _).2 h]
     simp [namesOk_iff (H := H), h]
   · have : Nat.blt i k = false := by rw [← Bool.not_eq_true, blt_iff]; exact h
     rw [this]
     simp [h]
theorem hget_in : ∀ {H : Heap} {k : Nat} {b : Blk}, hget H k = some b → ∃ x ∈ H, x.1 = k
 | [], _, _, h => by cases h
 | (j, c) :: H, k, b, h => by
   rw [hget_cons] at h
   split at h
   · rename_i e; exact ⟨(j, c), List.mem_cons_self .., e⟩
   · obtain ⟨x, hx, e⟩ := hget_in h
     exact ⟨x, List.mem_cons_of_mem _ hx, e⟩
theorem namesOk_none {H : Heap} {k : Nat} (h : namesOk k H = true) : ∀ j, k ≤ j → hget H j = none := fun j hj => by
 cases e : hget H j with
 | none => rfl
 | some b =>
   obtain ⟨x, hx, e⟩ := hget_in e
   have := namesOk_iff.1 h x hx
   omega
theorem hdel_mem : ∀ {H : Heap} {k : Nat} {x : Nat × Blk}, x ∈ hdel H k → x ∈ H
 | [], _, _, h => h
 | (i, b) :: H, k, x, h => by
   rw [hdel] at h
   split at h
   · exact List.mem_cons_of_mem _ (hdel_mem h)
   · rcases List.mem_cons.1 h with rfl | h
     · exact List.mem_cons_self ..
     · exact List.mem_cons_of_mem _ (hdel_mem h)
theorem hset_mem : ∀ {H : Heap} {k : Nat} {c : Blk} {x : Nat × Blk}, x ∈ hset H k c → ∃ y ∈ H, y.1 = x.1
 | [], _, _, _, h => by cases h
 | (i, b) :: H, k, c, x, h => by
   rw [hset] at h
   split at h
   · rcases List.mem_cons.1 h with rfl | h
     · exact ⟨(i, b), List.mem_cons_self .., rfl⟩
     · first
       | exact ⟨x, List.mem_cons_of_mem _ h, rfl⟩
       | (obtain ⟨y, hy, e⟩ := hset_mem h; exact ⟨y, List.mem_cons_of_mem _ hy, e⟩)
   · rcases List.mem_cons.1 h with rfl | h
     · exact ⟨(i, b), List.mem_cons_self .., rfl⟩
     · obtain ⟨y, hy, e⟩ := hset_mem h
       exact ⟨y, List.mem_cons_of_mem _ hy, e⟩
theorem namesOk_hdel {H : Heap} {k j : Nat} (h : namesOk k H = true) : namesOk k (hdel H j) = true := namesOk_iff.2 fun x hx => namesOk_iff.1 h x (hdel_mem hx)
theorem namesOk_hset {H : Heap} {k j : Nat} {c : Blk} (h : namesOk k H = true) : namesOk k (hset H j c) = true := namesOk_iff.2 fun x hx => by
 obtain ⟨y, hy, e⟩ := hset_mem hx
 have := namesOk_iff.1 h y hy
 omega
theorem namesOk_put {H : Heap} {k j : Nat} {c : Blk} (hj : j < k) (h : namesOk k H = true) : namesOk k ((j, c) :: H) = true := by
 rw [namesOk, (blt_iff _ _).2 hj]; exact h
def names (c : Nat) : Nat → List Nat
 | 0 => []
 | k + 1 => c :: names (c + 1) k
end Go.Ab

namespace Go.Soft
end Go.Soft

namespace Go.Proofs.YtndlfijfjglkdaaGreatDoor
open Go Go.Ab Go.Proofs
abbrev gAgg (g : Gun) : Value := .agg ⟨[.string g.name, iv g.v, iv g.x, iv g.y, iv g.d, iv g.lo, iv g.hi]⟩
end Go.Proofs.YtndlfijfjglkdaaGreatDoor

namespace Go.Proofs.YtndlfijfjglkdaaGreatDoor
open Go Go.Ab Go.Proofs Go.Soft
theorem gcs_lenB : ∀ l : List Gun, (gcs l).length = l.length * 7
 | [] => rfl
 | g :: l => by
   have := gcs_lenB l
   unfold gcs at this ⊢
   rw [List.flatMap_cons, List.length_append, this, List.length_cons]
   show 7 + l.length * 7 = (l.length + 1) * 7
   omega
theorem gcs_appendB (a b : List Gun) : gcs (a ++ b) = gcs a ++ gcs b := by simp [gcs]
theorem gcs_atB {l : List Gun} {j : Nat} (hj : j < l.length) : ((gcs l).drop (j * 7)).take 7 = Gun.cells l[j] := by
 have e : l = l.take j ++ l[j] :: l.drop (j + 1) := by rw [← List.drop_eq_getElem_cons hj, List.take_append_drop]
 have hlen : (gcs (l.take j)).length = j * 7 := by rw [gcs_lenB, List.length_take]; congr 1; omega
 have h1 : gcs l = gcs (l.take j) ++ (Gun.cells l[j] ++ gcs (l.drop (j + 1))) := by
   conv => lhs; rw [e, gcs_appendB]
   rfl
 rw [h1, List.drop_left' hlen]
 exact List.take_left' rfl
end Go.Proofs.YtndlfijfjglkdaaGreatDoor

namespace Go.Proofs.YtndlfijfjglkdaaGreatDoor
open Go Go.Ab Go.Proofs Go.Soft
theorem load95 {H : Heap} {m o : Nat} {s : Option Nat} {g : Gun} (h : cellsA H m o 7 = some (Gun.cells g)) : loadA Tryz.prog 95 H (.pointer (some ⟨m, o, s⟩)) = some (gAgg g) := by
 simp only [loadA, ag95, sz95, h, Option.map_some]
end Go.Proofs.YtndlfijfjglkdaaGreatDoor

namespace Go.Proofs.YtndlfijfjglkdaaGreatDoor
open Go Go.Ab Go.Proofs Go.Soft
theorem gcs_injB : ∀ {a b : List Gun}, gcs a = gcs b → a = b
 | [], [], _ => rfl
 | [], g :: b, h => by have := congrArg List.length h; rw [gcs_lenB, gcs_lenB] at this; simp at this
 | g :: a, [], h => by have := congrArg List.length h; rw [gcs_lenB, gcs_lenB] at this; simp at this
 | g :: a, g' :: b, h => by
   have e1 : gcs (g :: a) = Gun.cells g ++ gcs a := rfl
   have e2 : gcs (g' :: b) = Gun.cells g' ++ gcs b := rfl
   rw [e1, e2] at h
   obtain ⟨h1, h2⟩ := List.append_inj h rfl
   obtain ⟨s, v, x, y, f, l, u⟩ := g
   obtain ⟨s', v', x', y', f', l', u'⟩ := g'
   simp only [Gun.cells, List.cons.injEq, Value.string.injEq, Value.int.injEq, true_and, and_true] at h1
   obtain ⟨rfl, rfl, rfl, rfl, rfl, rfl, rfl⟩ := h1
   rw [gcs_injB h2]
end Go.Proofs.YtndlfijfjglkdaaGreatDoor

namespace Go.Proofs.YtndlfijfjglkdaaGreatDoor
open Go Go.Ab Go.Proofs Go.Soft
def GunsAt (H : Heap) (v : Value) (l : List Gun) : Prop := ∃ a c, v = .slice (some a) l.length c ∧ flat a = true ∧ cellsA H a.block a.off (l.length * 7) = some (gcs l) ∧ 0 < l.length ∧ l.length < 2147483648
theorem GunsAt.tidy {H : Heap} {n : Nat} (hl : ∀ k b, hget H k = some b → k < n) {v : Value} {l : List Gun} (h : GunsAt H v l) : GunsAt (Ab.tidy n H) v l := by
 obtain ⟨a, c, e, h1, h2, h3⟩ := h
 exact ⟨a, c, e, h1, cellsA_tidy hl h2, h3⟩
end Go.Proofs.YtndlfijfjglkdaaGreatDoor

namespace Go.Proofs.YtndlfijfjglkdaaGreatDoor
open Go Go.Ab Go.Proofs Go.Soft
end Go.Proofs.YtndlfijfjglkdaaGreatDoor

namespace Go.Ab
open Go
def outC (n : Nat) (l : List Value) : Value := if l = [] then .slice none 0 0 else .slice (some ⟨n, 0, some 0⟩) l.length 0
def outCB (n t : Nat) (l : List Value) : Heap := if l = [] then [] else [(n, .ext l t 1)]
@[simp] theorem outC_nil {n : Nat} : outC n [] = .slice none 0 0 := rfl
@[simp] theorem outCB_nil {n t : Nat} : outCB n t [] = [] := rfl
theorem outC_ne {n : Nat} {l : List Value} (h : l ≠ []) : outC n l = .slice (some ⟨n, 0, some 0⟩) l.length 0 := if_neg h
theorem outCB_ne {n t : Nat} {l : List Value} (h : l ≠ []) : outCB n t l = [(n, .ext l t 1)] := if_neg h
theorem sub_outC {n t : Nat} {l : List Value} {H : Heap} (h : hget H n = none) : Sub H (outCB n t l ++ H) := by
 unfold outCB
 split
 · exact Sub.refl _
 · exact Sub.cons h (Sub.refl _)
theorem sc_outC {n : Nat} {p : Nat → Prop} {l : List Value} (h : p n) : sc p (outC n l) := by
 unfold outC
 split
 · trivial
 · exact h
theorem ren_outC {n m : Nat} {ρ : Nat → Nat} {l : List Value} (h : ρ n = m) : ren ρ (outC n l) = outC m l := by
 unfold outC
 split
 · rfl
 · simp [ren, h]
mutual
theorem ren_af (ρ : Nat → Nat) : ∀ v, af v = true → ren ρ v = v
 | .bool _, _ | .int _ _, _ | .float _ _, _ | .complex _ _ _, _ | .string _, _ | .nilFunc, _ | .nilIface, _ | .chan _, _ => by simp [ren]
 | .pointer none, _ | .slice none _ _, _ | .map none, _ => by simp [ren]
 | .pointer (some a), hs | .slice (some _) _ _, hs | .map (some r), hs | .func (.yield l) a b, hs => by simp [af] at hs
 | .func (.func f) a b, hs | .func (.method f) a b, hs | .func (.methodOf _ f) a b, hs | .func (.via _ _ f _) a b, hs => by
   simp only [af, Bool.and_eq_true] at hs
   simp only [ren]
   rw [renL_af ρ _ hs.1, renL_af ρ _ hs.2]
 | .iface t v, hs => by simp only [ren]; rw [ren_af ρ v (by simpa [af] using hs)]
 | .agg cs, hs => by simp only [ren]; rw [renL_af ρ _ (by simpa [af] using hs)]
 | .tuple cs, hs => by simp only [ren]; rw [renL_af ρ _ (by simpa [af] using hs)]
theorem renL_af (ρ : Nat → Nat) : ∀ vs, afL vs = true → renL ρ vs = vs
 | [], _ => rfl
 | v :: vs, hs => by
   simp only [afL, Bool.and_eq_true] at hs
   simp only [renL]; rw [ren_af ρ v hs.1, renL_af ρ vs hs.2]
end
theorem Leads.outC0 {P : Program} {n : Nat} {s s2 : St} {H : Heap} (hold : ∀ k b, hget H k = some b → k < n ∧ scB (· < n) b) (hkeep : Sub H s.H) (hs2 : s2.H = H) (hn : s2.n = n + 1) (hz : s2.sz = s.sz) (hm : s.marks = [] ∧ s2.marks = []) (hf : ∀ x ∈ s2.fr, lk s.fr x.1 = some x.2 ∧ sc (· < n) x.2) : Leads P n s s2 :=
 Leads.renR (A := []) (H := H) id (by simpa using hs2) hold hkeep (fun _ _ => rfl) (by omega) hz hm (fun t v hv => .inl (hf (t, v) (lk_mem _ _ _ hv))) (by simp) (by simp)
theorem Leads.outC1 {P : Program} {n t m : Nat} {s s2 : St} {H : Heap} {l : List Value} (haf : afL l = true) (hold : ∀ k b, hget H k = some b → k < n ∧ scB (· < n) b) (hkeep : Sub H s.H) (hl : l ≠ []) (hs2 : s2.H = outCB n t l ++ H) (hm1 : n ≤ m) (hg : hget s.H m = some (.ext l t 1)) (hn : s2.n = n + 1) (hz : s2.sz = s.sz) (hm : s.marks = [] ∧ s2.marks = [])
   (hf : ∀ x ∈ s2.fr, (lk s.fr x.1 = some x.2 ∧ sc (· < n) x.2) ∨ (x.2 = outC n l ∧ lk s.fr x.1 = some (outC m l))) : Leads P n s s2 := by
 refine Leads.renR (A := outCB n t l) (H := H) (fun k => if k = n then m else k) hs2 hold hkeep (fun k hk => if_neg (by omega)) (by omega) hz hm (fun t v hv => ?_) (fun x hx => ?_) fun x hx y hy _ => ?_
 · rcases hf (t, v) (lk_mem _ _ _ hv) with h | ⟨h1, h2⟩
   · exact .inl h
   · dsimp only at h1 h2
     subst h1
     refine .inr ⟨?_, sc_outC (by omega)⟩
     rw [h2, ren_outC (ρ := fun k => if k = n then m else k) (m := m) (by simp)]
 · rw [outCB_ne hl, List.mem_singleton] at hx
   subst hx
   refine ⟨Nat.le_refl _, by dsimp only; omega, ?_, ?_, scL_af _ _ haf, trivial, rfl⟩
   · simpa using hm1
   · simp [hg, renB, renL_af _ _ haf]
 · rw [outCB_ne hl, List.mem_singleton] at hx hy
   rw [hx, hy]
theorem outK_outC {n m t : Nat} {H H1 : Heap} {l : List Value} {u : Value} (haf : afL l = true) (hu : u = outC m l) (hm : n ≤ m) (hg : l ≠ [] → hget H1 m = some (.ext l t 1)) (hs : Sub H H1) : Fresh n (n + 1) H (outC n l) (outCB n t l) u H1 := by
 refine ⟨fun k => if k = n then m else k, fun k hk => if_neg (by omega), by rw [hu, ren_outC (ρ := fun k => if k = n then m else k) (m := m) (by simp)], fun k b hk => ?_, fun j b k c hj hk _ => ?_, hs⟩
 · by_cases hl : l = []
   · subst hl; cases hk
   · rw [outCB_ne hl, hget_cons] at hk
     split at hk
     · rename_i e
       subst e
       injection hk with hk
       subst hk
       refine ⟨Nat.le_refl _, Nat.lt_succ_self _, by simpa using hm, ?_, scL_af _ _ haf, trivial, rfl⟩
       simp [hg hl, renB, renL_af _ _ haf]
     · cases hk
 · by_cases hl : l = []
   · subst hl; cases hj
   · rw [outCB_ne hl, hget_cons] at hj hk
     split at hj
     · split at hk
       · omega
       · cases hk
     · cases hj
theorem AC.outList {P : Program} {f : FuncId} {fn : Func} {c : Code} {args : List Value} {H : Heap} {n t : Nat} {l : List Value} (hf : P.funcs[f]? = some fn) (hb : fn.body = some c) (he : enterable P f = true) (hlen : Nat.ble args.length fn.ntmps = true) (vs : List Nat) (hl : l ≠ [])
   (h : E P n none c { fr := argsFr args 0, sz := fn.ntmps, H, n, marks := [], vs } (outK P fn (Fresh n (n + 1) H (outC n l) (outCB n t l)))) : AC P f args H n (outC n l) (outCB n t l ++ H) (n + 1) :=
 AC.fresh hf hb he hlen vs (by omega) (sc_outC (by omega)) (fun ρ => by rw [outC_ne hl]; rfl) h
end Go.Ab

namespace Go.Proofs.YtndlfijfjglkdaaGreatDoor
open Go Go.Ab Go.Proofs Go.Soft
theorem app102 {H : Heap} {o k m : Nat} {cs : List Value} {x : ByteArray} (hk : cellsA H k 0 1 = some [sv x]) (ho : cs ≠ [] → hget H o = some (.ext cs 9 1)) (hl : cs.length < 2147483648) :
   builtinA Tryz.prog .append #[102, 102] H m [outC o cs, .slice (some ⟨k, 0, none⟩) 1 1] = some (outC m (cs ++ [sv x]), (m, .ext (cs ++ [sv x]) 9 1) :: (if cs = [] then H else hdel H o), m + 1) := by
 have hne : cs ++ [sv x] ≠ [] := by simp
 have hsm : (cs.length + 1) * 16 ≤ 1099511627776 ∧ cs.length + 1 ≤ 1099511627776 := by omega
 rw [outC_ne hne]
 by_cases h : cs = []
 · subst h
   simp [-cellsA, hk]
 · rw [outC_ne h, if_neg h]
   simp [-cellsA, hk, ho h, hsm]
end Go.Proofs.YtndlfijfjglkdaaGreatDoor

namespace Go.Proofs.YtndlfijfjglkdaaGreatDoor
open Go Go.Ab Go.Proofs Go.Soft
theorem GunsAt.one {H : Heap} {v : Value} {l k : List Gun} (h : GunsAt H v l) (h' : GunsAt H v k) : l = k := by
 obtain ⟨a, c, rfl, _, h1, _⟩ := h
 obtain ⟨a', c', e, _, h1', _⟩ := h'
 injection e with e1 e2 e3
 injection e1 with e1
 subst e1
 rw [← e2, h1] at h1'
 injection h1' with h1'
 exact gcs_injB h1'
end Go.Proofs.YtndlfijfjglkdaaGreatDoor

namespace Go.Proofs.YtndlfijfjglkdaaGreatDoor
open Go Go.Ab Go.Proofs Go.Soft
end Go.Proofs.YtndlfijfjglkdaaGreatDoor

namespace Go.Proofs.YtndlfijfjglkdaaGreatDoor
open Go Go.Ab Go.Proofs Go.Soft
end Go.Proofs.YtndlfijfjglkdaaGreatDoor

namespace Go.Proofs.YtndlfijfjglkdaaGreatDoor
open Go Go.Ab Go.Proofs Go.Soft
end Go.Proofs.YtndlfijfjglkdaaGreatDoor

namespace Go.Proofs.YtndlfijfjglkdaaGreatDoor
open Go Go.Ab Go.Proofs Go.Soft
end Go.Proofs.YtndlfijfjglkdaaGreatDoor

namespace Go.Ab
open Go
theorem plainH_hdel : ∀ {H : Heap} {k : Nat}, plainH H = true → plainH (hdel H k) = true
 | [], _, _ => rfl
 | (i, b) :: H, k, h => by
   simp only [plainH, Bool.and_eq_true] at h
   rw [hdel]
   split
   · exact plainH_hdel h.2
   · simp only [plainH, Bool.and_eq_true]
     exact ⟨h.1, plainH_hdel h.2⟩
end Go.Ab

namespace Go.Ab
open Go
def outS (o k : Nat) : Value := if k = 0 then .slice none 0 0 else .slice (some ⟨o, 0, some 0⟩) k 0
@[simp] theorem outS_nil {o : Nat} : outS o 0 = .slice none 0 0 := rfl
theorem outS_ne {o k : Nat} (h : k ≠ 0) : outS o k = .slice (some ⟨o, 0, some 0⟩) k 0 := if_neg h
def outSB (n t sz k : Nat) (cs : List Value) : Heap := if k = 0 then [] else [(n, .ext cs t sz)]
structure GL (L : Heap) (n t sz : Nat) (cs : List Value) (k : Nat) (Hx : Heap) (N o : Nat) : Prop where
 len : cs.length = k * sz
 out : k ≠ 0 → hget Hx o = some (.ext cs t sz) ∧ o < N
 sub : Sub L Hx
 nm : namesOk N Hx = true
 big : n ≤ N
 low : n ≤ o
 pl : plainH Hx = true
section
variable {L Hx : Heap} {n t sz k N o : Nat} {cs new : List Value}
theorem GL.start (hs : Sub L Hx) (hn : namesOk N Hx = true) (hb : n ≤ N) (hp : plainH Hx = true) : GL L n t sz [] 0 Hx N n :=
 ⟨by simp, fun h => absurd rfl h, hs, hn, hb, Nat.le_refl _, hp⟩
theorem GL.skip (hL : ∀ k b, hget L k = some b → k < n) (h : GL L n t sz cs k Hx N o) (b : Blk) (hp : plainB2 b = true) : GL L n t sz cs k ((N, b) :: Hx) (N + 1) o := by
 have hb := h.big
 refine ⟨h.len, fun hk => ?_, fun j b' hj => ?_, namesOk_put (by omega) (namesOk_mono (by omega) _ h.nm), by omega, h.low, by rw [plainH, hp, h.pl]; rfl⟩
 · obtain ⟨h1, h2⟩ := h.out hk
   rw [hget_cons, if_neg (by omega)]
   exact ⟨h1, by omega⟩
 · have := hL j b' hj
   rw [hget_cons, if_neg (by omega)]
   exact h.sub j b' hj
theorem GL.grow (hL : ∀ k b, hget L k = some b → k < n) (h : GL L n t sz cs k Hx N o) {cs' : List Value} {k' : Nat} (hl : cs'.length = k' * sz) : GL L n t sz cs' k' ((N, .ext cs' t sz) :: (if k = 0 then Hx else hdel Hx o)) (N + 1) N := by
 have hb := h.big
 have hlo := h.low
 have hg : ∀ j, j < n → hget (if k = 0 then Hx else hdel Hx o) j = hget Hx j := fun j hj => by
   split
   · rfl
   · rw [hget_hdel, if_neg (by omega)]
 have hn2 : namesOk N (if k = 0 then Hx else hdel Hx o) = true := by
   split
   · exact h.nm
   · exact namesOk_hdel h.nm
 have hp2 : plainH (if k = 0 then Hx else hdel Hx o) = true := by
   split
   · exact h.pl
   · exact plainH_hdel h.pl
 refine ⟨hl, fun _ => ⟨by rw [hget_cons, if_pos rfl], by omega⟩, fun j b hj => ?_, namesOk_put (by omega) (namesOk_mono (by omega) _ hn2), by omega, by omega, by simp [plainH, hp2]⟩
 have := hL j b hj
 rw [hget_cons, if_neg (by omega), hg j this]
 exact h.sub j b hj
theorem GL.app {P : Program} {st : TypeId} {i : TypeInfo} (hL : ∀ k b, hget L k = some b → k < n) (hu : P.underlying st = some (.slice t)) (hi : P.info? t = some i) (hsz : i.size = sz) (hz : zeroOk i = true) (hb : i.bytes ≤ 128) (h : GL L n t sz cs k Hx N o) (hk : k < 2147483647) (hnew : new.length = sz) (hs0 : 0 < sz) (hone : oneL new = true) (hpn : plainB2 (.cells new t) = true) :
   ∃ Hz, builtinA P .append #[st, st] ((N, .cells new t) :: Hx) (N + 1) [outS o k, .slice (some ⟨N, 0, none⟩) 1 1] = some (outS (N + 1) (k + 1), Hz, N + 1 + 1) ∧ GL L n t sz (cs ++ new) (k + 1) Hz (N + 1 + 1) (N + 1) := by
 have h2 := h.skip hL (.cells new t) hpn
 refine ⟨_, ?_, h2.grow hL (by rw [List.length_append, h.len, hnew, Nat.succ_mul])⟩
 have hc : cellsA ((N, .cells new t) :: Hx) N 0 (1 * sz) = some new := by
   rw [cellsA_eq, hget_cons, if_pos rfl]
   simp only [Option.bind_some, cellsB]
   rw [if_pos (by omega), List.drop_zero, List.take_of_length_le (by omega)]
 have hsm1 : smallA i.bytes 1 = true := by
   unfold smallA
   rw [Bool.and_eq_true]
   exact ⟨decide_eq_true (by omega), decide_eq_true (by omega)⟩
 have hsm : smallA i.bytes (k + 1) = true := by
   unfold smallA
   rw [Bool.and_eq_true]
   refine ⟨decide_eq_true ?_, decide_eq_true ?_⟩
   · have := Nat.mul_le_mul_left (k + 1) hb
     omega
   · omega
 have h1 : ¬ 1 * sz = 0 := by omega
 show appendA P #[st, st] _ _ _ _ = _
 unfold appendA
 have hnb : Nat.beq new.length (1 * sz) = true := by rw [hnew, Nat.one_mul, Nat.beq_refl]
 rw [outS_ne (Nat.succ_ne_zero k)]
 by_cases hk0 : k = 0
 · subst hk0
   simp only [outS_nil, List.getElem?_toArray, List.getElem?_cons_zero, List.getElem?_cons_succ, hu, hi, lenX, lenV, srcX, srcA, hsz, if_neg h1, flat_n, if_true, hc, hnb, hone, Bool.and_self]
   unfold appendTo
   have hcs : cs = [] := List.eq_nil_of_length_eq_zero (by rw [h.len, Nat.zero_mul])
   subst hcs
   simp only [and_self, if_true, Nat.one_ne_zero, if_false, hsm1, hz, Bool.and_self, hsz]
   rfl
 · obtain ⟨ho, _⟩ := h2.out hk0
   have hle : ¬ (k + 1) * sz ≤ cs.length := by rw [h.len, Nat.succ_mul]; omega
   have hle2 : k * sz ≤ cs.length := by rw [h.len]; omega
   have htk : cs.take (k * sz) = cs := List.take_of_length_le (by rw [h.len]; omega)
   rw [outS_ne hk0]
   simp only [List.getElem?_toArray, List.getElem?_cons_zero, List.getElem?_cons_succ, hu, hi, lenX, lenV, srcX, srcA, hsz, if_neg h1, flat_n, if_true, hc, hnb, hone, Bool.and_self]
   unfold appendTo
   simp only [ho, hsz, hle2, and_self, if_true, if_neg hle, hsm, hz, Bool.and_self, htk, if_neg hk0]
   rfl
theorem sc_outS {o k : Nat} {p : Nat → Prop} (h : p o) : sc p (outS o k) := by
 unfold outS
 split
 · trivial
 · exact h
theorem ren_outS {o m k : Nat} {ρ : Nat → Nat} (h : ρ o = m) : ren ρ (outS o k) = outS m k := by
 unfold outS
 split
 · rfl
 · simp [ren, h]
theorem GL.fresh {n0 : Nat} (h : GL L n t sz cs k Hx N o) (hn : n0 ≤ n) (haf : afL cs = true) (hren : ∀ ρ, renL ρ cs = cs) : Fresh n0 (n0 + 1) L (outS n0 k) (outSB n0 t sz k cs) (outS o k) Hx := by
 have hlo := h.low
 refine ⟨fun j => if j = n0 then o else j, fun j hj => if_neg (by omega), by rw [ren_outS (ρ := fun j => if j = n0 then o else j) (m := o) (by simp)], fun j b hj => ?_, fun j b j' c hj hj' _ => ?_, h.sub⟩
 · by_cases hk : k = 0
   · rw [outSB, if_pos hk] at hj; cases hj
   · rw [outSB, if_neg hk, hget_cons] at hj
     split at hj
     · rename_i e; subst e; injection hj with hj; subst hj
       refine ⟨Nat.le_refl _, Nat.lt_succ_self _, by simp; omega, ?_, scL_af _ _ haf, trivial, rfl⟩
       simp [renB, hren, (h.out hk).1]
     · cases hj
 · by_cases hk : k = 0
   · rw [outSB, if_pos hk] at hj; cases hj
   · rw [outSB, if_neg hk, hget_cons] at hj hj'
     split at hj
     · split at hj'
       · omega
       · cases hj'
     · cases hj
end
theorem AC.wider {P : Program} {f : FuncId} {args : List Value} {H : Heap} {n : Nat} {v : Value} (h : AC P f args H n v H n) (hr : v = Ab.ren id v) (hv : sc (· < n + 1) v) : AC P f args H n v H (n + 1) :=
 AC.given fun hold _ _ => h.ren id (fun _ _ => rfl) (by omega) hr hv (fun _ _ hk => .inl ⟨hk, hk⟩) fun j b k c hj hk h1 _ _ => absurd (hold j b h1).1 (by omega)
theorem fresh_none {n t sz : Nat} {H H1 : Heap} {cs : List Value} (hs : Sub H H1) : Fresh n (n + 1) H (outS n 0) (outSB n t sz 0 cs) (.slice none 0 0) H1 :=
 ⟨id, fun _ _ => rfl, rfl, fun k b hk => (by cases hk), fun j b k c hj _ _ => (by cases hj), hs⟩
theorem outSB_ge {n t sz k : Nat} {cs : List Value} : ∀ x ∈ outSB n t sz k cs, n ≤ x.1 := fun x hx => by
 unfold outSB at hx
 split at hx
 · cases hx
 · rw [List.mem_singleton] at hx; subst hx; exact Nat.le_refl _
end Go.Ab

namespace Go.Ab
open Go
end Go.Ab

namespace Go.Proofs.YtndlfijfjglkdaaGreatDoor
open Go Go.Ab Go.Proofs Ieee
theorem sz3i : Tryz.t3.size = 1 := by kernel_rfl
theorem by3 : Tryz.t3.bytes ≤ 128 := by decide +kernel
theorem zo3 : zeroOk Tryz.t3 = true := by kernel_rfl
end Go.Proofs.YtndlfijfjglkdaaGreatDoor

namespace Go.Proofs.YtndlfijfjglkdaaGreatDoor
open Go Go.Ab Go.Proofs Ieee
end Go.Proofs.YtndlfijfjglkdaaGreatDoor

namespace Go.Proofs.YtndlfijfjglkdaaGreatDoor
open Go Go.Ab Go.Proofs Ieee
end Go.Proofs.YtndlfijfjglkdaaGreatDoor

namespace Go.Ab
open Go
end Go.Ab

namespace Go.Proofs.YtndlfijfjglkdaaGreatDoor
open Go Go.Ab Go.Proofs Go.Soft
end Go.Proofs.YtndlfijfjglkdaaGreatDoor

namespace Go.Proofs.YtndlfijfjglkdaaGreatDoor
open Go Go.Ab Go.Proofs Go.Soft
end Go.Proofs.YtndlfijfjglkdaaGreatDoor

namespace Go.Proofs.YtndlfijfjglkdaaGreatDoor
open Go Go.Ab Go.Proofs Go.Soft
end Go.Proofs.YtndlfijfjglkdaaGreatDoor

namespace Go.Proofs.YtndlfijfjglkdaaGreatDoor
open Go Go.Ab Go.Proofs Go.Soft
end Go.Proofs.YtndlfijfjglkdaaGreatDoor

namespace Go.Proofs.YtndlfijfjglkdaaGreatDoor
open Go Go.Ab Go.Proofs Go.Soft
end Go.Proofs.YtndlfijfjglkdaaGreatDoor

namespace Go.Proofs.YtndlfijfjglkdaaGreatDoor
open Go Go.Ab Go.Proofs Go.Soft
def RowG (H : Heap) (m : Nat) (Z : List Gun) : Prop := hget H m = some (.ext (gcs Z) 95 7) ∨ hget H m = some (.row (gcs Z) 7)
end Go.Proofs.YtndlfijfjglkdaaGreatDoor

namespace Go.Proofs.YtndlfijfjglkdaaGreatDoor
open Go Go.Ab Go.Proofs Go.Soft
end Go.Proofs.YtndlfijfjglkdaaGreatDoor

namespace Go.Proofs.YtndlfijfjglkdaaGreatDoor
open Go Go.Ab Go.Proofs Go.Soft
def OwnG (H : Heap) (v : Value) (l : List Gun) : Prop := ∃ b, v = .slice (some ⟨b, 0, some 0⟩) l.length 0 ∧ RowG H b l ∧ 0 < l.length ∧ l.length < 2147483648
theorem OwnG.mono {H H' : Heap} (hs : Sub H H') {v : Value} {l : List Gun} (h : OwnG H v l) : OwnG H' v l := by
 obtain ⟨b, e, h1, h2⟩ := h
 refine ⟨b, e, ?_, h2⟩
 rcases h1 with h1 | h1
 · exact .inl (hs _ _ h1)
 · exact .inr (hs _ _ h1)
theorem OwnG.tidy {H : Heap} {n : Nat} (hl : ∀ k b, hget H k = some b → k < n) {v : Value} {l : List Gun} (h : OwnG H v l) : OwnG (Ab.tidy n H) v l := by
 obtain ⟨b, e, h1, h2⟩ := h
 refine ⟨b, e, ?_, h2⟩
 rcases h1 with h1 | h1
 · exact .inl (hget_tidy.2 ⟨h1, hl _ _ h1, rfl⟩)
 · exact .inr (hget_tidy.2 ⟨h1, hl _ _ h1, rfl⟩)
theorem OwnG.guns {H : Heap} {v : Value} {l : List Gun} (h : OwnG H v l) : GunsAt H v l := by
 obtain ⟨b, e, h1, h2, h3⟩ := h
 refine ⟨_, 0, e, rfl, ?_, h2, h3⟩
 have hg := gcs_length l
 rcases h1 with h1 | h1 <;> rw [cellsA_eq, h1] <;> simp [cellsB] <;> exact List.take_of_length_le (by omega)
theorem OwnG.check {H : Heap} {v : Value} {l : List Gun} (h : OwnG H v l) (n : Nat) : g31 [.agg ⟨[v]⟩] H n = some (iv (strE l), H, n) := by
 obtain ⟨b, rfl, h1, h2, h3⟩ := h
 have hr : rowOf H b = some (gcs l, 7) := by
   unfold rowOf
   rcases h1 with h1 | h1 <;> rw [h1]
 have hlt : l.length < 2 ^ 63 := by omega
 simp only [g31, hr, gunsOf_gcs]
 rw [if_pos ⟨trivial, hlt⟩]
end Go.Proofs.YtndlfijfjglkdaaGreatDoor

namespace Go.Proofs.YtndlfijfjglkdaaGreatDoor
open Go Go.Ab Go.Proofs Go.Soft
end Go.Proofs.YtndlfijfjglkdaaGreatDoor

namespace Go.Soft
end Go.Soft

namespace Go.Proofs.YtndlfijfjglkdaaGreatDoor
open Go Go.Ab Go.Proofs Go.Soft
end Go.Proofs.YtndlfijfjglkdaaGreatDoor

namespace Go.Proofs.YtndlfijfjglkdaaGreatDoor
open Go Go.Ab Go.Proofs Go.Soft
end Go.Proofs.YtndlfijfjglkdaaGreatDoor

namespace Go.Proofs.YtndlfijfjglkdaaGreatDoor
open Go Go.Ab Go.Proofs Go.Soft
theorem strAt_mono {H H' : Heap} (hs : Sub H H') {x : Value} {l : List Gun} (h : strAt H x = some l) : strAt H' x = some l := by
 unfold strAt at h ⊢
 split at h
 · exact h
 · unfold gunsAt at h ⊢
   split at h
   · rename_i hc
     rw [if_pos hc]
     obtain ⟨cs, h1, h2⟩ := Option.bind_eq_some_iff.1 h
     rw [hs.cells h1]
     exact h2
   · cases h
 · cases h
theorem strAt_tidy {H : Heap} {n : Nat} (hl : ∀ k b, hget H k = some b → k < n) {x : Value} {l : List Gun} (h : strAt H x = some l) : strAt (Ab.tidy n H) x = some l := by
 unfold strAt at h ⊢
 split at h
 · exact h
 · unfold gunsAt at h ⊢
   split at h
   · rename_i hc
     rw [if_pos hc]
     obtain ⟨cs, h1, h2⟩ := Option.bind_eq_some_iff.1 h
     rw [cellsA_tidy hl h1]
     exact h2
   · cases h
 · cases h
theorem strAt_guns {H : Heap} {v : Value} {l : List Gun} (h : strAt H (.agg ⟨[v]⟩) = some l) (hne : l ≠ []) (hlt : l.length < 2147483648) : GunsAt H v l := by
 unfold strAt at h
 split at h
 · injection h with h
   exact absurd h.symm hne
 · rename_i a len c e
   simp only [Value.agg.injEq, Array.mk.injEq, List.cons.injEq, and_true] at e
   subst e
   obtain ⟨hf, hc, hlen, _⟩ := gunsAt_ok h
   subst hlen
   exact ⟨a, c, rfl, hf, hc, List.length_pos_iff.2 hne, hlt⟩
 · cases h
theorem strAt_nil {H : Heap} {n : Nat} {v : Value} (h : strAt H (.agg ⟨[v]⟩) = some []) : g21 [.agg ⟨[v]⟩] H n = some (nilV, H, n) := by
 simp only [g21, h, if_true]
theorem strAt_own {H : Heap} {n : Nat} {v : Value} {l : List Gun} (h : strAt H (.agg ⟨[v]⟩) = some l) (hne : l ≠ []) (hl : l.length ≤ 4096) : g21 [.agg ⟨[v]⟩] H n = some (.agg ⟨[.slice (some ⟨n, 0, some 0⟩) l.length 0]⟩, (n, .ext (gcs l) 95 7) :: H, n + 1) := by
 simp only [g21, h]
 rw [if_neg hne, if_pos hl]
theorem own_row {H : Heap} {n : Nat} {l : List Gun} (hne : l ≠ []) (hl : l.length ≤ 4096) : OwnG ((n, .ext (gcs l) 95 7) :: H) (.slice (some ⟨n, 0, some 0⟩) l.length 0) l :=
 ⟨n, rfl, .inl (by rw [hget_cons, if_pos rfl]), List.length_pos_iff.2 hne, by omega⟩
end Go.Proofs.YtndlfijfjglkdaaGreatDoor

namespace Go.Proofs.YtndlfijfjglkdaaGreatDoor
open Go Go.Ab Go.Proofs Ieee
theorem cellA_read {L : List Nat} {H : Heap} {a o : Nat} : cellA (readA L H) a o = if memN L a = true then cellA H a o else none := by
 rw [cellA_eq, cellA_eq, hget_readA]
 split <;> rfl
theorem cellsA_read {L : List Nat} {H : Heap} {a o k : Nat} : cellsA (readA L H) a o k = if memN L a = true then cellsA H a o k else none := by
 rw [cellsA_eq, cellsA_eq, hget_readA]
 split <;> rfl
end Go.Proofs.YtndlfijfjglkdaaGreatDoor

namespace Go.Proofs.YtndlfijfjglkdaaGreatDoor
open Go Go.Ab Go.Proofs Ieee
def OwnS (H : Heap) (x : Value) (l : List Gun) : Prop := (∃ v, x = .agg ⟨[v]⟩ ∧ OwnG H v l) ∨ (x = nilV ∧ l = [])
end Go.Proofs.YtndlfijfjglkdaaGreatDoor

namespace Go.Proofs.YtndlfijfjglkdaaGreatDoor
open Go Go.Ab Go.Proofs
end Go.Proofs.YtndlfijfjglkdaaGreatDoor

namespace Go.Proofs.YtndlfijfjglkdaaGreatDoor
open Go Go.Ab Go.Proofs
end Go.Proofs.YtndlfijfjglkdaaGreatDoor

namespace Go.Proofs.YtndlfijfjglkdaaGreatDoor
open Go Go.Ab Go.Proofs
end Go.Proofs.YtndlfijfjglkdaaGreatDoor

namespace Go.Ab
open Go
structure VR where
 nm : Nat
 blk : Nat
 b : Blk
 cs : List Value
def VR.ok (H : Heap) (v : VR) : Prop := match v.b with
 | .inp o _ => ∃ m, cellsA H v.blk o m = some v.cs
 | .row cs sz => rowOf H v.blk = some (cs, sz) ∧ afL cs = true
 | _ => False
end Go.Ab

namespace Go.Ab
open Go
end Go.Ab

namespace Go.Proofs.YtndlfijfjglkdaaGreatDoor
open Go Go.Ab Go.Proofs
end Go.Proofs.YtndlfijfjglkdaaGreatDoor

namespace Go.Proofs.YtndlfijfjglkdaaGreatDoor
open Go Go.Ab Go.Proofs Ieee
end Go.Proofs.YtndlfijfjglkdaaGreatDoor

namespace Go.Proofs.YtndlfijfjglkdaaGreatDoor
open Go Go.Ab Go.Proofs Ieee
end Go.Proofs.YtndlfijfjglkdaaGreatDoor

namespace Go.Proofs.YtndlfijfjglkdaaGreatDoor
open Go Go.Ab Go.Proofs Ieee
end Go.Proofs.YtndlfijfjglkdaaGreatDoor

namespace Go.Proofs.YtndlfijfjglkdaaGreatDoor
open Go Go.Ab Go.Proofs Ieee
end Go.Proofs.YtndlfijfjglkdaaGreatDoor

namespace Go.Proofs.YtndlfijfjglkdaaGreatDoor
open Go Go.Ab Go.Proofs Ieee
end Go.Proofs.YtndlfijfjglkdaaGreatDoor

namespace Go.Proofs.YtndlfijfjglkdaaGreatDoor
open Go Go.Ab Go.Proofs Ieee
end Go.Proofs.YtndlfijfjglkdaaGreatDoor

namespace Go.Ab
open Go
end Go.Ab

namespace Go.Proofs.YtndlfijfjglkdaaGreatDoor
open Go Go.Ab Go.Proofs Ieee
end Go.Proofs.YtndlfijfjglkdaaGreatDoor
