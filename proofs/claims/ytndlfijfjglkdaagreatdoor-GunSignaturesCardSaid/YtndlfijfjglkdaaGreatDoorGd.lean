/-
The walks over strings of guns: checks, searches, copies; and the ticks of their timings (each a contract: no condition but those in its statement).
-/
import Derived.Test.YtndlfijfjglkdaaGreatDoorGc
import Derived.Test.YtndlfijfjglkdaaGreatDoorGa
namespace Go.Proofs.YtndlfijfjglkdaaGreatDoor
open Go Go.Ab Go.Proofs
def gcs (l : List Gun) : List Value := l.flatMap Gun.cells
def gunsOf : List Value → Option (List Gun)
  | [] => some []
  | .string n :: .int .i64 v :: .int .i64 x :: .int .i64 y :: .int .i64 d :: .int .i64 lo :: .int .i64 hi :: vs => (gunsOf vs).map (⟨n, v, x, y, d, lo, hi⟩ :: ·)
  | _ => none
theorem gunsOf_ok (cs : List Value) : ∀ l, gunsOf cs = some l → cs = gcs l := by
  fun_induction gunsOf cs with
  | case1 => intro l h; injection h with h; subst h; rfl
  | case2 n v x y d lo hi vs ih =>
    intro l h
    rw [Option.map_eq_some_iff] at h
    obtain ⟨l', h1, h2⟩ := h
    subst h2
    rw [ih _ h1]
    simp [gcs]
  | case3 => intro l h; cases h
theorem gunsOf_gcs (l : List Gun) : gunsOf (gcs l) = some l := by
  induction l with
  | nil => rfl
  | cons g l ih =>
    show gunsOf (g.cells ++ gcs l) = _
    simp only [Gun.cells, List.cons_append, List.nil_append, gunsOf, ih]
    rfl
@[simp] theorem gcs_length (l : List Gun) : (gcs l).length = l.length * 7 := by
  induction l with
  | nil => rfl
  | cons g l ih =>
    show (g.cells ++ gcs l).length = _
    rw [List.length_append, ih]
    simp
    omega
theorem afL_gcs (l : List Gun) : afL (gcs l) = true := by
  induction l with
  | nil => rfl
  | cons g l ih =>
    show afL (g.cells ++ gcs l) = true
    simp [Gun.cells, afL, ih]
@[simp] theorem renL_gcs (ρ : Nat → Nat) (l : List Gun) : renL ρ (gcs l) = gcs l := by
  rw [renL_eq]
  induction l with
  | nil => rfl
  | cons g l ih =>
    show (g.cells ++ gcs l).map (ren ρ) = g.cells ++ gcs l
    rw [List.map_append, ih]
    rfl
@[simp] theorem scL_gcs (p : Nat → Prop) (l : List Gun) : scL p (gcs l) := scL_af p _ (afL_gcs l)
theorem gcs_takeN (l : List Gun) : ∀ i, (gcs l).take (i * 7) = gcs (l.take i) := by
  induction l with
  | nil => intro i; simp [gcs]
  | cons g l ih =>
    intro i
    cases i with
    | zero => simp [gcs]
    | succ i =>
      rw [List.take_succ_cons, show (i + 1) * 7 = i * 7 + 7 by omega]
      show (g.cells ++ gcs l).take (i * 7 + 7) = g.cells ++ gcs (l.take i)
      rw [show i * 7 + 7 = g.cells.length + i * 7 by simp; omega, List.take_length_add_append, ih]
theorem gcs_drop (l : List Gun) : ∀ i, (gcs l).drop (i * 7) = gcs (l.drop i) := by
  induction l with
  | nil => intro i; simp [gcs]
  | cons g l ih =>
    intro i
    cases i with
    | zero => simp
    | succ i =>
      rw [List.drop_succ_cons, ← ih i, show (i + 1) * 7 = i * 7 + 7 by omega]
      show (g.cells ++ gcs l).drop (i * 7 + 7) = _
      rw [show i * 7 + 7 = g.cells.length + i * 7 by simp; omega, List.drop_append]
      simp
theorem gcs_at {l : List Gun} {i : Nat} (h : i < l.length) : (gcs l).drop (i * 7) = l[i].cells ++ gcs (l.drop (i + 1)) := by
  rw [gcs_drop, List.drop_eq_getElem_cons h]
  rfl
theorem gcs_get {l : List Gun} {i : Nat} (h : i < l.length) (k : Nat) (hk : k < 7) : (gcs l)[i * 7 + k]? = l[i].cells[k]? := by
  have := congrArg (·[k]?) (gcs_at h)
  simp only [List.getElem?_drop] at this
  rw [this, List.getElem?_append_left (by simpa using hk)]
theorem gcs_name {l : List Gun} {i : Nat} (h : i < l.length) : (gcs l)[i * 7]? = some (sv l[i].name) := gcs_get h 0 (by omega)
theorem gcs_nameE {l : List Gun} {i : Nat} (h : i < l.length) (h2 : i * 7 < (gcs l).length) : (gcs l)[i * 7] = sv l[i].name := by
  have := gcs_name h
  rw [List.getElem?_eq_getElem h2] at this
  exact Option.some.inj this
theorem gcs_take {l : List Gun} {i : Nat} (h : i < l.length) : ((gcs l).drop (i * 7)).take 7 = l[i].cells := by
  rw [gcs_at h, List.take_append_of_le_length (by simp)]
  rfl
/-- a slice of guns with a block -/
def gunsAt (H : Heap) (a : Addr) (len : Nat) : Option (List Gun) := if flat a && Nat.blt len 9223372036854775808 then (cellsA H a.block a.off (len * 7)).bind gunsOf else none
theorem gunsAt_ok {H : Heap} {a : Addr} {len : Nat} {l : List Gun} (h : gunsAt H a len = some l) : flat a = true ∧ cellsA H a.block a.off (len * 7) = some (gcs l) ∧ l.length = len ∧ l.length < 2 ^ 63 := by
  unfold gunsAt at h
  split at h
  · rename_i hf
    rw [Bool.and_eq_true] at hf
    rw [Option.bind_eq_some_iff] at h
    obtain ⟨cs, h1, h2⟩ := h
    have h3 := gunsOf_ok _ _ h2
    subst h3
    have h4 := (cellsA_at h1).1
    rw [gcs_length] at h4
    exact ⟨hf.1, h1, by omega, by have := (blt_iff _ _).1 hf.2; omega⟩
  · cases h
end Go.Proofs.YtndlfijfjglkdaaGreatDoor

namespace Go.Proofs.YtndlfijfjglkdaaGreatDoor
open Go Go.Ab Go.Proofs
/-- where a name first stands among the first k guns, or -1 -/
def atV (l : List Gun) (s : ByteArray) (k : Nat) : Int := match (l.take k).findIdx? fun g => decide (g.name = s) with
  | some i => i
  | none => -1
theorem atV_hit {l : List Gun} {s : ByteArray} {k i : Nat} (hk : k ≤ l.length) (hi : i < k) (hn : l[i].name = s) (hb : ∀ j (_ : j < i), l[j].name ≠ s) : atV l s k = i := by
  have : (l.take k).findIdx? (fun g => decide (g.name = s)) = some i := by
    rw [List.findIdx?_eq_some_iff_getElem]
    refine ⟨by simp; omega, by simp [hn], fun j hj => by simpa using hb j hj⟩
  unfold atV
  rw [this]
theorem atV_miss {l : List Gun} {s : ByteArray} {k : Nat} (hk : k ≤ l.length) (hb : ∀ j (_ : j < k), l[j].name ≠ s) : atV l s k = -1 := by
  have : (l.take k).findIdx? (fun g => decide (g.name = s)) = none := by
    rw [List.findIdx?_eq_none_iff]
    intro x hx
    obtain ⟨j, hj, rfl⟩ := List.getElem_of_mem hx
    have hj2 : j < k := by rw [List.length_take] at hj; omega
    simpa using hb j hj2
  unfold atV
  rw [this]
abbrev strV (o len c : Nat) : Value := .agg ⟨[.slice (some ⟨10, o, none⟩) len c]⟩
set_option maxRecDepth 100000 in
theorem w75 (l : List Gun) (o c : Nat) (s : ByteArray) (k : Nat) (hl : l.length < 2 ^ 63) (hk : k ≤ l.length) : AC Tryz.prog 75 [strV o l.length c, sv s, iv k] [(10, .inp o (gcs l))] 11 (iv (atV l s k)) [(10, .inp o (gcs l))] 11 := by
  have hr := recT_ok (P := Tryz.prog) (l := []) (by simp)
  refine AC.pure Tryz.func75 rfl (by kernel_rfl) rfl [1, 2, 3, 7] rfl ?_
  refine E.seq ?_
  refine E.reg hr (by simp; rfl) ?_
  refine E.seq ?_
  refine E.seq ?_
  refine E.reg hr (by simp; rfl) ?_
  refine E.block ?_
  refine E.loop ?_
  refine EL.ind (fun i : Nat => { fr := [(1, sv s), (2, iv k), (3, .pointer (some ⟨11, 0, none⟩)), (7, iv i)], sz := 22, H := [(11, .cells [.slice (some ⟨10, o, none⟩) l.length c] 24), (10, .inp o (gcs l))], n := 12, marks := [], vs := [1, 2, 3, 7] }) (fun i => k - i) (fun i => i ≤ k ∧ ∀ j, j < i → ∀ h : j < l.length, l[j].name ≠ s) 0 (.less rfl rfl rfl (by simp) (by simp)) ⟨Nat.zero_le _, fun j hj => absurd hj (by omega)⟩ (fun _ => rfl) ?_
  intro i ⟨hi, hg⟩
  refine E.seq ?_
  refine E.seq ?_
  refine E.reg hr (by simp; rfl) ?_
  refine E.cond (by rfl) (fun h => ?_) (fun h => ?_)
  · simp at h
    have hlt : i < l.length := by omega
    have hw : IntKind.i64.wrap ((i : Int) + 1) = (i : Int) + 1 := W_in (by omega) (by omega)
    refine E.skip ?_
    refine E.seq ?_
    refine E.block ?_
    refine E.seq ?_
    refine E.reg hr (by simp [hlt, gcs_nameE hlt]; rfl) ?_
    refine E.cond (by rfl) (fun h => ?_) (fun h => ?_)
    · simp at h
      refine E.seq ?_
      refine E.reg hr (by simp; rfl) ?_
      refine E.ret ?_
      exact pureK.ret rfl rfl (by simp [atV_hit hk (by omega) h fun j hj => hg j hj (by omega)]) (by repeat first | exact sub_refl _ | refine sub_cons rfl ?_)
    · simp at h
      refine E.skip ?_
      refine E.reg hr (by simp [hw]; rfl) ?_
      exact ⟨i + 1, .less rfl rfl rfl (by simp) (by simp), ⟨by omega, fun j hj h2 => if e : j = i then by subst e; exact h else hg j (by omega) h2⟩, by dsimp only; omega⟩
  · simp at h
    refine E.exit ?_
    refine E.seq ?_
    refine E.reg hr (by simp; rfl) ?_
    refine E.ret ?_
    exact pureK.ret rfl rfl (by simp [atV_miss (s := s) hk fun j hj => hg j (by omega) (by omega)]) (by repeat first | exact sub_refl _ | refine sub_cons rfl ?_)
end Go.Proofs.YtndlfijfjglkdaaGreatDoor

namespace Go.Proofs.YtndlfijfjglkdaaGreatDoor
open Go Go.Ab Go.Proofs
/-- a string of guns, as a struct of one slice -/
def strAt (H : Heap) : Value → Option (List Gun)
  | .agg ⟨[.slice none 0 0]⟩ => some []
  | .agg ⟨[.slice (some a) len _]⟩ => gunsAt H a len
  | _ => none
abbrev nilV : Value := .agg ⟨[.slice none 0 0]⟩
def shortS (l : List Gun) : Bool := l.all (fun g => decide (g.name.size ≤ 40)) && (decide (l.length ≤ 6) || decide (l.length = 9))
theorem w19n : AC Tryz.prog 19 [nilV] [] 10 (.bool (shortS [])) [] 10 := by
  have hr := recT_ok (P := Tryz.prog) (l := []) (by simp)
  refine AC.pure Tryz.func19 rfl (by kernel_rfl) rfl [1, 3] rfl ?_
  refine E.seq ?_
  refine E.reg hr (by simp; rfl) ?_
  refine E.seq ?_
  refine E.seq ?_
  refine E.reg hr (by simp; rfl) ?_
  refine E.block ?_
  refine E.loop ?_
  refine EL.step ?_
  refine E.seq ?_
  refine E.seq ?_
  refine E.reg hr (by simp; rfl) ?_
  refine E.cond (by rfl) (fun h => ?_) (fun h => ?_)
  · simp at h
  refine E.exit ?_
  refine E.seq ?_
  refine E.reg hr (by simp; rfl) ?_
  refine E.ret ?_
  exact pureK.ret rfl rfl (by simp [shortS]) (by repeat first | exact sub_refl _ | refine sub_cons rfl ?_)
set_option maxRecDepth 100000 in
theorem w19 (l : List Gun) (o c : Nat) (hl : l.length < 2 ^ 63) : AC Tryz.prog 19 [strV o l.length c] [(10, .inp o (gcs l))] 11 (.bool (shortS l)) [(10, .inp o (gcs l))] 11 := by
  have hr := recT_ok (P := Tryz.prog) (l := []) (by simp)
  refine AC.pure Tryz.func19 rfl (by kernel_rfl) rfl [1, 3] rfl ?_
  refine E.seq ?_
  refine E.reg hr (by simp; rfl) ?_
  refine E.seq ?_
  refine E.seq ?_
  refine E.reg hr (by simp; rfl) ?_
  refine E.block ?_
  refine E.loop ?_
  refine EL.ind (fun i : Nat => { fr := [(1, .pointer (some ⟨11, 0, none⟩)), (3, iv i)], sz := 29, H := [(11, .cells [.slice (some ⟨10, o, none⟩) l.length c] 24), (10, .inp o (gcs l))], n := 12, marks := [], vs := [1, 3] }) (fun i => l.length - i) (fun i => i ≤ l.length ∧ ∀ j, j < i → ∀ h : j < l.length, l[j].name.size ≤ 40) 0 (.less rfl rfl rfl (by simp) (by simp)) ⟨Nat.zero_le _, fun j hj => absurd hj (by omega)⟩ (fun _ => rfl) ?_
  intro i ⟨hi, hg⟩
  refine E.seq ?_
  refine E.seq ?_
  refine E.reg hr (by simp; rfl) ?_
  refine E.cond (by rfl) (fun h => ?_) (fun h => ?_)
  · simp at h
    have hw : IntKind.i64.wrap ((i : Int) + 1) = (i : Int) + 1 := W_in (by omega) (by omega)
    refine E.skip ?_
    refine E.seq ?_
    refine E.block ?_
    refine E.seq ?_
    refine E.reg hr (by simp [h, gcs_nameE h]; rfl) ?_
    refine E.cond (by rfl) (fun h2 => ?_) (fun h2 => ?_)
    · simp at h2
      refine E.seq ?_
      refine E.reg hr (by simp; rfl) ?_
      refine E.ret ?_
      have : shortS l = false := by
        unfold shortS
        rw [show l.all (fun g => decide (g.name.size ≤ 40)) = false from List.all_eq_false.2 ⟨l[i], List.getElem_mem h, by simp; omega⟩, Bool.false_and]
      exact pureK.ret rfl rfl (by simp [this]) (by repeat first | exact sub_refl _ | refine sub_cons rfl ?_)
    · simp at h2
      refine E.skip ?_
      refine E.reg hr (by simp [hw]; rfl) ?_
      exact ⟨i + 1, .less rfl rfl rfl (by simp) (by simp), ⟨by omega, fun j hj h3 => if e : j = i then by subst e; omega else hg j (by omega) h3⟩, by dsimp only; omega⟩
  · simp at h
    refine E.exit ?_
    have hall : shortS l = (decide (l.length ≤ 6) || decide (l.length = 9)) := by
      unfold shortS
      rw [show l.all (fun g => decide (g.name.size ≤ 40)) = true from List.all_eq_true.2 fun x hx => by obtain ⟨j, hj, rfl⟩ := List.getElem_of_mem hx; simpa using hg j (by omega) hj, Bool.true_and]
    refine E.seq ?_
    by_cases h6 : (l.length : Int) ≤ 6
    · refine E.reg hr (by simp [h6, undefV]; rfl) ?_
      refine E.ret ?_
      exact pureK.ret rfl rfl (by simp [hall]; omega) (by repeat first | exact sub_refl _ | refine sub_cons rfl ?_)
    · have h6' : ¬ l.length ≤ 6 := by omega
      have e9 : ((l.length : Int) = 9) = (l.length = 9) := propext (by omega)
      refine E.reg hr (by simp [h6]; rfl) ?_
      refine E.ret ?_
      exact pureK.ret rfl rfl (by simp [hall, h6', e9]) (by repeat first | exact sub_refl _ | refine sub_cons rfl ?_)
/-- a function of one string of guns -/
def gStr (F : List Gun → Value) (args : List Value) (H : Heap) (n : Nat) : R := match args with
  | [v] => (strAt H v).map fun l => (F l, H, n)
  | _ => none
theorem okStr {f : FuncId} {F : List Gun → Value} (hF : ∀ l, af (F l) = true) (hnil : AC Tryz.prog f [nilV] [] 10 (F []) [] 10)
    (h : ∀ l o c, l.length < 2 ^ 63 → AC Tryz.prog f [strV o l.length c] [(10, .inp o (gcs l))] 11 (F l) [(10, .inp o (gcs l))] 11) : EntOk Tryz.prog (f, gStr F) := by
  intro args H n v H' n' h'
  simp only [gStr] at h'
  split at h'
  · rw [Option.map_eq_some_iff] at h'
    obtain ⟨l, h1, h2⟩ := h'
    injection h2 with e1 e2; injection e2 with e2 e3; subst e1 e2 e3
    unfold strAt at h1
    split at h1
    · injection h1 with h1; subst h1
      exact AC.liftP (hF _) (Part.plain (by simp) [] (by simp [Seen]) gsz ⟨_, _, hnil⟩)
    · obtain ⟨hf, hc, hlen, hlt⟩ := gunsAt_ok h1
      subst hlen
      exact AC.liftP (hF _) (Part.one (fun s => [.agg ⟨[s]⟩]) (by intro φ φ0 s s0 h; simp [denL, den, h]) (by intro p s h; exact ⟨⟨h, trivial⟩, trivial⟩) hf hc (afL_gcs l) [] (by simp [Seen]) gsz fun c => ⟨_, _, h l _ c hlt⟩)
    · cases h1
  · cases h'
theorem ok19 : EntOk Tryz.prog (19, gStr fun l => .bool (shortS l)) := okStr (fun _ => rfl) w19n w19
end Go.Proofs.YtndlfijfjglkdaaGreatDoor

namespace Go.Proofs.YtndlfijfjglkdaaGreatDoor
open Go Go.Ab Go.Proofs
attribute [simp] run_vcall_tmp vcallF target
abbrev Hf (o : Nat) (l : List Gun) (s : ByteArray) : Heap := [(11, .cells [sv s] 9), (10, .inp o (gcs l))]
theorem w192 (g : Gun) (o : Nat) (l : List Gun) (s : ByteArray) : AC Tryz.prog 192 [.agg ⟨g.cells⟩, .pointer (some ⟨11, 0, none⟩)] (Hf o l s) 12 (.bool (decide (g.name = s))) (Hf o l s) 12 := by
  have hr := recT_ok (P := Tryz.prog) (l := []) (by simp)
  refine AC.pure Tryz.func192 rfl (by kernel_rfl) rfl [] rfl ?_
  refine E.seq ?_
  refine E.reg hr (by simp; rfl) ?_
  refine E.seq ?_
  refine E.reg hr (by simp; rfl) ?_
  refine E.ret ?_
  exact pureK.ret rfl rfl (by simp) (by repeat first | exact sub_refl _ | refine sub_cons rfl ?_)
set_option maxRecDepth 100000 in
theorem w191 (l : List Gun) (o c : Nat) (s : ByteArray) (hl : l.length < 2 ^ 63) : AC Tryz.prog 191 [.slice (some ⟨10, o, none⟩) l.length c, .func (.func 192) #[] #[.pointer (some ⟨11, 0, none⟩)]] (Hf o l s) 12 (iv (atV l s l.length)) (Hf o l s) 12 := by
  have hr := recT_ok (P := Tryz.prog) (l := []) (by simp)
  refine AC.pure Tryz.func191 rfl (by kernel_rfl) rfl [0, 1, 7, 8] rfl ?_
  refine E.seq ?_
  refine E.reg hr (by simp; rfl) ?_
  refine E.seq ?_
  refine E.seq ?_
  refine E.reg hr (by simp; rfl) ?_
  refine E.block ?_
  refine E.loop ?_
  refine EL.ind (fun i : Nat => { fr := [(0, .slice (some ⟨10, o, none⟩) l.length c), (1, .func (.func 192) #[] #[.pointer (some ⟨11, 0, none⟩)]), (7, iv l.length), (8, iv i)], sz := 19, H := Hf o l s, n := 12, marks := [], vs := [0, 1, 7, 8] }) (fun i => l.length - i) (fun i => i ≤ l.length ∧ ∀ j, j < i → ∀ h : j < l.length, l[j].name ≠ s) 0 (.less rfl rfl rfl (by simp) (by simp)) ⟨Nat.zero_le _, fun j hj => absurd hj (by omega)⟩ (fun _ => rfl) ?_
  intro i ⟨hi, hg⟩
  refine E.seq ?_
  refine E.reg hr (by simp; rfl) ?_
  refine E.seq ?_
  refine E.cond (by rfl) (fun h => ?_) (fun h => ?_)
  · simp at h
    have hw : IntKind.i64.wrap ((i : Int) + 1) = (i : Int) + 1 := W_in (by omega) (by omega)
    refine E.skip ?_
    refine E.seq ?_
    refine E.block ?_
    refine E.seq ?_
    refine E.reg hr (by simp; rfl) ?_
    refine E.seq ?_
    have hcall : (recV Tryz.prog (fun _ _ _ => none) (fun _ _ _ _ => some (.bool (decide (l[i].name = s)), Hf o l s, 12))).call 192 [.agg l[i].cells.toArray, .pointer (some ⟨11, 0, none⟩)] (Hf o l s) 12 = some (.bool (decide (l[i].name = s)), Hf o l s, 12) := recV_call rfl (w192 l[i] o l s)
    have h7 : i * 7 + 7 ≤ l.length * 7 := by omega
    refine E.reg (r := recV Tryz.prog (fun _ _ _ => none) (fun _ _ _ _ => some (.bool (decide (l[i].name = s)), Hf o l s, 12))) recV_ok (by simp [h, gcs_take h, h7, hcall]; rfl) ?_
    refine E.cond (by rfl) (fun h2 => ?_) (fun h2 => ?_)
    · simp at h2
      refine E.seq ?_
      refine E.reg hr (by simp; rfl) ?_
      refine E.ret ?_
      exact pureK.ret rfl rfl (by simp [atV_hit (Nat.le_refl _) h h2 fun j hj => hg j hj (by omega)]) (by repeat first | exact sub_refl _ | refine sub_cons rfl ?_)
    · simp at h2
      refine E.skip ?_
      refine E.reg hr (by simp [hw]; rfl) ?_
      exact ⟨i + 1, .less rfl rfl rfl (by simp) (by simp), ⟨by omega, fun j hj h3 => if e : j = i then by subst e; exact h2 else hg j (by omega) h3⟩, by dsimp only; omega⟩
  · simp at h
    refine E.exit ?_
    refine E.seq ?_
    refine E.reg hr (by simp; rfl) ?_
    refine E.ret ?_
    exact pureK.ret rfl rfl (by simp [atV_miss (s := s) (Nat.le_refl l.length) fun j hj => hg j (by omega) (by omega)]) (by repeat first | exact sub_refl _ | refine sub_cons rfl ?_)
theorem w122 (l : List Gun) (o c : Nat) (s : ByteArray) (hl : l.length < 2 ^ 63) : AC Tryz.prog 122 [.slice (some ⟨10, o, none⟩) l.length c, sv s] [(10, .inp o (gcs l))] 11 (iv (atV l s l.length)) [(10, .inp o (gcs l))] 11 := by
  have hr := recT_ok (P := Tryz.prog) (l := []) (by simp)
  refine AC.pure Tryz.func122 rfl (by kernel_rfl) rfl [] rfl ?_
  refine E.seq ?_
  refine E.reg hr (by simp; rfl) ?_
  refine E.seq ?_
  have hcall := recV_call (P := Tryz.prog) (C := fun _ _ _ => none) (F := fun _ _ _ _ => some (iv (atV l s l.length), Hf o l s, 12)) rfl (w191 l o c s hl)
  refine E.reg (r := recV Tryz.prog (fun _ _ _ => none) (fun _ _ _ _ => some (iv (atV l s l.length), Hf o l s, 12))) recV_ok (by simp [opMakefunc, hcall]; rfl) ?_
  refine E.ret ?_
  exact pureK.ret rfl rfl (by simp) (by repeat first | exact sub_refl _ | refine sub_cons rfl ?_)
def g122 (args : List Value) (H : Heap) (n : Nat) : R := match args with
  | [.slice (some a) len _, .string s] => (gunsAt H a len).map fun l => (iv (atV l s len), H, n)
  | _ => none
theorem ok122 : EntOk Tryz.prog (122, g122) := by
  intro args H n v H' n' h'
  simp only [g122] at h'
  split at h'
  · rename_i a len c s
    rw [Option.map_eq_some_iff] at h'
    obtain ⟨l, h1, h2⟩ := h'
    injection h2 with e1 e2; injection e2 with e2 e3; subst e1 e2 e3
    obtain ⟨hf, hc, hlen, hlt⟩ := gunsAt_ok h1
    subst hlen
    exact AC.liftP rfl (Part.one (fun x => [x, sv s]) (by intro φ φ0 s s0 h; simp [denL, den, h]) (by intro p s h; exact ⟨h, trivial, trivial⟩) hf hc (afL_gcs l) [] (by simp [Seen]) gsz fun c => ⟨_, _, w122 l _ c s hlt⟩)
  · cases h'
def g75 (args : List Value) (H : Heap) (n : Nat) : R := match args with
  | [.agg ⟨[.slice (some a) len _]⟩, .string s, .int .i64 k] => if 0 ≤ k ∧ k.toNat ≤ len then (gunsAt H a len).map fun l => (iv (atV l s k.toNat), H, n) else none
  | _ => none
theorem ok75 : EntOk Tryz.prog (75, g75) := by
  intro args H n v H' n' h'
  simp only [g75] at h'
  split at h'
  · rename_i a len c s k
    split at h'
    · rename_i hk
      rw [Option.map_eq_some_iff] at h'
      obtain ⟨l, h1, h2⟩ := h'
      injection h2 with e1 e2; injection e2 with e2 e3; subst e1 e2 e3
      obtain ⟨hf, hc, hlen, hlt⟩ := gunsAt_ok h1
      subst hlen
      obtain ⟨k', rfl⟩ := Int.eq_ofNat_of_zero_le hk.1
      exact AC.liftP rfl (Part.one (fun x => [.agg ⟨[x]⟩, sv s, iv k']) (by intro φ φ0 s s0 h; simp [denL, den, h]) (by intro p s h; exact ⟨⟨h, trivial⟩, trivial, trivial, trivial⟩) hf hc (afL_gcs l) [] (by simp [Seen]) gsz fun c => ⟨_, _, w75 l _ c s k' hlt hk.2⟩)
    · cases h'
  · cases h'
end Go.Proofs.YtndlfijfjglkdaaGreatDoor

namespace Go.Proofs.YtndlfijfjglkdaaGreatDoor
open Go Go.Ab Go.Proofs
theorem firstV_map_hit {f : Nat → Int} {n i : Nat} (hi : i < n) (hb : ∀ j, j < i → f j = 0) (hne : f i ≠ 0) : firstV ((List.range n).map f) = f i := by
  have e : n = i + (n - i - 1 + 1) := by omega
  rw [e, List.range_add, List.map_append, firstV_append, if_pos ((firstV_zero _).2 fun x hx => by
    obtain ⟨j, hj, rfl⟩ := List.mem_map.1 hx
    exact hb j (List.mem_range.1 hj))]
  rw [List.range_succ_eq_map]
  simp [firstV, hne]
theorem firstV_map_zero {f : Nat → Int} {n : Nat} (hb : ∀ j, j < n → f j = 0) : firstV ((List.range n).map f) = 0 :=
  (firstV_zero _).2 fun x hx => by
    obtain ⟨j, hj, rfl⟩ := List.mem_map.1 hx
    exact hb j (List.mem_range.1 hj)
/-- what is wrong with the gun at a place, its name against the names before it -/
def gunChk (l : List Gun) (i : Nat) : Int := match l[i]? with
  | some g => firstV [nameE g.name, if 0 ≤ atV l g.name i then 9 else 0, g.err]
  | none => 0
/-- what is wrong with a string of guns -/
def strE (l : List Gun) : Int := if l.length = 0 then 12 else if 8 < l.length then 5 else firstV ((List.range l.length).map (gunChk l))
theorem strE_hit {l : List Gun} {i : Nat} (h8 : l.length ≤ 8) (hi : i < l.length) (hb : ∀ j, j < i → gunChk l j = 0) (hne : gunChk l i ≠ 0) : strE l = gunChk l i := by
  unfold strE
  rw [if_neg (by omega), if_neg (by omega), firstV_map_hit hi hb hne]
theorem strE_ok {l : List Gun} (h0 : l.length ≠ 0) (h8 : l.length ≤ 8) (hb : ∀ j, j < l.length → gunChk l j = 0) : strE l = 0 := by
  unfold strE
  rw [if_neg h0, if_neg (by omega), firstV_map_zero hb]
theorem gunChk_at {l : List Gun} {i : Nat} (h : i < l.length) : gunChk l i = firstV [nameE l[i].name, if 0 ≤ atV l l[i].name i then 9 else 0, l[i].err] := by
  unfold gunChk
  rw [List.getElem?_eq_getElem h]
theorem w24n : AC Tryz.prog 24 [nilV] [] 10 (iv (strE [])) [] 10 := by
  have hr := recT_ok (P := Tryz.prog) (l := []) (by simp)
  refine AC.pure Tryz.func24 rfl (by kernel_rfl) rfl [] rfl ?_
  refine E.seq ?_
  refine E.reg hr (by simp; rfl) ?_
  refine E.seq ?_
  refine E.seq ?_
  refine E.reg hr (by simp; rfl) ?_
  refine E.cond (by rfl) (fun h => ?_) (fun h => ?_)
  rotate_left
  · simp at h
  refine E.seq ?_
  refine E.reg hr (by simp; rfl) ?_
  refine E.ret ?_
  exact pureK.ret rfl rfl (by simp [strE]) (by repeat first | exact sub_refl _ | refine sub_cons rfl ?_)
set_option maxRecDepth 100000 in
theorem w24 (l : List Gun) (o c : Nat) (hl : l.length < 2 ^ 63) : AC Tryz.prog 24 [strV o l.length c] [(10, .inp o (gcs l))] 11 (iv (strE l)) [(10, .inp o (gcs l))] 11 := by
  have hr := recT_ok (P := Tryz.prog) (l := [(117, gSI nameE), (75, g75), (62, g138), (36, g1 fun a => withinV a 0 4), (27, g113)]) (by simp only [List.forall_mem_cons]; exact ⟨ok117, ok75, ok62, ok36, ok27, by simp⟩)
  refine AC.pure Tryz.func24 rfl (by kernel_rfl) rfl [1, 3] rfl ?_
  refine E.seq ?_
  refine E.reg hr (by simp; rfl) ?_
  refine E.seq ?_
  refine E.seq ?_
  refine E.reg hr (by simp; rfl) ?_
  refine E.cond (by rfl) (fun h => ?_) (fun h0 => ?_)
  · simp at h
    refine E.seq ?_
    refine E.reg hr (by simp; rfl) ?_
    refine E.ret ?_
    exact pureK.ret rfl rfl (by simp [strE, h]) (by repeat first | exact sub_refl _ | refine sub_cons rfl ?_)
  simp at h0
  refine E.skip ?_
  refine E.seq ?_
  refine E.seq ?_
  refine E.reg hr (by simp; rfl) ?_
  refine E.cond (by rfl) (fun h => ?_) (fun h8 => ?_)
  · simp at h
    refine E.seq ?_
    refine E.reg hr (by simp; rfl) ?_
    refine E.ret ?_
    exact pureK.ret rfl rfl (by simp [strE, h0, show 8 < l.length by omega]) (by repeat first | exact sub_refl _ | refine sub_cons rfl ?_)
  simp at h8
  refine E.skip ?_
  refine E.seq ?_
  refine E.seq ?_
  refine E.reg hr (by simp; rfl) ?_
  refine E.block ?_
  refine E.loop ?_
  refine EL.ind (fun i : Nat => { fr := [(1, .pointer (some ⟨11, 0, none⟩)), (3, iv i)], sz := 73, H := [(11, .cells [.slice (some ⟨10, o, none⟩) l.length c] 24), (10, .inp o (gcs l))], n := 12, marks := [], vs := [1, 3] }) (fun i => l.length - i) (fun i => i ≤ l.length ∧ ∀ j, j < i → gunChk l j = 0) 0 (.less rfl rfl rfl (by simp) (by simp)) ⟨Nat.zero_le _, fun j hj => absurd hj (by omega)⟩ (fun _ => rfl) ?_
  intro i ⟨hi, hg⟩
  have hw : IntKind.i64.wrap ((i : Int) + 1) = (i : Int) + 1 := W_in (by omega) (by omega)
  refine E.seq ?_
  refine E.seq ?_
  refine E.reg hr (by simp; rfl) ?_
  refine E.cond (by rfl) (fun h => ?_) (fun h => ?_)
  · simp at h
    have hC := gunChk_at h
    have h7 : i * 7 + 7 ≤ l.length * 7 := by omega
    have hat : gunsAt [(12, .cells l[i].cells 94), (11, .cells [.slice (some ⟨10, o, none⟩) l.length c] 24), (10, .inp o (gcs l))] ⟨10, o, none⟩ l.length = some l := by
      unfold gunsAt
      simp [List.take_of_length_le, gunsOf_gcs, show l.length < 9223372036854775808 by omega]
    refine E.skip ?_
    refine E.seq ?_
    refine E.block ?_
    refine E.seq ?_
    refine E.reg hr (by simp [h, h7, gcs_take h]; rfl) ?_
    refine E.seq ?_
    refine E.seq ?_
    refine E.reg hr (by simp; rfl) ?_
    refine E.seq ?_
    refine E.reg hr (by simp; rfl) ?_
    refine E.cond (by rfl) (fun h1 => ?_) (fun h1 => ?_)
    · simp at h1
      refine E.seq ?_
      refine E.reg hr (by simp; rfl) ?_
      refine E.ret ?_
      have : gunChk l i = nameE l[i].name := by rw [hC]; simp [firstV, h1]
      exact pureK.ret rfl rfl (by simp [strE_hit (by omega) h hg (by rw [this]; exact h1), this]) (by repeat first | exact sub_refl _ | refine sub_cons rfl ?_)
    simp at h1
    refine E.skip ?_
    refine E.seq ?_
    refine E.seq ?_
    refine E.reg hr (by simp [g75, hi, hat]; rfl) ?_
    refine E.cond (by rfl) (fun h2 => ?_) (fun h2 => ?_)
    · simp at h2
      refine E.seq ?_
      refine E.reg hr (by simp; rfl) ?_
      refine E.ret ?_
      have : gunChk l i = 9 := by rw [hC]; simp [firstV, h1, h2]
      exact pureK.ret rfl rfl (by simp [strE_hit (by omega) h hg (by rw [this]; omega), this]) (by repeat first | exact sub_refl _ | refine sub_cons rfl ?_)
    simp at h2
    refine E.skip ?_
    refine E.seq ?_
    refine E.seq ?_
    have hE : gunChk l i = l[i].err := by rw [hC]; simp [firstV, h1, show ¬ 0 ≤ atV l l[i].name i by omega]; omega
    have hn : firstV [withinV l[i].v 1 64, withinV l[i].x (-1000) 1000, withinV l[i].y (-1000) 1000, withinV l[i].d 0 16, withinV l[i].lo 0 4, withinV l[i].hi 0 4] = l[i].nums := rfl
    refine E.drawK mixed hr (by simp [g138, g113, intsAt, intsOf, hn]; rfl) (by kernel_rfl) (by kernel_rfl) ?_
    refine E.seq ?_
    refine E.reg hr (by simp; rfl) ?_
    refine E.cond (by rfl) (fun h3 => ?_) (fun h3 => ?_)
    · simp at h3
      refine E.seq ?_
      refine E.reg hr (by simp; rfl) ?_
      refine E.ret ?_
      have : gunChk l i = l[i].nums := by rw [hE, Gun.err_eq, if_neg h3]
      exact pureK.ret rfl rfl (by simp [strE_hit (by omega) h hg (by rw [this]; exact h3), this]) (by repeat first | exact sub_refl _ | refine sub_cons rfl ?_)
    simp at h3
    refine E.skip ?_
    refine E.seq ?_
    refine E.reg hr (by simp; rfl) ?_
    refine E.cond (by rfl) (fun h4 => ?_) (fun h4 => ?_)
    · simp at h4
      refine E.seq ?_
      refine E.reg hr (by simp; rfl) ?_
      refine E.ret ?_
      have : gunChk l i = 11 := by rw [hE, Gun.err_eq, if_pos h3, if_pos h4]
      exact pureK.ret rfl rfl (by simp [strE_hit (by omega) h hg (by rw [this]; omega), this]) (by repeat first | exact sub_refl _ | refine sub_cons rfl ?_)
    simp at h4
    refine E.skip ?_
    refine E.reg hr (by simp [hw]; rfl) ?_
    have : gunChk l i = 0 := by rw [hE, Gun.err_eq, if_pos h3, if_neg (by omega)]
    exact ⟨i + 1, Leads.ren [11] rfl rfl rfl ⟨rfl, rfl⟩ (by simp) (by simp), ⟨by omega, fun j hj => if e : j = i then e ▸ this else hg j (by omega)⟩, by dsimp only; omega⟩
  · simp at h
    refine E.exit ?_
    refine E.seq ?_
    refine E.reg hr (by simp; rfl) ?_
    refine E.ret ?_
    exact pureK.ret rfl rfl (by simp [strE_ok (fun e => h0 (List.length_eq_zero_iff.1 e)) (by omega) fun j hj => hg j (by omega)]) (by repeat first | exact sub_refl _ | refine sub_cons rfl ?_)
theorem ok24 : EntOk Tryz.prog (24, gStr fun l => iv (strE l)) := okStr (fun _ => rfl) w24n w24
end Go.Proofs.YtndlfijfjglkdaaGreatDoor

namespace Go.Proofs.YtndlfijfjglkdaaGreatDoor
open Go Go.Ab Go.Proofs
theorem atV_take (l : List Gun) (s : ByteArray) (i : Nat) : atV (l.take i) s i = atV l s i := by
  unfold atV
  rw [List.take_take, Nat.min_self]
theorem whenV_name (s : ByteArray) : whenV (!nameB s) 8 = nameE s := by
  unfold whenV nameE
  cases nameB s <;> rfl
theorem slice_row {fr : Fr} {H : Heap} {n b i : Nat} {x y : Operand} {l : List Gun} (hi : i < l.length) (hx : evO Tryz.prog fr x = some (.slice (some ⟨b, 0, some 0⟩) l.length 0)) (hy : evO Tryz.prog fr y = some (iv i)) (hg : hget H b = some (.row (gcs l) 7)) :
    opSlice Tryz.prog 30 x none (some y) none fr H n = some (.slice (some ⟨b, 0, some 0⟩) i 0, H, n) := by
  have hu : usedA H 7 (some ⟨b, 0, some 0⟩) 0 = l.length := by simp [usedA, hg]
  have h0 : 0 < l.length := by omega
  simp only [opSlice, hx, evI, hy, Tryz.underlying30, show szA Tryz.prog 95 = some 7 from by simp, hu]
  simp [sliceA, boundA, show i ≤ l.length by omega, h0]
abbrev rowV (len : Nat) : Value := .agg ⟨[.slice (some ⟨10, 0, some 0⟩) len 0]⟩
theorem w31n : AC Tryz.prog 31 [nilV] [] 10 (iv (strE [])) [] 10 := by
  have hr := recT_ok (P := Tryz.prog) (l := [(114, g114), (113, g113)]) (by simp only [List.forall_mem_cons]; exact ⟨ok114, ok113, by simp⟩)
  refine AC.pure Tryz.func31 rfl (by kernel_rfl) rfl [] rfl ?_
  refine E.seq ?_
  refine E.reg hr (by simp; rfl) ?_
  refine E.seq ?_
  refine E.seq ?_
  refine E.drawC mixed hr [9, 10, 11] [4, 9, 10, 11] [1, 4, 9, 10, 11] (by kernel_rfl) (by simp [g113, g114, whenV, intsAt, intsOf, firstV]; rfl) ?_
  refine E.seq ?_
  refine E.reg hr (by simp; rfl) ?_
  refine E.cond (by rfl) (fun h => ?_) (fun h => ?_)
  rotate_left
  · simp at h
  refine E.seq ?_
  refine E.reg hr (by simp; rfl) ?_
  refine E.ret ?_
  exact pureK.ret rfl rfl (by simp [strE]) (by repeat first | exact sub_refl _ | refine sub_cons rfl ?_)
set_option maxRecDepth 100000 in
theorem w31 (l : List Gun) (hl : l.length < 2 ^ 63) : AC Tryz.prog 31 [rowV l.length] [(10, .row (gcs l) 7)] 11 (iv (strE l)) [(10, .row (gcs l) 7)] 11 := by
  have hr := recT_ok (P := Tryz.prog) (l := [(114, g114), (113, g113), (121, gSB nameB), (122, g122), (123, g123)]) (by simp only [List.forall_mem_cons]; exact ⟨ok114, ok113, ok121, ok122, ok123, by simp⟩)
  have hE : firstV [whenV (decide (l = [])) 12, whenV (decide (8 < (l.length : Int))) 5] = if l.length = 0 then 12 else if 8 < l.length then 5 else 0 := by
    by_cases h0 : l = []
    · simp [firstV, whenV, h0]
    · have h0' : l.length ≠ 0 := fun e => h0 (List.length_eq_zero_iff.1 e)
      by_cases h8 : 8 < l.length
      · simp [firstV, whenV, h0, h0', show (8 : Int) < l.length by omega, h8]
      · simp [firstV, whenV, h0, h0', show ¬ (8 : Int) < l.length by omega, h8]
  refine AC.pure Tryz.func31 rfl (by kernel_rfl) rfl [1, 23, 24, 25] rfl ?_
  refine E.seq ?_
  refine E.reg hr (by simp; rfl) ?_
  refine E.seq ?_
  refine E.seq ?_
  refine E.drawC mixed hr [9, 10, 11] [4, 9, 10, 11] [1, 4, 9, 10, 11] (by kernel_rfl) (by simp [g113, g114, intsAt, intsOf]; rfl) ?_
  refine E.seq ?_
  refine E.reg hr (by simp; rfl) ?_
  refine E.cond (by rfl) (fun h => ?_) (fun h => ?_)
  · simp at h
    refine E.seq ?_
    refine E.reg hr (by simp; rfl) ?_
    refine E.ret ?_
    exact pureK.ret rfl rfl (by rw [hE]; rw [hE] at h; unfold strE; simp only [one]; split <;> rename_i h0 <;> simp only [h0, if_true, if_false] at h ⊢; split <;> rename_i h8 <;> simp only [h8, if_true, if_false] at h ⊢; exact absurd trivial h) (by repeat first | exact sub_refl _ | refine sub_cons rfl ?_)
  simp at h
  rw [hE] at h
  have h0 : l.length ≠ 0 := fun e => by simp [e] at h
  have h8 : l.length ≤ 8 := by
    rcases Nat.lt_or_ge 8 l.length with h8 | h8
    · simp [h0, h8] at h
    · exact h8
  refine E.skip ?_
  refine E.seq ?_
  refine E.seq ?_
  refine E.reg hr (by simp; rfl) ?_
  refine E.block ?_
  refine E.loop ?_
  refine EL.ind (fun i : Nat => { fr := [(1, .pointer (some ⟨11, 0, none⟩)), (23, .slice (some ⟨10, 0, some 0⟩) l.length 0), (24, iv l.length), (25, iv i)], sz := 52, H := [(11, .cells [.slice (some ⟨10, 0, some 0⟩) l.length 0] 32), (10, .row (gcs l) 7)], n := 12, marks := [], vs := [1, 23, 24, 25] }) (fun i => l.length - i) (fun i => i ≤ l.length ∧ ∀ j, j < i → gunChk l j = 0) 0 (Leads.ren [11] rfl rfl rfl ⟨rfl, rfl⟩ (by simp) (by simp)) ⟨Nat.zero_le _, fun j hj => absurd hj (by omega)⟩ (fun _ => rfl) ?_
  intro i ⟨hi, hg⟩
  have hw : IntKind.i64.wrap ((i : Int) + 1) = (i : Int) + 1 := W_in (by omega) (by omega)
  refine E.seq ?_
  refine E.reg hr (by simp; rfl) ?_
  refine E.seq ?_
  refine E.cond (by rfl) (fun h => ?_) (fun h => ?_)
  · simp at h
    have hC := gunChk_at h
    have h7 : i * 7 + 7 ≤ l.length * 7 := by omega
    have hat : ∀ X Y : Blk, gunsAt ((12, X) :: (11, Y) :: (10, .row (gcs l) 7) :: []) ⟨10, 0, some 0⟩ i = some (l.take i) := fun X Y => by
      unfold gunsAt
      simp [gcs_takeN, gunsOf_gcs, show i < 9223372036854775808 by omega, show i * 7 ≤ l.length * 7 by omega]
    refine E.skip ?_
    refine E.seq ?_
    refine E.block ?_
    refine E.seq ?_
    refine E.reg hr (by simp [h, h7, gcs_take h]; rfl) ?_
    refine E.seq ?_
    have hE : firstV [whenV (!nameB l[i].name) 8, whenV (decide (0 ≤ atV l l[i].name i)) 9, l[i].err] = gunChk l i := by
      rw [hC, whenV_name]
      simp [whenV]
    refine E.drawC mixed hr [15, 16, 17] [2, 4, 11, 13, 15, 16, 17] [1, 2, 4, 11, 13, 15, 16, 17] (by kernel_rfl) (by simp [g113, g114, g122, g123, hat, atV_take, intsAt, intsOf, hE, slice_row h]; rfl) ?_
    refine E.seq ?_
    refine E.reg hr (by simp; rfl) ?_
    refine E.cond (by rfl) (fun h1 => ?_) (fun h1 => ?_)
    · simp at h1
      refine E.seq ?_
      refine E.reg hr (by simp; rfl) ?_
      refine E.ret ?_
      exact pureK.ret rfl rfl (by simp [strE_hit (by omega) h hg h1]) (by repeat first | exact sub_refl _ | refine sub_cons rfl ?_)
    · simp at h1
      refine E.skip ?_
      refine E.reg hr (by simp [hw]; rfl) ?_
      exact ⟨i + 1, Leads.ren [11] rfl rfl rfl ⟨rfl, rfl⟩ (by simp) (by simp), ⟨by omega, fun j hj => if e : j = i then e ▸ h1 else hg j (by omega)⟩, by dsimp only; omega⟩
  · simp at h
    refine E.exit ?_
    refine E.seq ?_
    refine E.reg hr (by simp; rfl) ?_
    refine E.ret ?_
    exact pureK.ret rfl rfl (by simp [strE_ok h0 (by omega) fun j hj => hg j (by omega)]) (by repeat first | exact sub_refl _ | refine sub_cons rfl ?_)
def g31 (args : List Value) (H : Heap) (n : Nat) : R := match args with
  | [.agg ⟨[.slice (some ⟨b, 0, some 0⟩) len 0]⟩] => match rowOf H b with
    | some (cs, 7) => match gunsOf cs with
      | some l => if len = l.length ∧ len < 2 ^ 63 then some (iv (strE l), H, n) else none
      | none => none
    | _ => none
  | [.agg ⟨[.slice none 0 0]⟩] => some (iv (strE []), H, n)
  | _ => none
theorem ok31 : EntOk Tryz.prog (31, g31) := by
  intro args H n v H' n' h'
  simp only [g31] at h'
  split at h'
  · rename_i b len
    split at h'
    · rename_i cs hb
      split at h'
      · rename_i l hl
        split at h'
        · rename_i hc
          injection h' with h'; injection h' with e1 e2; injection e2 with e2 e3; subst e1 e2 e3
          obtain ⟨rfl, hlt⟩ := hc
          have := gunsOf_ok _ _ hl
          subst this
          exact AC.liftP rfl (Part.row (fun x => [.agg ⟨[x]⟩]) (by intro φ φ0 s s0 h; simp [denL, den, h]) (by intro p s h; exact ⟨⟨h, trivial⟩, trivial⟩) hb (afL_gcs l) gsz ⟨_, _, w31 l hlt⟩)
        · cases h'
      · cases h'
    · cases h'
  · injection h' with h'; injection h' with e1 e2; injection e2 with e2 e3; subst e1 e2 e3
    exact AC.liftP rfl (Part.plain (by simp) [] (by simp [Seen]) gsz ⟨_, _, w31n⟩)
  · cases h'
end Go.Proofs.YtndlfijfjglkdaaGreatDoor

namespace Go.Proofs.YtndlfijfjglkdaaGreatDoor
open Go Go.Ab Go.Proofs
theorem gcs_succ {l : List Gun} {i : Nat} (h : i < l.length) : gcs (l.take (i + 1)) = gcs (l.take i) ++ l[i].cells := by
  rw [List.take_succ_eq_append_getElem h]
  unfold gcs
  rw [List.flatMap_append]
  simp
abbrev H21 (o : Nat) (l : List Gun) (c : Nat) (s : Value) : Heap := [(13, .cells [s] 32), (12, .cells [.slice none 0 0] 32), (11, .cells [.slice (some ⟨10, o, none⟩) l.length c] 24), (10, .inp o (gcs l))]
def S21 (l : List Gun) (o c : Nat) : Nat → St
  | 0 => { fr := [(2, .pointer (some ⟨12, 0, none⟩)), (3, .pointer (some ⟨13, 0, none⟩)), (7, .slice (some ⟨10, o, none⟩) l.length c), (8, iv l.length), (9, iv 0)], sz := 21, H := H21 o l c (.slice none 0 0), n := 14, marks := [], vs := [2, 3, 7, 8, 9] }
  | i + 1 => { fr := [(2, .pointer (some ⟨12, 0, none⟩)), (3, .pointer (some ⟨13, 0, none⟩)), (7, .slice (some ⟨10, o, none⟩) l.length c), (8, iv l.length), (9, iv (i + 1 : Nat))], sz := 21, H := (14, .ext (gcs (l.take (i + 1))) 95 7) :: H21 o l c (.slice (some ⟨14, 0, some 0⟩) (i + 1) 0), n := 15, marks := [], vs := [2, 3, 7, 8, 9] }
/-- a string of guns in memory of one's own -/
def strQ (l : List Gun) (u : Value) (H : Heap) : Prop := if l = [] then u = nilV else ∃ m, u = .agg ⟨[.slice (some ⟨m, 0, some 0⟩) l.length 0]⟩ ∧ hget H m = some (.ext (gcs l) 95 7) ∧ 11 ≤ m
set_option maxRecDepth 100000 in
theorem w21 (l : List Gun) (o c : Nat) (hne : l ≠ []) (hl : l.length ≤ 4096) : ∃ u H1 n1 H2, AC Tryz.prog 21 [strV o l.length c] [(10, .inp o (gcs l))] 11 u H1 n1 ∧ strQ l u H2 ∧ (af u = false → H1 = H2) := by
  have hr := recT_ok (P := Tryz.prog) (l := []) (by simp)
  have hpos : 0 < l.length := List.length_pos_iff.2 hne
  refine AC.out Tryz.func21 rfl (by kernel_rfl) rfl [2, 3, 7, 8, 9] ?_
  refine E.seq ?_
  refine E.reg hr (by simp; rfl) ?_
  refine E.seq ?_
  refine E.reg hr (by simp; rfl) ?_
  refine E.seq ?_
  refine E.seq ?_
  refine E.reg hr (by simp; rfl) ?_
  refine E.block ?_
  refine E.loop ?_
  refine EL.ind (S21 l o c) (fun i => l.length - i) (fun i => i ≤ l.length) 0 (.less rfl rfl rfl (by simp [S21]) (by simp [S21])) (Nat.zero_le _) (fun i => by cases i <;> rfl) ?_
  intro i hi
  rcases i with _ | i
  · have hw : IntKind.i64.wrap 1 = 1 := W_in (by omega) (by omega)
    refine E.seq ?_
    refine E.reg hr (by simp [S21]; rfl) ?_
    refine E.seq ?_
    refine E.cond (by rfl) (fun h => ?_) (fun h => ?_)
    · simp at h
      have hx := gcs_take hpos
      have hts : gcs (l.take 1) = l[0].cells := by rw [gcs_succ hpos]; simp [gcs]
      have h7 : 7 ≤ l.length * 7 := by omega
      rw [Nat.zero_mul, List.drop_zero] at hx
      refine E.skip ?_
      refine E.seq ?_
      refine E.block ?_
      refine E.seq ?_
      refine E.reg hr (by simp [hx, hpos, h7]; rfl) ?_
      refine E.reg hr (by simp; rfl) ?_
      refine E.reg hr (by simp [hw]; rfl) ?_
      exact ⟨1, Leads.ren [11, 12, 13, 16] rfl rfl rfl ⟨rfl, rfl⟩ (by simp [S21]) (by simp [S21, hts]), by omega, by dsimp only; omega⟩
    · simp at h
      exact absurd h hne
  · have hw : IntKind.i64.wrap ((i : Int) + 1 + 1) = (i : Int) + 1 + 1 := W_in (by omega) (by omega)
    have hlen : (gcs (l.take (i + 1))).length = (i + 1) * 7 := by rw [gcs_length, List.length_take, Nat.min_eq_left hi]
    have ht : List.take ((i + 1) * 7) (gcs (l.take (i + 1))) = gcs (l.take (i + 1)) := List.take_of_length_le (by omega)
    refine E.seq ?_
    refine E.reg hr (by simp [S21]; rfl) ?_
    refine E.seq ?_
    refine E.cond (by rfl) (fun h => ?_) (fun h => ?_)
    · simp at h
      have hlt : i + 1 < l.length := by omega
      have hltI : (i : Int) + 1 < l.length := by omega
      have hx := gcs_take hlt
      have hts := gcs_succ hlt
      have h7 : (i + 1) * 7 + 7 ≤ l.length * 7 := by omega
      have hno : ¬ (i + 1 + 1) * 7 ≤ (i + 1) * 7 := by omega
      have hsm : (i + 1 + 1) * 64 ≤ 1099511627776 ∧ (i + 1 + 1) * 7 ≤ 1099511627776 ∧ i + 1 + 1 ≤ 1099511627776 := by omega
      refine E.skip ?_
      refine E.seq ?_
      refine E.block ?_
      refine E.seq ?_
      refine E.reg hr (by simp [hx, hltI, h7]; rfl) ?_
      refine E.reg hr (by simp [hsm, ht, hlen, hno]; rfl) ?_
      refine E.reg hr (by simp [hw]; rfl) ?_
      exact ⟨i + 2, Leads.ren [11, 12, 13, 17] rfl rfl rfl ⟨rfl, rfl⟩ (by simp [S21]) (by simp [S21, hts]), by omega, by dsimp only; omega⟩
    · simp at h
      have hal : l.take (i + 1) = l := List.take_of_length_le (by omega)
      have hll : l.length = i + 1 := by omega
      refine E.exit ?_
      refine E.seq ?_
      refine E.reg hr (by simp; rfl) ?_
      refine E.ret ?_
      refine outK.ret rfl rfl ?_
      simp [strQ, hne, hal, hll]
      exact ⟨14, by kernel_rfl, by simp, by omega⟩
end Go.Proofs.YtndlfijfjglkdaaGreatDoor

namespace Go.Proofs.YtndlfijfjglkdaaGreatDoor
open Go Go.Ab Go.Proofs
set_option maxRecDepth 100000 in
theorem w21e (o c : Nat) : AC Tryz.prog 21 [strV o 0 c] [(10, .inp o (gcs []))] 11 nilV [(10, .inp o (gcs []))] 11 := by
  have hr := recT_ok (P := Tryz.prog) (l := []) (by simp)
  refine AC.pure Tryz.func21 rfl (by kernel_rfl) rfl [2, 3, 7, 8, 9] rfl ?_
  refine E.seq ?_
  refine E.reg hr (by simp; rfl) ?_
  refine E.seq ?_
  refine E.reg hr (by simp; rfl) ?_
  refine E.seq ?_
  refine E.seq ?_
  refine E.reg hr (by simp; rfl) ?_
  refine E.block ?_
  refine E.loop ?_
  refine EL.step ?_
  refine E.seq ?_
  refine E.reg hr (by simp; rfl) ?_
  refine E.seq ?_
  refine E.cond (by rfl) (fun h => ?_) (fun h => ?_)
  · simp at h
  refine E.exit ?_
  refine E.seq ?_
  refine E.reg hr (by simp; rfl) ?_
  refine E.ret ?_
  exact pureK.ret rfl rfl (by simp; kernel_rfl) (by repeat first | exact sub_refl _ | refine sub_cons rfl ?_)
set_option maxRecDepth 100000 in
theorem w21n : AC Tryz.prog 21 [nilV] [] 10 nilV [] 10 := by
  have hr := recT_ok (P := Tryz.prog) (l := []) (by simp)
  refine AC.pure Tryz.func21 rfl (by kernel_rfl) rfl [2, 3, 7, 8, 9] rfl ?_
  refine E.seq ?_
  refine E.reg hr (by simp; rfl) ?_
  refine E.seq ?_
  refine E.reg hr (by simp; rfl) ?_
  refine E.seq ?_
  refine E.seq ?_
  refine E.reg hr (by simp; rfl) ?_
  refine E.block ?_
  refine E.loop ?_
  refine EL.step ?_
  refine E.seq ?_
  refine E.reg hr (by simp; rfl) ?_
  refine E.seq ?_
  refine E.cond (by rfl) (fun h => ?_) (fun h => ?_)
  · simp at h
  refine E.exit ?_
  refine E.seq ?_
  refine E.reg hr (by simp; rfl) ?_
  refine E.ret ?_
  exact pureK.ret rfl rfl (by simp; kernel_rfl) (by repeat first | exact sub_refl _ | refine sub_cons rfl ?_)
def g21 (args : List Value) (H : Heap) (n : Nat) : R := match args with
  | [v] => match strAt H v with
    | some l => if l = [] then some (nilV, H, n) else if l.length ≤ 4096 then some (.agg ⟨[.slice (some ⟨n, 0, some 0⟩) l.length 0]⟩, (n, .ext (gcs l) 95 7) :: H, n + 1) else none
    | none => none
  | _ => none
theorem names_sx (l c : Nat) : Names1 fun m => .slice (some ⟨m, 0, some 0⟩) l c := ⟨fun φ ψ m n h1 h2 => by simp [den, h1, h2], fun p n h => by simp [sc, h]⟩
theorem names_str (l c : Nat) : Names1 fun m => .agg ⟨[.slice (some ⟨m, 0, some 0⟩) l c]⟩ := ⟨fun φ ψ m n h1 h2 => by simp [den, denL, h1, h2], fun p n h => by simp [sc, scL, h]⟩
theorem ok21 : EntOk Tryz.prog (21, g21) := by
  intro args H n v H' n' h'
  simp only [g21] at h'
  split at h'
  · rename_i x
    split at h'
    · rename_i l hx
      split at h'
      · rename_i hl
        subst hl
        injection h' with h'; injection h' with e1 e2; injection e2 with e2 e3; subst e1 e2 e3
        unfold strAt at hx
        split at hx
        · exact AC.liftP (by simp) (Part.plain (by simp) [] (by simp [Seen]) gsz ⟨_, _, w21n⟩)
        · obtain ⟨hf, hc, hlen, hlt⟩ := gunsAt_ok hx
          subst hlen
          exact AC.liftP (by simp) (Part.one (fun s => [.agg ⟨[s]⟩]) (by intro φ φ0 s s0 h; simp [denL, den, h]) (by intro p s h; exact ⟨⟨h, trivial⟩, trivial⟩) hf hc (afL_gcs []) [] (by simp [Seen]) gsz fun c => ⟨_, _, w21e _ c⟩)
        · cases hx
      rename_i hne
      split at h'
      · rename_i hle
        injection h' with h'; injection h' with e1 e2; injection e2 with e2 e3; subst e1 e2 e3
        unfold strAt at hx
        split at hx
        · injection hx with hx; exact absurd hx.symm hne
        · obtain ⟨hf, hc, hlen, hlt⟩ := gunsAt_ok hx
          subst hlen
          refine AC.liftF (names_str _ _) (.inr ⟨_, _, _, rfl, afL_gcs l⟩) (Part.one (fun s => [.agg ⟨[s]⟩]) (by intro φ φ0 s s0 h; simp [denL, den, h]) (by intro p s h; exact ⟨⟨h, trivial⟩, trivial⟩) hf hc (afL_gcs l) [] (by simp [Seen]) gsz fun c => ?_)
          obtain ⟨u, H1, n1, H2, hAC, hq, hh⟩ := w21 l _ c hne hle
          unfold strQ at hq
          rw [if_neg hne] at hq
          obtain ⟨m, hv, hm, hle⟩ := hq
          subst hv
          have := hh rfl
          subst this
          exact ⟨m, _, _, hle, hm, hAC⟩
        · cases hx
      · cases h'
    · cases h'
  · cases h'
end Go.Proofs.YtndlfijfjglkdaaGreatDoor

namespace Go.Proofs.YtndlfijfjglkdaaGreatDoor
open Go Go.Ab Go.Proofs
structure Tim where
  gun : ByteArray
  tick : Int
def Tim.cells (t : Tim) : List Value := [sv t.gun, iv t.tick]
@[simp] theorem Tim.cells_length (t : Tim) : t.cells.length = 2 := rfl
def tcs (l : List Tim) : List Value := l.flatMap Tim.cells
def timsOf : List Value → Option (List Tim)
  | [] => some []
  | .string n :: .int .i64 v :: vs => (timsOf vs).map (⟨n, v⟩ :: ·)
  | _ => none
theorem timsOf_ok (cs : List Value) : ∀ l, timsOf cs = some l → cs = tcs l := by
  fun_induction timsOf cs with
  | case1 => intro l h; injection h with h; subst h; rfl
  | case2 n v vs ih =>
    intro l h
    rw [Option.map_eq_some_iff] at h
    obtain ⟨l', h1, h2⟩ := h
    subst h2
    rw [ih _ h1]
    simp [tcs, Tim.cells]
  | case3 => intro l h; cases h
theorem timsOf_tcs (l : List Tim) : timsOf (tcs l) = some l := by
  induction l with
  | nil => rfl
  | cons g l ih =>
    show timsOf (g.cells ++ tcs l) = _
    simp only [Tim.cells, List.cons_append, List.nil_append, timsOf, ih]
    rfl
@[simp] theorem tcs_length (l : List Tim) : (tcs l).length = l.length * 2 := by
  induction l with
  | nil => rfl
  | cons g l ih =>
    show (g.cells ++ tcs l).length = _
    rw [List.length_append, ih]
    simp
    omega
theorem afL_tcs (l : List Tim) : afL (tcs l) = true := by
  induction l with
  | nil => rfl
  | cons g l ih =>
    show afL (g.cells ++ tcs l) = true
    simp [Tim.cells, afL, ih]
@[simp] theorem renL_tcs (ρ : Nat → Nat) (l : List Tim) : renL ρ (tcs l) = tcs l := by
  rw [renL_eq]
  induction l with
  | nil => rfl
  | cons g l ih =>
    show (g.cells ++ tcs l).map (ren ρ) = g.cells ++ tcs l
    rw [List.map_append, ih]
    rfl
@[simp] theorem scL_tcs (p : Nat → Prop) (l : List Tim) : scL p (tcs l) := scL_af p _ (afL_tcs l)
theorem tcs_drop (l : List Tim) : ∀ i, (tcs l).drop (i * 2) = tcs (l.drop i) := by
  induction l with
  | nil => intro i; simp [tcs]
  | cons g l ih =>
    intro i
    cases i with
    | zero => simp
    | succ i =>
      rw [List.drop_succ_cons, ← ih i, show (i + 1) * 2 = i * 2 + 2 by omega]
      show (g.cells ++ tcs l).drop (i * 2 + 2) = _
      rw [show i * 2 + 2 = g.cells.length + i * 2 by simp; omega, List.drop_append]
      simp
theorem tcs_at {l : List Tim} {i : Nat} (h : i < l.length) : (tcs l).drop (i * 2) = l[i].cells ++ tcs (l.drop (i + 1)) := by
  rw [tcs_drop, List.drop_eq_getElem_cons h]
  rfl
theorem tcs_take {l : List Tim} {i : Nat} (h : i < l.length) : ((tcs l).drop (i * 2)).take 2 = l[i].cells := by
  rw [tcs_at h, List.take_append_of_le_length (by simp)]
  rfl
/-- a slice of timings with a block -/
def timsAt (H : Heap) (a : Addr) (len : Nat) : Option (List Tim) := if flat a && Nat.blt len 9223372036854775808 then (cellsA H a.block a.off (len * 2)).bind timsOf else none
theorem timsAt_ok {H : Heap} {a : Addr} {len : Nat} {l : List Tim} (h : timsAt H a len = some l) : flat a = true ∧ cellsA H a.block a.off (len * 2) = some (tcs l) ∧ l.length = len ∧ l.length < 2 ^ 63 := by
  unfold timsAt at h
  split at h
  · rename_i hf
    rw [Bool.and_eq_true] at hf
    rw [Option.bind_eq_some_iff] at h
    obtain ⟨cs, h1, h2⟩ := h
    have h3 := timsOf_ok _ _ h2
    subst h3
    have h4 := (cellsA_at h1).1
    rw [tcs_length] at h4
    exact ⟨hf.1, h1, by omega, by have := (blt_iff _ _).1 hf.2; omega⟩
  · cases h
end Go.Proofs.YtndlfijfjglkdaaGreatDoor

namespace Go.Proofs.YtndlfijfjglkdaaGreatDoor
open Go Go.Ab Go.Proofs
def strsOf : List Value → Option (List ByteArray)
  | [] => some []
  | .string n :: vs => (strsOf vs).map (n :: ·)
  | _ => none
theorem strsOf_ok : ∀ (cs : List Value) (l : List ByteArray), strsOf cs = some l → cs = l.map sv
  | [], l, h => by simp [strsOf] at h; subst h; rfl
  | c :: cs, l, h => by
    unfold strsOf at h
    split at h
    · rename_i h1; cases h1
    · rename_i n vs h1
      injection h1 with h1 h2; subst h1 h2
      rw [Option.map_eq_some_iff] at h
      obtain ⟨l', h2, h3⟩ := h
      subst h3
      rw [strsOf_ok _ _ h2]; rfl
    · cases h
theorem strsOf_sv : ∀ l : List ByteArray, strsOf (l.map sv) = some l
  | [] => rfl
  | x :: l => by simp [strsOf, strsOf_sv l]
def strsAt (H : Heap) (a : Addr) (len : Nat) : Option (List ByteArray) := if flat a && Nat.blt len 2147483648 then (cellsA H a.block a.off len).bind strsOf else none
theorem strsAt_ok {H : Heap} {a : Addr} {len : Nat} {l : List ByteArray} (h : strsAt H a len = some l) : flat a = true ∧ cellsA H a.block a.off len = some (l.map sv) ∧ l.length = len ∧ l.length < 2 ^ 31 := by
  unfold strsAt at h
  split at h
  · rename_i hf
    rw [Bool.and_eq_true] at hf
    rw [Option.bind_eq_some_iff] at h
    obtain ⟨cs, h1, h2⟩ := h
    have h3 := strsOf_ok _ _ h2
    subst h3
    have h4 := (cellsA_at h1).1
    rw [List.length_map] at h4
    exact ⟨hf.1, h1, h4, by have := (blt_iff _ _).1 hf.2; omega⟩
  · cases h
def hasW (s : ByteArray) (l : List ByteArray) : Bool := l.any fun x => decide (x = s)
theorem hasW_iff {s : ByteArray} {l : List ByteArray} : hasW s l = true ↔ s ∈ l := by
  unfold hasW
  rw [List.any_eq_true]
  exact ⟨fun ⟨x, h1, h2⟩ => of_decide_eq_true h2 ▸ h1, fun h => ⟨s, h, decide_eq_true rfl⟩⟩
theorem w67 (l : List ByteArray) (o c : Nat) (s : ByteArray) (hl : l.length < 2 ^ 31) : AC Tryz.prog 67 [.slice (some ⟨10, o, none⟩) l.length c, sv s] [(10, .inp o (l.map sv))] 11 (.bool (hasW s l)) [(10, .inp o (l.map sv))] 11 := by
  have hr := recT_ok (P := Tryz.prog) (l := []) (by simp)
  refine AC.pure Tryz.func67 rfl (by kernel_rfl) rfl [0, 1, 5] rfl ?_
  refine E.seq ?_
  refine E.reg hr (by simp; rfl) ?_
  refine E.seq ?_
  refine E.seq ?_
  refine E.reg hr (by simp; rfl) ?_
  refine E.block ?_
  refine E.loop ?_
  refine EL.ind (fun i : Nat => { fr := [(0, .slice (some ⟨10, o, none⟩) l.length c), (1, sv s), (5, iv i)], sz := 18, H := [(10, .inp o (l.map sv))], n := 11, marks := [], vs := [0, 1, 5] }) (fun i => l.length - i) (fun i => i ≤ l.length ∧ ∀ j, j < i → ∀ h : j < l.length, l[j] ≠ s) 0 (.less rfl rfl rfl (by simp) (by simp)) ⟨Nat.zero_le _, fun j hj => absurd hj (by omega)⟩ (fun _ => rfl) ?_
  intro i ⟨hi, hg⟩
  have hw : IntKind.i64.wrap ((i : Int) + 1) = (i : Int) + 1 := W_in (by omega) (by omega)
  refine E.seq ?_
  refine E.seq ?_
  refine E.reg hr (by simp; rfl) ?_
  refine E.cond (by rfl) (fun h => ?_) (fun h => ?_)
  · simp at h
    refine E.skip ?_
    refine E.seq ?_
    refine E.block ?_
    refine E.seq ?_
    refine E.reg hr (by simp [h]; rfl) ?_
    refine E.cond (by rfl) (fun h2 => ?_) (fun h2 => ?_)
    · simp at h2
      refine E.seq ?_
      refine E.reg hr (by simp; rfl) ?_
      refine E.ret ?_
      have : hasW s l = true := hasW_iff.2 (h2 ▸ List.getElem_mem h)
      exact pureK.ret rfl rfl (by simp [this]) (by repeat first | exact sub_refl _ | refine sub_cons rfl ?_)
    · simp at h2
      refine E.skip ?_
      refine E.reg hr (by simp [hw]; rfl) ?_
      refine ⟨i + 1, .less rfl rfl rfl (by simp) (by simp), ⟨by omega, fun j hj h3 => ?_⟩, by dsimp only; omega⟩
      rcases Nat.lt_or_ge j i with h4 | h4
      · exact hg j h4 h3
      · obtain rfl : j = i := by omega
        exact h2
  · simp at h
    refine E.exit ?_
    refine E.seq ?_
    refine E.reg hr (by simp; rfl) ?_
    refine E.ret ?_
    have : hasW s l = false := by
      cases hh : hasW s l with
      | false => rfl
      | true =>
        obtain ⟨j, hj, e⟩ := List.getElem_of_mem (hasW_iff.1 hh)
        exact absurd e (hg j (by omega) hj)
    exact pureK.ret rfl rfl (by simp [this]) (by repeat first | exact sub_refl _ | refine sub_cons rfl ?_)
theorem w67n (s : ByteArray) : AC Tryz.prog 67 [.slice none 0 0, sv s] [] 10 (.bool false) [] 10 := by
  have hr := recT_ok (P := Tryz.prog) (l := []) (by simp)
  refine AC.pure Tryz.func67 rfl (by kernel_rfl) rfl [0, 1, 5] rfl ?_
  refine E.seq ?_
  refine E.reg hr (by simp; rfl) ?_
  refine E.seq ?_
  refine E.seq ?_
  refine E.reg hr (by simp; rfl) ?_
  refine E.block ?_
  refine E.loop ?_
  refine EL.step ?_
  refine E.seq ?_
  refine E.seq ?_
  refine E.reg hr (by simp; rfl) ?_
  refine E.cond (by rfl) (fun h => ?_) (fun h => ?_)
  · simp at h
  refine E.exit ?_
  refine E.seq ?_
  refine E.reg hr (by simp; rfl) ?_
  refine E.ret ?_
  exact pureK.ret rfl rfl (by simp) (by repeat first | exact sub_refl _ | refine sub_cons rfl ?_)
def g67 (args : List Value) (H : Heap) (n : Nat) : R := match args with
  | [.slice (some a) len _, .string s] => (strsAt H a len).map fun l => (.bool (hasW s l), H, n)
  | [.slice none 0 0, .string _] => some (.bool false, H, n)
  | _ => none
theorem ok67 : EntOk Tryz.prog (67, g67) := by
  intro args H n v H' n' h'
  simp only [g67] at h'
  split at h'
  · rename_i a len c s
    rw [Option.map_eq_some_iff] at h'
    obtain ⟨l, h1, h2⟩ := h'
    injection h2 with e1 e2; injection e2 with e2 e3; subst e1 e2 e3
    obtain ⟨hf, hc, hlen, hlt⟩ := strsAt_ok h1
    subst hlen
    exact AC.liftP rfl (Part.one (fun x => [x, sv s]) (by intro φ φ0 s s0 h; simp [denL, den, h]) (by intro p s h; exact ⟨h, trivial, trivial⟩) hf hc (afL_sv l) [] (by simp [Seen]) gsz fun c => ⟨_, _, w67 l _ c s hlt⟩)
  · injection h' with h'; injection h' with e1 e2; injection e2 with e2 e3; subst e1 e2 e3
    exact AC.liftP rfl (Part.plain (by simp) [] (by simp [Seen]) gsz ⟨_, _, w67n _⟩)
  · cases h'
def idxV (l : List Int) (x : Int) : Int := match l.findIdx? fun y => decide (x = y) with
  | some i => i
  | none => -1
theorem idxV_hit {l : List Int} {x : Int} {i : Nat} (hi : i < l.length) (hn : x = l[i]) (hb : ∀ j (h : j < l.length), j < i → x ≠ l[j]) : idxV l x = i := by
  have : l.findIdx? (fun y => decide (x = y)) = some i := by
    rw [List.findIdx?_eq_some_iff_getElem]
    exact ⟨hi, by simp [hn], fun j hj => by simpa using hb j (by omega) hj⟩
  unfold idxV
  rw [this]
theorem idxV_miss {l : List Int} {x : Int} (hb : ∀ j (h : j < l.length), x ≠ l[j]) : idxV l x = -1 := by
  have : l.findIdx? (fun y => decide (x = y)) = none := by
    rw [List.findIdx?_eq_none_iff]
    intro y hy
    obtain ⟨j, hj, rfl⟩ := List.getElem_of_mem hy
    simpa using hb j hj
  unfold idxV
  rw [this]
theorem idxV_mem (l : List Int) (x : Int) : decide (0 ≤ idxV l x) = decide (x ∈ l) := by
  by_cases h : x ∈ l
  · have : (l.findIdx? fun y => decide (x = y)).isSome = true := by
      rw [List.findIdx?_isSome]
      exact List.any_eq_true.2 ⟨x, h, by simp⟩
    obtain ⟨i, hi⟩ := Option.isSome_iff_exists.1 this
    have : 0 ≤ idxV l x := by unfold idxV; rw [hi]; simp
    simp [this, h]
  · have : idxV l x = -1 := idxV_miss fun j hj e => h (e ▸ List.getElem_mem hj)
    simp [this, h]
theorem w239 (l : List Int) (o c : Nat) (x : Int) (hl : l.length < 2 ^ 31) : AC Tryz.prog 239 [.slice (some ⟨10, o, none⟩) l.length c, iv x] [(10, .inp o (l.map iv))] 11 (iv (idxV l x)) [(10, .inp o (l.map iv))] 11 := by
  have hr := recT_ok (P := Tryz.prog) (l := []) (by simp)
  refine AC.pure Tryz.func239 rfl (by kernel_rfl) rfl [0, 1, 7, 8] rfl ?_
  refine E.seq ?_
  refine E.reg hr (by simp; rfl) ?_
  refine E.seq ?_
  refine E.seq ?_
  refine E.reg hr (by simp; rfl) ?_
  refine E.block ?_
  refine E.loop ?_
  refine EL.ind (fun i : Nat => { fr := [(0, .slice (some ⟨10, o, none⟩) l.length c), (1, iv x), (7, iv l.length), (8, iv i)], sz := 19, H := [(10, .inp o (l.map iv))], n := 11, marks := [], vs := [0, 1, 7, 8] }) (fun i => l.length - i) (fun i => i ≤ l.length ∧ ∀ j, j < i → ∀ h : j < l.length, x ≠ l[j]) 0 (.less rfl rfl rfl (by simp) (by simp)) ⟨Nat.zero_le _, fun j hj => absurd hj (by omega)⟩ (fun _ => rfl) ?_
  intro i ⟨hi, hg⟩
  have hw : IntKind.i64.wrap ((i : Int) + 1) = (i : Int) + 1 := W_in (by omega) (by omega)
  refine E.seq ?_
  refine E.reg hr (by simp; rfl) ?_
  refine E.seq ?_
  refine E.cond (by rfl) (fun h => ?_) (fun h => ?_)
  · simp at h
    refine E.skip ?_
    refine E.seq ?_
    refine E.block ?_
    refine E.seq ?_
    refine E.reg hr (by simp; rfl) ?_
    refine E.seq ?_
    refine E.reg hr (by simp [h]; rfl) ?_
    refine E.cond (by rfl) (fun h2 => ?_) (fun h2 => ?_)
    · simp at h2
      refine E.seq ?_
      refine E.reg hr (by simp; rfl) ?_
      refine E.ret ?_
      exact pureK.ret rfl rfl (by simp [idxV_hit h h2 fun j h3 h4 => hg j h4 h3]) (by repeat first | exact sub_refl _ | refine sub_cons rfl ?_)
    · simp at h2
      refine E.skip ?_
      refine E.reg hr (by simp [hw]; rfl) ?_
      refine ⟨i + 1, .less rfl rfl rfl (by simp) (by simp), ⟨by omega, fun j hj h3 => ?_⟩, by dsimp only; omega⟩
      rcases Nat.lt_or_ge j i with h4 | h4
      · exact hg j h4 h3
      · obtain rfl : j = i := by omega
        exact h2
  · simp at h
    refine E.exit ?_
    refine E.seq ?_
    refine E.reg hr (by simp; rfl) ?_
    refine E.ret ?_
    exact pureK.ret rfl rfl (by simp [idxV_miss (l := l) (x := x) fun j h3 => hg j (by omega) h3]) (by repeat first | exact sub_refl _ | refine sub_cons rfl ?_)
def g239 (args : List Value) (H : Heap) (n : Nat) : R := match args with
  | [.slice (some a) len _, .int .i64 x] => (intsAt H a len).map fun l => (iv (idxV l x), H, n)
  | _ => none
theorem ok239 : EntOk Tryz.prog (239, g239) := by
  intro args H n v H' n' h'
  simp only [g239] at h'
  split at h'
  · rename_i a len c x
    rw [Option.map_eq_some_iff] at h'
    obtain ⟨l, h1, h2⟩ := h'
    injection h2 with e1 e2; injection e2 with e2 e3; subst e1 e2 e3
    obtain ⟨hf, hc, hlen, hlt⟩ := intsAt_ok h1
    subst hlen
    exact AC.liftP rfl (Part.one (fun s => [s, iv x]) (by intro φ φ0 s s0 h; simp [denL, den, h]) (by intro p s h; exact ⟨h, trivial, trivial⟩) hf hc (afL_iv l) [] (by simp [Seen]) gsz fun c => ⟨_, _, w239 l _ c x hlt⟩)
  · cases h'
theorem w199 (l : List Int) (o c : Nat) (x : Int) (hl : l.length < 2 ^ 31) : AC Tryz.prog 199 [.slice (some ⟨10, o, none⟩) l.length c, iv x] [(10, .inp o (l.map iv))] 11 (.bool (decide (x ∈ l))) [(10, .inp o (l.map iv))] 11 := by
  have hr := recT_ok (P := Tryz.prog) (l := [(239, g239)]) (by simp only [List.forall_mem_cons]; exact ⟨ok239, by simp⟩)
  have ht : intsAt [(10, .inp o (l.map iv))] ⟨10, o, none⟩ l.length = some l := by
    unfold intsAt
    simp [List.take_of_length_le, intsOf_iv, show l.length < 2147483648 by omega]
  refine AC.pure Tryz.func199 rfl (by kernel_rfl) rfl [4, 1, 0] rfl ?_
  refine E.seq ?_
  refine E.reg hr (by simp; rfl) ?_
  refine E.seq ?_
  refine E.reg hr (by simp [g239, ht]; rfl) ?_
  refine E.ret ?_
  exact pureK.ret rfl rfl (by simp [idxV_mem]) (by repeat first | exact sub_refl _ | refine sub_cons rfl ?_)
def g199 (args : List Value) (H : Heap) (n : Nat) : R := match args with
  | [.slice (some a) len _, .int .i64 x] => (intsAt H a len).map fun l => (.bool (decide (x ∈ l)), H, n)
  | _ => none
theorem ok199 : EntOk Tryz.prog (199, g199) := by
  intro args H n v H' n' h'
  simp only [g199] at h'
  split at h'
  · rename_i a len c x
    rw [Option.map_eq_some_iff] at h'
    obtain ⟨l, h1, h2⟩ := h'
    injection h2 with e1 e2; injection e2 with e2 e3; subst e1 e2 e3
    obtain ⟨hf, hc, hlen, hlt⟩ := intsAt_ok h1
    subst hlen
    exact AC.liftP rfl (Part.one (fun s => [s, iv x]) (by intro φ φ0 s s0 h; simp [denL, den, h]) (by intro p s h; exact ⟨h, trivial, trivial⟩) hf hc (afL_iv l) [] (by simp [Seen]) gsz fun c => ⟨_, _, w199 l _ c x hlt⟩)
  · cases h'
def validB (l : List Gun) : Bool := shortS l && decide (l.length ≤ 6) && decide (strE l = 0)
theorem w52n : AC Tryz.prog 52 [nilV] [] 10 (.bool (validB [])) [] 10 := by
  have hr := recT_ok (P := Tryz.prog) (l := [(19, gStr fun l => .bool (shortS l)), (24, gStr fun l => iv (strE l))]) (by simp only [List.forall_mem_cons]; exact ⟨ok19, ok24, by simp⟩)
  refine AC.pure Tryz.func52 rfl (by kernel_rfl) rfl [2, 1, 0] rfl ?_
  refine E.seq ?_
  refine E.reg hr (by simp; rfl) ?_
  refine E.seq ?_
  refine E.reg hr (by simp [gStr, strAt, shortS, strE]; rfl) ?_
  refine E.ret ?_
  exact pureK.ret rfl rfl (by simp [validB, shortS, strE]) (by repeat first | exact sub_refl _ | refine sub_cons rfl ?_)
theorem w52 (l : List Gun) (o c : Nat) (hl : l.length < 2 ^ 63) : AC Tryz.prog 52 [strV o l.length c] [(10, .inp o (gcs l))] 11 (.bool (validB l)) [(10, .inp o (gcs l))] 11 := by
  have hr := recT_ok (P := Tryz.prog) (l := [(19, gStr fun l => .bool (shortS l)), (24, gStr fun l => iv (strE l))]) (by simp only [List.forall_mem_cons]; exact ⟨ok19, ok24, by simp⟩)
  have hat : gunsAt [(11, .cells [.slice (some ⟨10, o, none⟩) l.length c] 24), (10, .inp o (gcs l))] ⟨10, o, none⟩ l.length = some l := by
    unfold gunsAt
    simp [List.take_of_length_le, gunsOf_gcs, show l.length < 9223372036854775808 by omega]
  refine AC.pure Tryz.func52 rfl (by kernel_rfl) rfl [2, 1, 0] rfl ?_
  refine E.seq ?_
  refine E.reg hr (by simp; rfl) ?_
  refine E.seq ?_
  rcases Bool.eq_false_or_eq_true (shortS l) with h1 | h1
  · by_cases h6 : (l.length : Int) ≤ 6
    · refine E.reg hr (by simp [gStr, strAt, hat, h1, h6]; rfl) ?_
      refine E.ret ?_
      exact pureK.ret rfl rfl (by simp [validB, h1, show l.length ≤ 6 by omega]) (by repeat first | exact sub_refl _ | refine sub_cons rfl ?_)
    · refine E.reg hr (by simp [gStr, strAt, hat, h1, h6, undefV]; rfl) ?_
      refine E.ret ?_
      exact pureK.ret rfl rfl (by simp [validB, h1, show ¬ l.length ≤ 6 by omega]) (by repeat first | exact sub_refl _ | refine sub_cons rfl ?_)
  · refine E.reg hr (by simp [gStr, strAt, hat, h1, undefV]; rfl) ?_
    refine E.ret ?_
    exact pureK.ret rfl rfl (by simp [validB, h1]) (by repeat first | exact sub_refl _ | refine sub_cons rfl ?_)
theorem ok52 : EntOk Tryz.prog (52, gStr fun l => .bool (validB l)) := okStr (fun _ => rfl) w52n w52
end Go.Proofs.YtndlfijfjglkdaaGreatDoor

namespace Go.Proofs.YtndlfijfjglkdaaGreatDoor
open Go Go.Ab Go.Proofs
def repQ (k : Nat) (u : Value) (H : Heap) : Bool := match u with
  | .slice (some ⟨m, 0, none⟩) l c => l == k && c == k && Nat.ble 11 m && (match hget H m with
    | some (.cells cs 3) => intsOf cs == some (List.replicate k (-1))
    | _ => false)
  | _ => false
noncomputable def repRun (k : Nat) : Bool := match (ev Tryz.prog (fun _ _ _ _ => none) 30).call 198 [.slice (some ⟨10, 0, none⟩) 1 1, iv k] [(10, .inp 0 [iv (-1)])] 11 with
  | some (u, H, _) => repQ k u H
  | none => false
theorem repAll : ([1, 2, 3, 4, 5, 6, 7, 8].all repRun) = true := by kernel_rfl
theorem w198 (k : Nat) (h1 : 1 ≤ k) (h8 : k ≤ 8) : ∃ m H1 n1, 11 ≤ m ∧ hget H1 m = some (.cells ((List.replicate k (-1 : Int)).map iv) 3) ∧ AC Tryz.prog 198 [.slice (some ⟨10, 0, none⟩) 1 1, iv k] [(10, .inp 0 [iv (-1)])] 11 (.slice (some ⟨m, 0, none⟩) k k) H1 n1 := by
  have hk : repRun k = true := List.all_eq_true.1 repAll k (by simp; omega)
  unfold repRun at hk
  split at hk
  · rename_i u H n he
    have hAC := (ev_sound mixed (O := fun _ _ _ _ => none) (fun _ _ _ _ _ _ _ h => by cases h) 30).call _ _ _ _ _ _ _ he
    unfold repQ at hk
    split at hk
    · rename_i m l c
      simp only [Bool.and_eq_true, beq_iff_eq] at hk
      obtain ⟨⟨⟨rfl, rfl⟩, hm⟩, hh⟩ := hk
      split at hh
      · rename_i cs hg
        have := intsOf_ok _ _ (eq_of_beq hh)
        subst this
        exact ⟨m, H, n, Nat.le_of_ble_eq_true hm, hg, hAC⟩
      · cases hh
    · cases hk
  · cases hk
def g198 (args : List Value) (H : Heap) (n : Nat) : R := match args with
  | [.slice (some ⟨b, 0, none⟩) 1 1, .int .i64 k] => if intsAt H ⟨b, 0, none⟩ 1 = some [-1] ∧ 1 ≤ k ∧ k ≤ 8 then some (.slice (some ⟨n, 0, none⟩) k.toNat k.toNat, (n, .cells ((List.replicate k.toNat (-1 : Int)).map iv) 3) :: H, n + 1) else none
  | _ => none
theorem names_fl (l c : Nat) : Names1 fun m => .slice (some ⟨m, 0, none⟩) l c := ⟨fun φ ψ m n h1 h2 => by simp [den, h1], fun p n h => by simp [sc, h]⟩
theorem ok198 : EntOk Tryz.prog (198, g198) := by
  intro args H n v H' n' h'
  simp only [g198] at h'
  split at h'
  · rename_i b k
    split at h'
    · rename_i hc
      obtain ⟨hi, h1, h8⟩ := hc
      injection h' with h'; injection h' with e1 e2; injection e2 with e2 e3; subst e1 e2 e3
      obtain ⟨_, hcs, _, _⟩ := intsAt_ok hi
      obtain ⟨k', rfl⟩ := Int.eq_ofNat_of_zero_le (show 0 ≤ k by omega)
      refine AC.liftF (names_fl _ _) (.inl ⟨_, _, rfl, afL_iv _⟩) (Part.gen [⟨b, .inp 0 [iv (-1)]⟩] gsz ?_ fun φ => ⟨[.slice (some ⟨10, 0, none⟩) 1 1, iv k'], fun φ0 h => ?_, ?_, ?_⟩)
      · intro v hv
        rw [List.mem_singleton] at hv
        subst hv
        exact ⟨⟨_, hcs⟩, rfl⟩
      · have := (h 0 _ rfl).1
        simp at this
        simp [denL, den, this]
      · simp [scL, sc]
      · obtain ⟨m, H1, n1, h2, h3, h4⟩ := w198 k' (by omega) (by omega)
        exact ⟨m, H1, n1, h2, h3, h4⟩
    · cases h'
  · cases h'
end Go.Proofs.YtndlfijfjglkdaaGreatDoor

namespace Go.Proofs.YtndlfijfjglkdaaGreatDoor
open Go Go.Ab Go.Proofs
def tickE (l : List Gun) (o : List Int) (t : Tim) : Int :=
  if atV l t.gun l.length < 0 then 10 else firstV [whenV (decide (0 ≤ (o[(atV l t.gun l.length).toNat]?).getD 0)) 9, withinV t.tick 0 100000]
def ticksF (l : List Gun) : List Int → List Tim → Option (List Int) × Int
  | o, [] => (some o, whenV (decide ((-1 : Int) ∈ o)) 32)
  | o, t :: ts => if tickE l o t = 0 then ticksF l (o.set (atV l t.gun l.length).toNat t.tick) ts else (none, tickE l o t)
def timsV (l : List Gun) (ts : List Tim) : Option (List Int) × Int := ticksF l (List.replicate l.length (-1)) ts
theorem atV_neg {l : List Gun} {s : ByteArray} {k : Nat} (h : atV l s k < 0) : atV l s k = -1 := by
  unfold atV at h ⊢
  split <;> simp_all
  omega
theorem atV_lt {l : List Gun} {s : ByteArray} (h : 0 ≤ atV l s l.length) : ∃ k : Nat, atV l s l.length = k ∧ k < l.length := by
  unfold atV at h ⊢
  split
  · rename_i i hi
    refine ⟨i, rfl, ?_⟩
    rw [List.take_length] at hi
    obtain ⟨h1, _⟩ := List.findIdx?_eq_some_iff_getElem.1 hi
    exact h1
  · rename_i hi
    rw [hi] at h
    simp at h
def tkQ (r : Option (List Int) × Int) (v : Value) (H : Heap) : Prop := match r with
  | (none, e) => v = .tuple #[.slice none 0 0, iv e]
  | (some o, e) => ∃ m, v = .tuple #[.slice (some ⟨m, 0, none⟩) o.length o.length, iv e] ∧ hget H m = some (.cells (o.map iv) 3) ∧ 12 ≤ m
@[simp] theorem renL_replicate (ρ : Nat → Nat) (n : Nat) (v : Value) : renL ρ (List.replicate n v) = List.replicate n (ren ρ v) := by rw [renL_eq, List.map_replicate]
@[simp] theorem scL_replicate_iv (p : Nat → Prop) (n : Nat) (x : Int) : scL p (List.replicate n (iv x)) := by
  have := scL_iv p (List.replicate n x)
  rwa [List.map_replicate] at this
@[simp] theorem renL_set (ρ : Nat → Nat) (l : List Value) (k : Nat) (v : Value) : renL ρ (l.set k v) = (renL ρ l).set k (ren ρ v) := by rw [renL_eq, renL_eq, List.map_set]
@[simp] theorem scL_set_iv (p : Nat → Prop) (l : List Int) (k : Nat) (x : Int) : scL p ((l.map iv).set k (iv x)) := by
  have := scL_iv p (l.set k x)
  rwa [List.map_set] at this
abbrev Hk (L o c o2 : Nat) (l : List Gun) (ts : List Tim) : Heap := [(12, .cells [.slice (some ⟨10, o, none⟩) L c] 32), (11, .inp o2 (tcs ts)), (10, .inp o (gcs l))]
set_option maxRecDepth 100000 in
theorem w137 (l : List Gun) (ts : List Tim) (o c o2 c2 : Nat) (h1 : 1 ≤ l.length) (h8 : l.length ≤ 8) (hts : ts.length < 2 ^ 63) : ∃ u H1 n1 H2, AC Tryz.prog 137 [strV o l.length c, .slice (some ⟨11, o2, none⟩) ts.length c2] [(11, .inp o2 (tcs ts)), (10, .inp o (gcs l))] 12 u H1 n1 ∧ tkQ (timsV l ts) u H2 ∧ (af u = false → H1 = H2) := by
  have hr := recT_ok (P := Tryz.prog) (l := [(113, g113), (114, g114), (122, g122), (138, g138), (198, g198), (199, g199)]) (by simp only [List.forall_mem_cons]; exact ⟨ok113, ok114, ok122, ok138, ok198, ok199, by simp⟩)
  refine AC.out Tryz.func137 rfl (by kernel_rfl) rfl [2, 6, 16, 17, 18] ?_
  refine E.seq ?_
  refine E.reg hr (by simp; rfl) ?_
  refine E.seq ?_
  have hL : (1 : Int) ≤ l.length ∧ (l.length : Int) ≤ 8 := by omega
  refine E.reg hr (by simp [g198, hL, intsAt, intsOf]; rfl) ?_
  refine E.seq ?_
  refine E.seq ?_
  refine E.reg hr (by simp; rfl) ?_
  refine E.block ?_
  refine E.loop ?_
  refine EL.ind (fun x : Nat × List Int => { fr := [(2, .pointer (some ⟨12, 0, none⟩)), (6, .slice (some ⟨13, 0, none⟩) l.length l.length), (16, .slice (some ⟨11, o2, none⟩) ts.length c2), (17, iv ts.length), (18, iv x.1)], sz := 53, H := (13, .cells (x.2.map iv) 3) :: Hk l.length o c o2 l ts, n := 14, marks := [], vs := [2, 6, 16, 17, 18] }) (fun x => ts.length - x.1) (fun x => x.1 ≤ ts.length ∧ x.2.length = l.length ∧ timsV l ts = ticksF l x.2 (ts.drop x.1)) (0, List.replicate l.length (-1)) (Leads.ren [12, 14] rfl rfl rfl ⟨rfl, rfl⟩ (by simp) (by simp)) ⟨Nat.zero_le _, by simp, rfl⟩ (fun _ => rfl) ?_
  intro ⟨i, out⟩ ⟨hi, hlen, hg⟩
  dsimp only at hi hlen hg
  refine E.seq ?_
  refine E.reg hr (by simp; rfl) ?_
  refine E.seq ?_
  refine E.cond (by rfl) (fun h => ?_) (fun h => ?_)
  · simp at h
    have hw : IntKind.i64.wrap ((i : Int) + 1) = (i : Int) + 1 := W_in (by omega) (by omega)
    have h7 : i * 2 + 2 ≤ ts.length * 2 := by omega
    have hat : ∀ X Y Z W : Blk, gunsAt ((14, X) :: (13, Y) :: (12, Z) :: (11, W) :: (10, .inp o (gcs l)) :: []) ⟨10, o, none⟩ l.length = some l := fun X Y Z W => by
      unfold gunsAt
      simp [List.take_of_length_le, gunsOf_gcs, show l.length < 9223372036854775808 by omega]
    have hdrop : ts.drop i = ts[i] :: ts.drop (i + 1) := List.drop_eq_getElem_cons h
    rw [hdrop] at hg
    refine E.skip ?_
    refine E.seq ?_
    refine E.block ?_
    refine E.seq ?_
    refine E.reg hr (by simp [h, h7, tcs_take h, Tim.cells]; rfl) ?_
    refine E.seq ?_
    by_cases hneg : atV l ts[i].gun l.length < 0
    · have hn := atV_neg hneg
      refine E.reg hr (by simp [g122, hat, hn]; rfl) ?_
      refine E.seq ?_
      refine E.seq ?_
      refine E.reg hr (by simp; rfl) ?_
      refine E.cond (by rfl) (fun h2 => ?_) (fun h2 => ?_)
      · refine E.seq ?_
        refine E.reg hr (by simp; rfl) ?_
        refine E.ret ?_
        refine outK.ret rfl rfl ?_
        have : timsV l ts = (none, 10) := by rw [hg]; simp [ticksF, tickE, hneg]
        simp [tkQ, this]
      · simp at h2
    · obtain ⟨k, hk, hkl⟩ := atV_lt (Int.not_lt.1 hneg)
      have hko : k < out.length := by omega
      have hte : firstV [whenV (decide (0 ≤ out[k])) 9, withinV ts[i].tick 0 100000] = tickE l out ts[i] := by
        unfold tickE
        rw [hk, if_neg (by omega)]
        simp [hko]
      refine E.reg hr (by simp [g122, hat, hk]; rfl) ?_
      refine E.seq ?_
      refine E.seq ?_
      refine E.reg hr (by simp; rfl) ?_
      refine E.cond (by rfl) (fun h2 => ?_) (fun h2 => ?_)
      · simp at h2
        omega
      simp at h2
      refine E.skip ?_
      refine E.seq ?_
      refine E.seq ?_
      refine E.drawC mixed hr [8, 9, 10] [5, 8, 9, 10] [3, 5, 8, 9, 10] (by kernel_rfl) (by simp [g113, g114, g138, intsAt, intsOf, hkl, hko, hte]; rfl) ?_
      refine E.seq ?_
      refine E.reg hr (by simp; rfl) ?_
      refine E.cond (by rfl) (fun h3 => ?_) (fun h3 => ?_)
      · simp at h3
        refine E.seq ?_
        refine E.reg hr (by simp; rfl) ?_
        refine E.ret ?_
        refine outK.ret rfl rfl ?_
        have : timsV l ts = (none, tickE l out ts[i]) := by rw [hg]; simp [ticksF, h3]
        simp [tkQ, this]
      · simp at h3
        refine E.skip ?_
        have hko1 : k + 1 ≤ out.length := by omega
        have hset : List.take k (out.map iv) ++ iv ts[i].tick :: List.drop (k + 1) (out.map iv) = (out.map iv).set k (iv ts[i].tick) := by
          rw [List.set_eq_take_append_cons_drop, if_pos (by simpa using hko)]
        refine E.reg hr (by simp [hkl, hko1, hset]; rfl) ?_
        refine E.reg hr (by simp [hw]; rfl) ?_
        refine ⟨(i + 1, out.set k ts[i].tick), Leads.ren [12, 13] rfl rfl rfl ⟨rfl, rfl⟩ (by simp) (by simp), ⟨by dsimp only; omega, by simp [hlen], ?_⟩, by dsimp only; omega⟩
        rw [hg]
        simp [ticksF, h3, hk]
  · simp at h
    have hall : ts.drop i = [] := List.drop_eq_nil_of_le (by omega)
    rw [hall] at hg
    have hin : ∀ W : Heap, intsAt ((13, .cells (out.map iv) 3) :: W) ⟨13, 0, none⟩ l.length = some out := fun W => by
      unfold intsAt
      simp [List.take_of_length_le, hlen, intsOf_iv, show l.length < 2147483648 by omega]
    refine E.exit ?_
    refine E.seq ?_
    refine E.reg hr (by simp [g199, g114, hin]; rfl) ?_
    refine E.ret ?_
    refine outK.ret rfl rfl ?_
    simp [tkQ, hg, ticksF, hlen]
def gTk (r : Option (List Int) × Int) (H : Heap) (n : Nat) : R := match r with
  | (none, e) => some (.tuple #[.slice none 0 0, iv e], H, n)
  | (some o, e) => some (.tuple #[.slice (some ⟨n, 0, none⟩) o.length o.length, iv e], (n, .cells (o.map iv) 3) :: H, n + 1)
def g137 (args : List Value) (H : Heap) (n : Nat) : R := match args with
  | [.agg ⟨[.slice (some a) len _]⟩, .slice (some a2) len2 _] => match gunsAt H a len, timsAt H a2 len2 with
    | some l, some ts => if 1 ≤ l.length ∧ l.length ≤ 8 then gTk (timsV l ts) H n else none
    | _, _ => none
  | _ => none
theorem ok137 : EntOk Tryz.prog (137, g137) := by
  intro args H n v H' n' h'
  simp only [g137] at h'
  split at h'
  · rename_i a len c0 a2 len2 c02
    split at h'
    · rename_i l ts hl ht
      split at h'
      · rename_i hc
        obtain ⟨hf, hcl, hlen, hlt⟩ := gunsAt_ok hl
        obtain ⟨hf2, hct, hlen2, hlt2⟩ := timsAt_ok ht
        subst hlen hlen2
        have hp := fun (R : List Value → Heap → Nat → Prop) (hR : _) => Part.two (P := Tryz.prog) (H := H) (n := n) (R := R) (len := l.length) (cap := c0) (len2 := ts.length) (cap2 := c02) (fun s u => [.agg ⟨[s]⟩, u]) (by intro φ φ0 s s0 u u0 h h'; simp [denL, den, h, h']) (by intro p s u h h'; exact ⟨⟨h, trivial⟩, h', trivial⟩) hf hcl (afL_gcs l) hf2 hct (afL_tcs ts) [] (by simp [Seen]) gsz hR
        have hw := fun c c2 => w137 l ts a.off c a2.off c2 hc.1 hc.2 hlt2
        unfold gTk at h'
        split at h'
        · rename_i e hv
          injection h' with h'; injection h' with e1 e2; injection e2 with e2 e3; subst e1 e2 e3
          refine AC.liftP (by simp) (hp _ fun c c2 => ?_)
          obtain ⟨u, H1, n1, H2, hAC, hq, _⟩ := hw c c2
          rw [hv] at hq
          unfold tkQ at hq
          dsimp only at hq
          subst hq
          exact ⟨_, _, hAC⟩
        · rename_i out e hv
          injection h' with h'; injection h' with e1 e2; injection e2 with e2 e3; subst e1 e2 e3
          refine AC.liftF (vf := fun m => .tuple #[.slice (some ⟨m, 0, none⟩) out.length out.length, iv e]) ⟨fun φ ψ m n h1 h2 => by simp [den, denL, h1], fun p n h => by simp [sc, scL, h]⟩ (.inl ⟨_, _, rfl, afL_iv out⟩) (hp _ fun c c2 => ?_)
          obtain ⟨u, H1, n1, H2, hAC, hq, hh⟩ := hw c c2
          rw [hv] at hq
          unfold tkQ at hq
          dsimp only at hq
          obtain ⟨m, hu, hm, hle⟩ := hq
          subst hu
          have := hh (by simp)
          subst this
          exact ⟨m, _, _, hle, hm, hAC⟩
      · cases h'
    · cases h'
  · cases h'
end Go.Proofs.YtndlfijfjglkdaaGreatDoor
