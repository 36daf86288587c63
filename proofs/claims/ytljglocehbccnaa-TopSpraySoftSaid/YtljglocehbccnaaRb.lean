/-
Walks through the guns and their soft start, and the plain law behind them (no condition).
-/
import Derived.Test.YtljglocehbccnaaRa
import Derived.Test.YtljglocehbccnaaAf
import Derived.Test.YtljglocehbccnaaAg
namespace Go.Proofs.Ytljglocehbccnaa.Gn
open Go Go.Ab Go.Proofs
def gcs (l : List Gun) : List Value := l.flatMap Gun.cells
def gunsOf : List Value → Option (List Gun)
  | [] => some []
  | .string n :: .int .i64 v :: .int .i64 x :: .int .i64 y :: .int .i64 d :: .int .i64 lo :: .int .i64 hi :: vs => (gunsOf vs).map (⟨n, v, x, y, d, lo, hi⟩ :: ·)
  | _ => none
theorem gunsOf_ok (cs : List Value) : ∀ l, gunsOf cs = some l → cs = gcs l := by
  fun_induction gunsOf cs with
  | case1 => intro l h; injection h with h; subst h; rfl
  | case2 n v x y d lo hi vs ih =>
    intro l h
    rw [Option.map_eq_some_iff] at h
    obtain ⟨l', h1, h2⟩ := h
    subst h2
    rw [ih _ h1]
    simp [gcs]
  | case3 => intro l h; cases h
theorem gunsOf_gcs (l : List Gun) : gunsOf (gcs l) = some l := by
  induction l with
  | nil => rfl
  | cons g l ih =>
    show gunsOf (g.cells ++ gcs l) = _
    simp only [Gun.cells, List.cons_append, List.nil_append, gunsOf, ih]
    rfl
@[simp] theorem gcs_length (l : List Gun) : (gcs l).length = l.length * 7 := by
  induction l with
  | nil => rfl
  | cons g l ih =>
    show (g.cells ++ gcs l).length = _
    rw [List.length_append, ih]
    simp
    omega
theorem afL_gcs (l : List Gun) : afL (gcs l) = true := by
  induction l with
  | nil => rfl
  | cons g l ih =>
    show afL (g.cells ++ gcs l) = true
    simp [Gun.cells, afL, ih]
@[simp] theorem renL_gcs (ρ : Nat → Nat) (l : List Gun) : renL ρ (gcs l) = gcs l := by
  rw [renL_eq]
  induction l with
  | nil => rfl
  | cons g l ih =>
    show (g.cells ++ gcs l).map (ren ρ) = g.cells ++ gcs l
    rw [List.map_append, ih]
    rfl
@[simp] theorem scL_gcs (p : Nat → Prop) (l : List Gun) : scL p (gcs l) := scL_af p _ (afL_gcs l)
theorem gcs_takeN (l : List Gun) : ∀ i, (gcs l).take (i * 7) = gcs (l.take i) := by
  induction l with
  | nil => intro i; simp [gcs]
  | cons g l ih =>
    intro i
    cases i with
    | zero => simp [gcs]
    | succ i =>
      rw [List.take_succ_cons, show (i + 1) * 7 = i * 7 + 7 by omega]
      show (g.cells ++ gcs l).take (i * 7 + 7) = g.cells ++ gcs (l.take i)
      rw [show i * 7 + 7 = g.cells.length + i * 7 by simp; omega, List.take_length_add_append, ih]
theorem gcs_drop (l : List Gun) : ∀ i, (gcs l).drop (i * 7) = gcs (l.drop i) := by
  induction l with
  | nil => intro i; simp [gcs]
  | cons g l ih =>
    intro i
    cases i with
    | zero => simp
    | succ i =>
      rw [List.drop_succ_cons, ← ih i, show (i + 1) * 7 = i * 7 + 7 by omega]
      show (g.cells ++ gcs l).drop (i * 7 + 7) = _
      rw [show i * 7 + 7 = g.cells.length + i * 7 by simp; omega, List.drop_append]
      simp
theorem gcs_at {l : List Gun} {i : Nat} (h : i < l.length) : (gcs l).drop (i * 7) = l[i].cells ++ gcs (l.drop (i + 1)) := by
  rw [gcs_drop, List.drop_eq_getElem_cons h]
  rfl
theorem gcs_get {l : List Gun} {i : Nat} (h : i < l.length) (k : Nat) (hk : k < 7) : (gcs l)[i * 7 + k]? = l[i].cells[k]? := by
  have := congrArg (·[k]?) (gcs_at h)
  simp only [List.getElem?_drop] at this
  rw [this, List.getElem?_append_left (by simpa using hk)]
theorem gcs_name {l : List Gun} {i : Nat} (h : i < l.length) : (gcs l)[i * 7]? = some (sv l[i].name) := gcs_get h 0 (by omega)
theorem gcs_nameE {l : List Gun} {i : Nat} (h : i < l.length) (h2 : i * 7 < (gcs l).length) : (gcs l)[i * 7] = sv l[i].name := by
  have := gcs_name h
  rw [List.getElem?_eq_getElem h2] at this
  exact Option.some.inj this
theorem gcs_take {l : List Gun} {i : Nat} (h : i < l.length) : ((gcs l).drop (i * 7)).take 7 = l[i].cells := by
  rw [gcs_at h, List.take_append_of_le_length (by simp)]
  rfl
/-- a slice of guns with a block -/
def gunsAt (H : Heap) (a : Addr) (len : Nat) : Option (List Gun) := if flat a && Nat.blt len 9223372036854775808 then (cellsA H a.block a.off (len * 7)).bind gunsOf else none
theorem gunsAt_ok {H : Heap} {a : Addr} {len : Nat} {l : List Gun} (h : gunsAt H a len = some l) : flat a = true ∧ cellsA H a.block a.off (len * 7) = some (gcs l) ∧ l.length = len ∧ l.length < 2 ^ 63 := by
  unfold gunsAt at h
  split at h
  · rename_i hf
    rw [Bool.and_eq_true] at hf
    rw [Option.bind_eq_some_iff] at h
    obtain ⟨cs, h1, h2⟩ := h
    have h3 := gunsOf_ok _ _ h2
    subst h3
    have h4 := (cellsA_at h1).1
    rw [gcs_length] at h4
    exact ⟨hf.1, h1, by omega, by have := (blt_iff _ _).1 hf.2; omega⟩
  · cases h
end Go.Proofs.Ytljglocehbccnaa.Gn
namespace Go.Proofs.Ytljglocehbccnaa.Gn
open Go Go.Ab Go.Proofs
/-- where a name first stands among the first k guns, or -1 -/
def atV (l : List Gun) (s : ByteArray) (k : Nat) : Int := match (l.take k).findIdx? fun g => decide (g.name = s) with
  | some i => i
  | none => -1
theorem atV_hit {l : List Gun} {s : ByteArray} {k i : Nat} (hk : k ≤ l.length) (hi : i < k) (hn : l[i].name = s) (hb : ∀ j (_ : j < i), l[j].name ≠ s) : atV l s k = i := by
  have : (l.take k).findIdx? (fun g => decide (g.name = s)) = some i := by
    rw [List.findIdx?_eq_some_iff_getElem]
    refine ⟨by simp; omega, by simp [hn], fun j hj => by simpa using hb j hj⟩
  unfold atV
  rw [this]
theorem atV_miss {l : List Gun} {s : ByteArray} {k : Nat} (hk : k ≤ l.length) (hb : ∀ j (_ : j < k), l[j].name ≠ s) : atV l s k = -1 := by
  have : (l.take k).findIdx? (fun g => decide (g.name = s)) = none := by
    rw [List.findIdx?_eq_none_iff]
    intro x hx
    obtain ⟨j, hj, rfl⟩ := List.getElem_of_mem hx
    have hj2 : j < k := by rw [List.length_take] at hj; omega
    simpa using hb j hj2
  unfold atV
  rw [this]
abbrev strV (o len c : Nat) : Value := .agg ⟨[.slice (some ⟨10, o, none⟩) len c]⟩
set_option maxRecDepth 100000 in
theorem w37 (l : List Gun) (o c : Nat) (s : ByteArray) (k : Nat) (hl : l.length < 2 ^ 63) (hk : k ≤ l.length) : AC Try.prog 37 [strV o l.length c, sv s, iv k] [(10, .inp o (gcs l))] 11 (iv (atV l s k)) [(10, .inp o (gcs l))] 11 := by
  have hr := recT_ok (P := Try.prog) (l := []) (by simp)
  refine AC.pure Try.func37 rfl (by kernel_rfl) rfl [1, 2, 3, 7] rfl ?_
  refine E.seq ?_
  refine E.reg hr (by simp; rfl) ?_
  refine E.seq ?_
  refine E.seq ?_
  refine E.reg hr (by simp; rfl) ?_
  refine E.block ?_
  refine E.loop ?_
  refine EL.ind (fun i : Nat => { fr := [(1, sv s), (2, iv k), (3, .pointer (some ⟨11, 0, none⟩)), (7, iv i)], sz := 22, H := [(11, .cells [.slice (some ⟨10, o, none⟩) l.length c] 58), (10, .inp o (gcs l))], n := 12, marks := [], vs := [1, 2, 3, 7] }) (fun i => k - i) (fun i => i ≤ k ∧ ∀ j, j < i → ∀ h : j < l.length, l[j].name ≠ s) 0 (.less rfl rfl rfl (by simp) (by simp)) ⟨Nat.zero_le _, fun j hj => absurd hj (by omega)⟩ (fun _ => rfl) ?_
  intro i ⟨hi, hg⟩
  refine E.seq ?_
  refine E.seq ?_
  refine E.reg hr (by simp; rfl) ?_
  refine E.cond (by rfl) (fun h => ?_) (fun h => ?_)
  · simp at h
    have hlt : i < l.length := by omega
    have hw : IntKind.i64.wrap ((i : Int) + 1) = (i : Int) + 1 := W_in (by omega) (by omega)
    refine E.skip ?_
    refine E.seq ?_
    refine E.block ?_
    refine E.seq ?_
    refine E.reg hr (by simp [hlt, gcs_nameE hlt]; rfl) ?_
    refine E.cond (by rfl) (fun h => ?_) (fun h => ?_)
    · simp at h
      refine E.seq ?_
      refine E.reg hr (by simp; rfl) ?_
      refine E.ret ?_
      exact pureK.ret rfl rfl (by simp [atV_hit hk (by omega) h fun j hj => hg j hj (by omega)]) (by repeat first | exact sub_refl _ | refine sub_cons rfl ?_)
    · simp at h
      refine E.skip ?_
      refine E.reg hr (by simp [hw]; rfl) ?_
      exact ⟨i + 1, .less rfl rfl rfl (by simp) (by simp), ⟨by omega, fun j hj h2 => if e : j = i then by subst e; exact h else hg j (by omega) h2⟩, by dsimp only; omega⟩
  · simp at h
    refine E.exit ?_
    refine E.seq ?_
    refine E.reg hr (by simp; rfl) ?_
    refine E.ret ?_
    exact pureK.ret rfl rfl (by simp [atV_miss (s := s) hk fun j hj => hg j (by omega) (by omega)]) (by repeat first | exact sub_refl _ | refine sub_cons rfl ?_)
end Go.Proofs.Ytljglocehbccnaa.Gn
namespace Go.Proofs.Ytljglocehbccnaa.Gn
open Go Go.Ab Go.Proofs
/-- a string of guns, as a struct of one slice -/
def strAt (H : Heap) : Value → Option (List Gun)
  | .agg ⟨[.slice none 0 0]⟩ => some []
  | .agg ⟨[.slice (some a) len _]⟩ => gunsAt H a len
  | _ => none
abbrev nilV : Value := .agg ⟨[.slice none 0 0]⟩
def shortS (l : List Gun) : Bool := l.all (fun g => decide (g.name.size ≤ 40)) && (decide (l.length ≤ 6) || decide (l.length = 9))
theorem w13n : AC Try.prog 13 [nilV] [] 10 (.bool (shortS [])) [] 10 := by
  have hr := recT_ok (P := Try.prog) (l := []) (by simp)
  refine AC.pure Try.func13 rfl (by kernel_rfl) rfl [1, 3] rfl ?_
  refine E.seq ?_
  refine E.reg hr (by simp; rfl) ?_
  refine E.seq ?_
  refine E.seq ?_
  refine E.reg hr (by simp; rfl) ?_
  refine E.block ?_
  refine E.loop ?_
  refine EL.step ?_
  refine E.seq ?_
  refine E.seq ?_
  refine E.reg hr (by simp; rfl) ?_
  refine E.cond (by rfl) (fun h => ?_) (fun h => ?_)
  · simp at h
  refine E.exit ?_
  refine E.seq ?_
  refine E.reg hr (by simp; rfl) ?_
  refine E.ret ?_
  exact pureK.ret rfl rfl (by simp [shortS]) (by repeat first | exact sub_refl _ | refine sub_cons rfl ?_)
set_option maxRecDepth 100000 in
theorem w13 (l : List Gun) (o c : Nat) (hl : l.length < 2 ^ 63) : AC Try.prog 13 [strV o l.length c] [(10, .inp o (gcs l))] 11 (.bool (shortS l)) [(10, .inp o (gcs l))] 11 := by
  have hr := recT_ok (P := Try.prog) (l := []) (by simp)
  refine AC.pure Try.func13 rfl (by kernel_rfl) rfl [1, 3] rfl ?_
  refine E.seq ?_
  refine E.reg hr (by simp; rfl) ?_
  refine E.seq ?_
  refine E.seq ?_
  refine E.reg hr (by simp; rfl) ?_
  refine E.block ?_
  refine E.loop ?_
  refine EL.ind (fun i : Nat => { fr := [(1, .pointer (some ⟨11, 0, none⟩)), (3, iv i)], sz := 29, H := [(11, .cells [.slice (some ⟨10, o, none⟩) l.length c] 58), (10, .inp o (gcs l))], n := 12, marks := [], vs := [1, 3] }) (fun i => l.length - i) (fun i => i ≤ l.length ∧ ∀ j, j < i → ∀ h : j < l.length, l[j].name.size ≤ 40) 0 (.less rfl rfl rfl (by simp) (by simp)) ⟨Nat.zero_le _, fun j hj => absurd hj (by omega)⟩ (fun _ => rfl) ?_
  intro i ⟨hi, hg⟩
  refine E.seq ?_
  refine E.seq ?_
  refine E.reg hr (by simp; rfl) ?_
  refine E.cond (by rfl) (fun h => ?_) (fun h => ?_)
  · simp at h
    have hw : IntKind.i64.wrap ((i : Int) + 1) = (i : Int) + 1 := W_in (by omega) (by omega)
    refine E.skip ?_
    refine E.seq ?_
    refine E.block ?_
    refine E.seq ?_
    refine E.reg hr (by simp [h, gcs_nameE h]; rfl) ?_
    refine E.cond (by rfl) (fun h2 => ?_) (fun h2 => ?_)
    · simp at h2
      refine E.seq ?_
      refine E.reg hr (by simp; rfl) ?_
      refine E.ret ?_
      have : shortS l = false := by
        unfold shortS
        rw [show l.all (fun g => decide (g.name.size ≤ 40)) = false from List.all_eq_false.2 ⟨l[i], List.getElem_mem h, by simp; omega⟩, Bool.false_and]
      exact pureK.ret rfl rfl (by simp [this]) (by repeat first | exact sub_refl _ | refine sub_cons rfl ?_)
    · simp at h2
      refine E.skip ?_
      refine E.reg hr (by simp [hw]; rfl) ?_
      exact ⟨i + 1, .less rfl rfl rfl (by simp) (by simp), ⟨by omega, fun j hj h3 => if e : j = i then by subst e; omega else hg j (by omega) h3⟩, by dsimp only; omega⟩
  · simp at h
    refine E.exit ?_
    have hall : shortS l = (decide (l.length ≤ 6) || decide (l.length = 9)) := by
      unfold shortS
      rw [show l.all (fun g => decide (g.name.size ≤ 40)) = true from List.all_eq_true.2 fun x hx => by obtain ⟨j, hj, rfl⟩ := List.getElem_of_mem hx; simpa using hg j (by omega) hj, Bool.true_and]
    refine E.seq ?_
    by_cases h6 : (l.length : Int) ≤ 6
    · refine E.reg hr (by simp [h6, undefV]; rfl) ?_
      refine E.ret ?_
      exact pureK.ret rfl rfl (by simp [hall]; omega) (by repeat first | exact sub_refl _ | refine sub_cons rfl ?_)
    · have h6' : ¬ l.length ≤ 6 := by omega
      have e9 : ((l.length : Int) = 9) = (l.length = 9) := propext (by omega)
      refine E.reg hr (by simp [h6]; rfl) ?_
      refine E.ret ?_
      exact pureK.ret rfl rfl (by simp [hall, h6', e9]) (by repeat first | exact sub_refl _ | refine sub_cons rfl ?_)
/-- a function of one string of guns -/
def gStr (F : List Gun → Value) (args : List Value) (H : Heap) (n : Nat) : R := match args with
  | [v] => (strAt H v).map fun l => (F l, H, n)
  | _ => none
theorem okStr {f : FuncId} {F : List Gun → Value} (hF : ∀ l, af (F l) = true) (hnil : AC Try.prog f [nilV] [] 10 (F []) [] 10)
    (h : ∀ l o c, l.length < 2 ^ 63 → AC Try.prog f [strV o l.length c] [(10, .inp o (gcs l))] 11 (F l) [(10, .inp o (gcs l))] 11) : EntOk Try.prog (f, gStr F) := by
  intro args H n v H' n' h'
  simp only [gStr] at h'
  split at h'
  · rw [Option.map_eq_some_iff] at h'
    obtain ⟨l, h1, h2⟩ := h'
    injection h2 with e1 e2; injection e2 with e2 e3; subst e1 e2 e3
    unfold strAt at h1
    split at h1
    · injection h1 with h1; subst h1
      exact AC.liftP (hF _) (Part.plainN (by simp) [] (by simp [Seen]) gszN ⟨_, _, hnil⟩)
    · obtain ⟨hf, hc, hlen, hlt⟩ := gunsAt_ok h1
      subst hlen
      exact AC.liftP (hF _) (Part.oneN (fun s => [.agg ⟨[s]⟩]) (by intro φ φ0 s s0 h; simp [denL, den, h]) (by intro p s h; exact ⟨⟨h, trivial⟩, trivial⟩) hf hc (afL_gcs l) [] (by simp [Seen]) gszN fun c => ⟨_, _, h l _ c hlt⟩)
    · cases h1
  · cases h'
theorem ok13 : EntOk Try.prog (13, gStr fun l => .bool (shortS l)) := okStr (fun _ => rfl) w13n w13
end Go.Proofs.Ytljglocehbccnaa.Gn
namespace Go.Proofs.Ytljglocehbccnaa.Gn
open Go Go.Ab Go.Proofs
attribute [simp] run_vcall_tmp vcallF target
abbrev Hf (o : Nat) (l : List Gun) (s : ByteArray) : Heap := [(11, .cells [sv s] 9), (10, .inp o (gcs l))]
theorem w73 (g : Gun) (o : Nat) (l : List Gun) (s : ByteArray) : AC Try.prog 73 [.agg ⟨g.cells⟩, .pointer (some ⟨11, 0, none⟩)] (Hf o l s) 12 (.bool (decide (g.name = s))) (Hf o l s) 12 := by
  have hr := recT_ok (P := Try.prog) (l := []) (by simp)
  refine AC.pure Try.func73 rfl (by kernel_rfl) rfl [] rfl ?_
  refine E.seq ?_
  refine E.reg hr (by simp; rfl) ?_
  refine E.seq ?_
  refine E.reg hr (by simp; rfl) ?_
  refine E.ret ?_
  exact pureK.ret rfl rfl (by simp) (by repeat first | exact sub_refl _ | refine sub_cons rfl ?_)
set_option maxRecDepth 100000 in
theorem w72 (l : List Gun) (o c : Nat) (s : ByteArray) (hl : l.length < 2 ^ 63) : AC Try.prog 72 [.slice (some ⟨10, o, none⟩) l.length c, .func (.func 73) #[] #[.pointer (some ⟨11, 0, none⟩)]] (Hf o l s) 12 (iv (atV l s l.length)) (Hf o l s) 12 := by
  have hr := recT_ok (P := Try.prog) (l := []) (by simp)
  refine AC.pure Try.func72 rfl (by kernel_rfl) rfl [0, 1, 7, 8] rfl ?_
  refine E.seq ?_
  refine E.reg hr (by simp; rfl) ?_
  refine E.seq ?_
  refine E.seq ?_
  refine E.reg hr (by simp; rfl) ?_
  refine E.block ?_
  refine E.loop ?_
  refine EL.ind (fun i : Nat => { fr := [(0, .slice (some ⟨10, o, none⟩) l.length c), (1, .func (.func 73) #[] #[.pointer (some ⟨11, 0, none⟩)]), (7, iv l.length), (8, iv i)], sz := 19, H := Hf o l s, n := 12, marks := [], vs := [0, 1, 7, 8] }) (fun i => l.length - i) (fun i => i ≤ l.length ∧ ∀ j, j < i → ∀ h : j < l.length, l[j].name ≠ s) 0 (.less rfl rfl rfl (by simp) (by simp)) ⟨Nat.zero_le _, fun j hj => absurd hj (by omega)⟩ (fun _ => rfl) ?_
  intro i ⟨hi, hg⟩
  refine E.seq ?_
  refine E.reg hr (by simp; rfl) ?_
  refine E.seq ?_
  refine E.cond (by rfl) (fun h => ?_) (fun h => ?_)
  · simp at h
    have hw : IntKind.i64.wrap ((i : Int) + 1) = (i : Int) + 1 := W_in (by omega) (by omega)
    refine E.skip ?_
    refine E.seq ?_
    refine E.block ?_
    refine E.seq ?_
    refine E.reg hr (by simp; rfl) ?_
    refine E.seq ?_
    have hcall : (recV Try.prog (fun _ _ _ => none) (fun _ _ _ _ => some (.bool (decide (l[i].name = s)), Hf o l s, 12))).call 73 [.agg l[i].cells.toArray, .pointer (some ⟨11, 0, none⟩)] (Hf o l s) 12 = some (.bool (decide (l[i].name = s)), Hf o l s, 12) := recV_call rfl (w73 l[i] o l s)
    have h7 : i * 7 + 7 ≤ l.length * 7 := by omega
    refine E.reg (r := recV Try.prog (fun _ _ _ => none) (fun _ _ _ _ => some (.bool (decide (l[i].name = s)), Hf o l s, 12))) recV_ok (by simp [h, gcs_take h, h7, hcall]; rfl) ?_
    refine E.cond (by rfl) (fun h2 => ?_) (fun h2 => ?_)
    · simp at h2
      refine E.seq ?_
      refine E.reg hr (by simp; rfl) ?_
      refine E.ret ?_
      exact pureK.ret rfl rfl (by simp [atV_hit (Nat.le_refl _) h h2 fun j hj => hg j hj (by omega)]) (by repeat first | exact sub_refl _ | refine sub_cons rfl ?_)
    · simp at h2
      refine E.skip ?_
      refine E.reg hr (by simp [hw]; rfl) ?_
      exact ⟨i + 1, .less rfl rfl rfl (by simp) (by simp), ⟨by omega, fun j hj h3 => if e : j = i then by subst e; exact h2 else hg j (by omega) h3⟩, by dsimp only; omega⟩
  · simp at h
    refine E.exit ?_
    refine E.seq ?_
    refine E.reg hr (by simp; rfl) ?_
    refine E.ret ?_
    exact pureK.ret rfl rfl (by simp [atV_miss (s := s) (Nat.le_refl l.length) fun j hj => hg j (by omega) (by omega)]) (by repeat first | exact sub_refl _ | refine sub_cons rfl ?_)
theorem w50 (l : List Gun) (o c : Nat) (s : ByteArray) (hl : l.length < 2 ^ 63) : AC Try.prog 50 [.slice (some ⟨10, o, none⟩) l.length c, sv s] [(10, .inp o (gcs l))] 11 (iv (atV l s l.length)) [(10, .inp o (gcs l))] 11 := by
  have hr := recT_ok (P := Try.prog) (l := []) (by simp)
  refine AC.pure Try.func50 rfl (by kernel_rfl) rfl [] rfl ?_
  refine E.seq ?_
  refine E.reg hr (by simp; rfl) ?_
  refine E.seq ?_
  have hcall := recV_call (P := Try.prog) (C := fun _ _ _ => none) (F := fun _ _ _ _ => some (iv (atV l s l.length), Hf o l s, 12)) rfl (w72 l o c s hl)
  refine E.reg (r := recV Try.prog (fun _ _ _ => none) (fun _ _ _ _ => some (iv (atV l s l.length), Hf o l s, 12))) recV_ok (by simp [opMakefunc, hcall]; rfl) ?_
  refine E.ret ?_
  exact pureK.ret rfl rfl (by simp) (by repeat first | exact sub_refl _ | refine sub_cons rfl ?_)
def g50 (args : List Value) (H : Heap) (n : Nat) : R := match args with
  | [.slice (some a) len _, .string s] => (gunsAt H a len).map fun l => (iv (atV l s len), H, n)
  | _ => none
theorem ok50 : EntOk Try.prog (50, g50) := by
  intro args H n v H' n' h'
  simp only [g50] at h'
  split at h'
  · rename_i a len c s
    rw [Option.map_eq_some_iff] at h'
    obtain ⟨l, h1, h2⟩ := h'
    injection h2 with e1 e2; injection e2 with e2 e3; subst e1 e2 e3
    obtain ⟨hf, hc, hlen, hlt⟩ := gunsAt_ok h1
    subst hlen
    exact AC.liftP rfl (Part.oneN (fun x => [x, sv s]) (by intro φ φ0 s s0 h; simp [denL, den, h]) (by intro p s h; exact ⟨h, trivial, trivial⟩) hf hc (afL_gcs l) [] (by simp [Seen]) gszN fun c => ⟨_, _, w50 l _ c s hlt⟩)
  · cases h'
def g37 (args : List Value) (H : Heap) (n : Nat) : R := match args with
  | [.agg ⟨[.slice (some a) len _]⟩, .string s, .int .i64 k] => if 0 ≤ k ∧ k.toNat ≤ len then (gunsAt H a len).map fun l => (iv (atV l s k.toNat), H, n) else none
  | _ => none
theorem ok37 : EntOk Try.prog (37, g37) := by
  intro args H n v H' n' h'
  simp only [g37] at h'
  split at h'
  · rename_i a len c s k
    split at h'
    · rename_i hk
      rw [Option.map_eq_some_iff] at h'
      obtain ⟨l, h1, h2⟩ := h'
      injection h2 with e1 e2; injection e2 with e2 e3; subst e1 e2 e3
      obtain ⟨hf, hc, hlen, hlt⟩ := gunsAt_ok h1
      subst hlen
      obtain ⟨k', rfl⟩ := Int.eq_ofNat_of_zero_le hk.1
      exact AC.liftP rfl (Part.oneN (fun x => [.agg ⟨[x]⟩, sv s, iv k']) (by intro φ φ0 s s0 h; simp [denL, den, h]) (by intro p s h; exact ⟨⟨h, trivial⟩, trivial, trivial, trivial⟩) hf hc (afL_gcs l) [] (by simp [Seen]) gszN fun c => ⟨_, _, w37 l _ c s k' hlt hk.2⟩)
    · cases h'
  · cases h'
end Go.Proofs.Ytljglocehbccnaa.Gn
namespace Go.Proofs.Ytljglocehbccnaa.Gn
open Go Go.Ab Go.Proofs
theorem firstV_map_hit {f : Nat → Int} {n i : Nat} (hi : i < n) (hb : ∀ j, j < i → f j = 0) (hne : f i ≠ 0) : firstV ((List.range n).map f) = f i := by
  have e : n = i + (n - i - 1 + 1) := by omega
  rw [e, List.range_add, List.map_append, firstV_append, if_pos ((firstV_zero _).2 fun x hx => by
    obtain ⟨j, hj, rfl⟩ := List.mem_map.1 hx
    exact hb j (List.mem_range.1 hj))]
  rw [List.range_succ_eq_map]
  simp [firstV, hne]
theorem firstV_map_zero {f : Nat → Int} {n : Nat} (hb : ∀ j, j < n → f j = 0) : firstV ((List.range n).map f) = 0 :=
  (firstV_zero _).2 fun x hx => by
    obtain ⟨j, hj, rfl⟩ := List.mem_map.1 hx
    exact hb j (List.mem_range.1 hj)
/-- what is wrong with the gun at a place, its name against the names before it -/
def gunChk (l : List Gun) (i : Nat) : Int := match l[i]? with
  | some g => firstV [nameE g.name, if 0 ≤ atV l g.name i then 9 else 0, g.err]
  | none => 0
/-- what is wrong with a string of guns -/
def strE (l : List Gun) : Int := if l.length = 0 then 12 else if 8 < l.length then 5 else firstV ((List.range l.length).map (gunChk l))
theorem strE_hit {l : List Gun} {i : Nat} (h8 : l.length ≤ 8) (hi : i < l.length) (hb : ∀ j, j < i → gunChk l j = 0) (hne : gunChk l i ≠ 0) : strE l = gunChk l i := by
  unfold strE
  rw [if_neg (by omega), if_neg (by omega), firstV_map_hit hi hb hne]
theorem strE_ok {l : List Gun} (h0 : l.length ≠ 0) (h8 : l.length ≤ 8) (hb : ∀ j, j < l.length → gunChk l j = 0) : strE l = 0 := by
  unfold strE
  rw [if_neg h0, if_neg (by omega), firstV_map_zero hb]
theorem gunChk_at {l : List Gun} {i : Nat} (h : i < l.length) : gunChk l i = firstV [nameE l[i].name, if 0 ≤ atV l l[i].name i then 9 else 0, l[i].err] := by
  unfold gunChk
  rw [List.getElem?_eq_getElem h]
theorem w14n : AC Try.prog 14 [nilV] [] 10 (iv (strE [])) [] 10 := by
  have hr := recT_ok (P := Try.prog) (l := []) (by simp)
  refine AC.pure Try.func14 rfl (by kernel_rfl) rfl [] rfl ?_
  refine E.seq ?_
  refine E.reg hr (by simp; rfl) ?_
  refine E.seq ?_
  refine E.seq ?_
  refine E.reg hr (by simp; rfl) ?_
  refine E.cond (by rfl) (fun h => ?_) (fun h => ?_)
  rotate_left
  · simp at h
  refine E.seq ?_
  refine E.reg hr (by simp; rfl) ?_
  refine E.ret ?_
  exact pureK.ret rfl rfl (by simp [strE]) (by repeat first | exact sub_refl _ | refine sub_cons rfl ?_)
set_option maxRecDepth 100000 in
theorem w14 (l : List Gun) (o c : Nat) (hl : l.length < 2 ^ 63) : AC Try.prog 14 [strV o l.length c] [(10, .inp o (gcs l))] 11 (iv (strE l)) [(10, .inp o (gcs l))] 11 := by
  have hr := recT_ok (P := Try.prog) (l := [(36, gSI nameE), (37, g37), (39, g56), (40, g1 fun a => withinV a 0 4), (38, g55)]) (by simp only [List.forall_mem_cons]; exact ⟨ok36, ok37, ok39, ok40, ok38, by simp⟩)
  refine AC.pure Try.func14 rfl (by kernel_rfl) rfl [1, 3] rfl ?_
  refine E.seq ?_
  refine E.reg hr (by simp; rfl) ?_
  refine E.seq ?_
  refine E.seq ?_
  refine E.reg hr (by simp; rfl) ?_
  refine E.cond (by rfl) (fun h => ?_) (fun h0 => ?_)
  · simp at h
    refine E.seq ?_
    refine E.reg hr (by simp; rfl) ?_
    refine E.ret ?_
    exact pureK.ret rfl rfl (by simp [strE, h]) (by repeat first | exact sub_refl _ | refine sub_cons rfl ?_)
  simp at h0
  refine E.skip ?_
  refine E.seq ?_
  refine E.seq ?_
  refine E.reg hr (by simp; rfl) ?_
  refine E.cond (by rfl) (fun h => ?_) (fun h8 => ?_)
  · simp at h
    refine E.seq ?_
    refine E.reg hr (by simp; rfl) ?_
    refine E.ret ?_
    exact pureK.ret rfl rfl (by simp [strE, h0, show 8 < l.length by omega]) (by repeat first | exact sub_refl _ | refine sub_cons rfl ?_)
  simp at h8
  refine E.skip ?_
  refine E.seq ?_
  refine E.seq ?_
  refine E.reg hr (by simp; rfl) ?_
  refine E.block ?_
  refine E.loop ?_
  refine EL.ind (fun i : Nat => { fr := [(1, .pointer (some ⟨11, 0, none⟩)), (3, iv i)], sz := 73, H := [(11, .cells [.slice (some ⟨10, o, none⟩) l.length c] 58), (10, .inp o (gcs l))], n := 12, marks := [], vs := [1, 3] }) (fun i => l.length - i) (fun i => i ≤ l.length ∧ ∀ j, j < i → gunChk l j = 0) 0 (.less rfl rfl rfl (by simp) (by simp)) ⟨Nat.zero_le _, fun j hj => absurd hj (by omega)⟩ (fun _ => rfl) ?_
  intro i ⟨hi, hg⟩
  have hw : IntKind.i64.wrap ((i : Int) + 1) = (i : Int) + 1 := W_in (by omega) (by omega)
  refine E.seq ?_
  refine E.seq ?_
  refine E.reg hr (by simp; rfl) ?_
  refine E.cond (by rfl) (fun h => ?_) (fun h => ?_)
  · simp at h
    have hC := gunChk_at h
    have h7 : i * 7 + 7 ≤ l.length * 7 := by omega
    have hat : gunsAt [(12, .cells l[i].cells 75), (11, .cells [.slice (some ⟨10, o, none⟩) l.length c] 58), (10, .inp o (gcs l))] ⟨10, o, none⟩ l.length = some l := by
      unfold gunsAt
      simp [List.take_of_length_le, gunsOf_gcs, show l.length < 9223372036854775808 by omega]
    refine E.skip ?_
    refine E.seq ?_
    refine E.block ?_
    refine E.seq ?_
    refine E.reg hr (by simp [h, h7, gcs_take h]; rfl) ?_
    refine E.seq ?_
    refine E.seq ?_
    refine E.reg hr (by simp; rfl) ?_
    refine E.seq ?_
    refine E.reg hr (by simp; rfl) ?_
    refine E.cond (by rfl) (fun h1 => ?_) (fun h1 => ?_)
    · simp at h1
      refine E.seq ?_
      refine E.reg hr (by simp; rfl) ?_
      refine E.ret ?_
      have : gunChk l i = nameE l[i].name := by rw [hC]; simp [firstV, h1]
      exact pureK.ret rfl rfl (by simp [strE_hit (by omega) h hg (by rw [this]; exact h1), this]) (by repeat first | exact sub_refl _ | refine sub_cons rfl ?_)
    simp at h1
    refine E.skip ?_
    refine E.seq ?_
    refine E.seq ?_
    refine E.reg hr (by simp [g37, hi, hat]; rfl) ?_
    refine E.cond (by rfl) (fun h2 => ?_) (fun h2 => ?_)
    · simp at h2
      refine E.seq ?_
      refine E.reg hr (by simp; rfl) ?_
      refine E.ret ?_
      have : gunChk l i = 9 := by rw [hC]; simp [firstV, h1, h2]
      exact pureK.ret rfl rfl (by simp [strE_hit (by omega) h hg (by rw [this]; omega), this]) (by repeat first | exact sub_refl _ | refine sub_cons rfl ?_)
    simp at h2
    refine E.skip ?_
    refine E.seq ?_
    refine E.seq ?_
    have hE : gunChk l i = l[i].err := by rw [hC]; simp [firstV, h1, show ¬ 0 ≤ atV l l[i].name i by omega]; omega
    have hn : firstV [withinV l[i].v 1 64, withinV l[i].x (-1000) 1000, withinV l[i].y (-1000) 1000, withinV l[i].d 0 16, withinV l[i].lo 0 4, withinV l[i].hi 0 4] = l[i].nums := rfl
    refine E.drawK mixed hr (by simp [g56, g55, intsAt, intsOf, hn]; rfl) (by kernel_rfl) (by kernel_rfl) ?_
    refine E.seq ?_
    refine E.reg hr (by simp; rfl) ?_
    refine E.cond (by rfl) (fun h3 => ?_) (fun h3 => ?_)
    · simp at h3
      refine E.seq ?_
      refine E.reg hr (by simp; rfl) ?_
      refine E.ret ?_
      have : gunChk l i = l[i].nums := by rw [hE, Gun.err_eq, if_neg h3]
      exact pureK.ret rfl rfl (by simp [strE_hit (by omega) h hg (by rw [this]; exact h3), this]) (by repeat first | exact sub_refl _ | refine sub_cons rfl ?_)
    simp at h3
    refine E.skip ?_
    refine E.seq ?_
    refine E.reg hr (by simp; rfl) ?_
    refine E.cond (by rfl) (fun h4 => ?_) (fun h4 => ?_)
    · simp at h4
      refine E.seq ?_
      refine E.reg hr (by simp; rfl) ?_
      refine E.ret ?_
      have : gunChk l i = 11 := by rw [hE, Gun.err_eq, if_pos h3, if_pos h4]
      exact pureK.ret rfl rfl (by simp [strE_hit (by omega) h hg (by rw [this]; omega), this]) (by repeat first | exact sub_refl _ | refine sub_cons rfl ?_)
    simp at h4
    refine E.skip ?_
    refine E.reg hr (by simp [hw]; rfl) ?_
    have : gunChk l i = 0 := by rw [hE, Gun.err_eq, if_pos h3, if_neg (by omega)]
    exact ⟨i + 1, Leads.ren [11] rfl rfl rfl ⟨rfl, rfl⟩ (by simp) (by simp), ⟨by omega, fun j hj => if e : j = i then e ▸ this else hg j (by omega)⟩, by dsimp only; omega⟩
  · simp at h
    refine E.exit ?_
    refine E.seq ?_
    refine E.reg hr (by simp; rfl) ?_
    refine E.ret ?_
    exact pureK.ret rfl rfl (by simp [strE_ok (fun e => h0 (List.length_eq_zero_iff.1 e)) (by omega) fun j hj => hg j (by omega)]) (by repeat first | exact sub_refl _ | refine sub_cons rfl ?_)
theorem ok14 : EntOk Try.prog (14, gStr fun l => iv (strE l)) := okStr (fun _ => rfl) w14n w14
end Go.Proofs.Ytljglocehbccnaa.Gn

namespace Go.Proofs.Ytljglocehbccnaa.Gn
open Go Go.Ab Go.Proofs
theorem atV_take (l : List Gun) (s : ByteArray) (i : Nat) : atV (l.take i) s i = atV l s i := by
  unfold atV
  rw [List.take_take, Nat.min_self]
theorem whenV_name (s : ByteArray) : whenV (!nameB s) 8 = nameE s := by
  unfold whenV nameE
  cases nameB s <;> rfl
theorem slice_row {fr : Fr} {H : Heap} {n b i : Nat} {x y : Operand} {l : List Gun} (hi : i < l.length) (hx : evO Try.prog fr x = some (.slice (some ⟨b, 0, some 0⟩) l.length 0)) (hy : evO Try.prog fr y = some (iv i)) (hg : hget H b = some (.row (gcs l) 7)) :
    opSlice Try.prog 64 x none (some y) none fr H n = some (.slice (some ⟨b, 0, some 0⟩) i 0, H, n) := by
  have hu : usedA H 7 (some ⟨b, 0, some 0⟩) 0 = l.length := by simp [usedA, hg]
  have h0 : 0 < l.length := by omega
  simp only [opSlice, hx, evI, hy, Try.underlying64, show szA Try.prog 79 = some 7 from by simp, hu]
  simp [sliceA, boundA, show i ≤ l.length by omega, h0]
abbrev rowV (len : Nat) : Value := .agg ⟨[.slice (some ⟨10, 0, some 0⟩) len 0]⟩
theorem w41n : AC Try.prog 41 [nilV] [] 10 (iv (strE [])) [] 10 := by
  have hr := recT_ok (P := Try.prog) (l := [(66, g66), (55, g55)]) (by simp only [List.forall_mem_cons]; exact ⟨ok66, ok55, by simp⟩)
  refine AC.pure Try.func41 rfl (by kernel_rfl) rfl [] rfl ?_
  refine E.seq ?_
  refine E.reg hr (by simp; rfl) ?_
  refine E.seq ?_
  refine E.seq ?_
  refine E.drawC mixed hr [9, 10, 11] [4, 9, 10, 11] [1, 4, 9, 10, 11] (by kernel_rfl) (by simp [g55, g66, whenV, intsAt, intsOf, firstV]; rfl) ?_
  refine E.seq ?_
  refine E.reg hr (by simp; rfl) ?_
  refine E.cond (by rfl) (fun h => ?_) (fun h => ?_)
  rotate_left
  · simp at h
  refine E.seq ?_
  refine E.reg hr (by simp; rfl) ?_
  refine E.ret ?_
  exact pureK.ret rfl rfl (by simp [strE]) (by repeat first | exact sub_refl _ | refine sub_cons rfl ?_)
set_option maxRecDepth 100000 in
theorem w41 (l : List Gun) (hl : l.length < 2 ^ 63) : AC Try.prog 41 [rowV l.length] [(10, .row (gcs l) 7)] 11 (iv (strE l)) [(10, .row (gcs l) 7)] 11 := by
  have hr := recT_ok (P := Try.prog) (l := [(66, g66), (55, g55), (67, gSB nameB), (50, g50), (68, g68)]) (by simp only [List.forall_mem_cons]; exact ⟨ok66, ok55, ok67, ok50, ok68, by simp⟩)
  have hE : firstV [whenV (decide (l = [])) 12, whenV (decide (8 < (l.length : Int))) 5] = if l.length = 0 then 12 else if 8 < l.length then 5 else 0 := by
    by_cases h0 : l = []
    · simp [firstV, whenV, h0]
    · have h0' : l.length ≠ 0 := fun e => h0 (List.length_eq_zero_iff.1 e)
      by_cases h8 : 8 < l.length
      · simp [firstV, whenV, h0, h0', show (8 : Int) < l.length by omega, h8]
      · simp [firstV, whenV, h0, h0', show ¬ (8 : Int) < l.length by omega, h8]
  refine AC.pure Try.func41 rfl (by kernel_rfl) rfl [1, 23, 24, 25] rfl ?_
  refine E.seq ?_
  refine E.reg hr (by simp; rfl) ?_
  refine E.seq ?_
  refine E.seq ?_
  refine E.drawC mixed hr [9, 10, 11] [4, 9, 10, 11] [1, 4, 9, 10, 11] (by kernel_rfl) (by simp [g55, g66, intsAt, intsOf]; rfl) ?_
  refine E.seq ?_
  refine E.reg hr (by simp; rfl) ?_
  refine E.cond (by rfl) (fun h => ?_) (fun h => ?_)
  · simp at h
    refine E.seq ?_
    refine E.reg hr (by simp; rfl) ?_
    refine E.ret ?_
    exact pureK.ret rfl rfl (by rw [hE]; rw [hE] at h; unfold strE; simp only [one]; split <;> rename_i h0 <;> simp only [h0, if_true, if_false] at h ⊢; split <;> rename_i h8 <;> simp only [h8, if_true, if_false] at h ⊢; exact absurd trivial h) (by repeat first | exact sub_refl _ | refine sub_cons rfl ?_)
  simp at h
  rw [hE] at h
  have h0 : l.length ≠ 0 := fun e => by simp [e] at h
  have h8 : l.length ≤ 8 := by
    rcases Nat.lt_or_ge 8 l.length with h8 | h8
    · simp [h0, h8] at h
    · exact h8
  refine E.skip ?_
  refine E.seq ?_
  refine E.seq ?_
  refine E.reg hr (by simp; rfl) ?_
  refine E.block ?_
  refine E.loop ?_
  refine EL.ind (fun i : Nat => { fr := [(1, .pointer (some ⟨11, 0, none⟩)), (23, .slice (some ⟨10, 0, some 0⟩) l.length 0), (24, iv l.length), (25, iv i)], sz := 52, H := [(11, .cells [.slice (some ⟨10, 0, some 0⟩) l.length 0] 66), (10, .row (gcs l) 7)], n := 12, marks := [], vs := [1, 23, 24, 25] }) (fun i => l.length - i) (fun i => i ≤ l.length ∧ ∀ j, j < i → gunChk l j = 0) 0 (Leads.ren [11] rfl rfl rfl ⟨rfl, rfl⟩ (by simp) (by simp)) ⟨Nat.zero_le _, fun j hj => absurd hj (by omega)⟩ (fun _ => rfl) ?_
  intro i ⟨hi, hg⟩
  have hw : IntKind.i64.wrap ((i : Int) + 1) = (i : Int) + 1 := W_in (by omega) (by omega)
  refine E.seq ?_
  refine E.reg hr (by simp; rfl) ?_
  refine E.seq ?_
  refine E.cond (by rfl) (fun h => ?_) (fun h => ?_)
  · simp at h
    have hC := gunChk_at h
    have h7 : i * 7 + 7 ≤ l.length * 7 := by omega
    have hat : ∀ X Y : Blk, gunsAt ((12, X) :: (11, Y) :: (10, .row (gcs l) 7) :: []) ⟨10, 0, some 0⟩ i = some (l.take i) := fun X Y => by
      unfold gunsAt
      simp [gcs_takeN, gunsOf_gcs, show i < 9223372036854775808 by omega, show i * 7 ≤ l.length * 7 by omega]
    refine E.skip ?_
    refine E.seq ?_
    refine E.block ?_
    refine E.seq ?_
    refine E.reg hr (by simp [h, h7, gcs_take h]; rfl) ?_
    refine E.seq ?_
    have hE : firstV [whenV (!nameB l[i].name) 8, whenV (decide (0 ≤ atV l l[i].name i)) 9, l[i].err] = gunChk l i := by
      rw [hC, whenV_name]
      simp [whenV]
    refine E.drawC mixed hr [15, 16, 17] [2, 4, 11, 13, 15, 16, 17] [1, 2, 4, 11, 13, 15, 16, 17] (by kernel_rfl) (by simp [g55, g66, g50, g68, hat, atV_take, intsAt, intsOf, hE, slice_row h]; rfl) ?_
    refine E.seq ?_
    refine E.reg hr (by simp; rfl) ?_
    refine E.cond (by rfl) (fun h1 => ?_) (fun h1 => ?_)
    · simp at h1
      refine E.seq ?_
      refine E.reg hr (by simp; rfl) ?_
      refine E.ret ?_
      exact pureK.ret rfl rfl (by simp [strE_hit (by omega) h hg h1]) (by repeat first | exact sub_refl _ | refine sub_cons rfl ?_)
    · simp at h1
      refine E.skip ?_
      refine E.reg hr (by simp [hw]; rfl) ?_
      exact ⟨i + 1, Leads.ren [11] rfl rfl rfl ⟨rfl, rfl⟩ (by simp) (by simp), ⟨by omega, fun j hj => if e : j = i then e ▸ h1 else hg j (by omega)⟩, by dsimp only; omega⟩
  · simp at h
    refine E.exit ?_
    refine E.seq ?_
    refine E.reg hr (by simp; rfl) ?_
    refine E.ret ?_
    exact pureK.ret rfl rfl (by simp [strE_ok h0 (by omega) fun j hj => hg j (by omega)]) (by repeat first | exact sub_refl _ | refine sub_cons rfl ?_)
def g41 (args : List Value) (H : Heap) (n : Nat) : R := match args with
  | [.agg ⟨[.slice (some ⟨b, 0, some 0⟩) len 0]⟩] => match rowOf H b with
    | some (cs, 7) => match gunsOf cs with
      | some l => if len = l.length ∧ len < 2 ^ 63 then some (iv (strE l), H, n) else none
      | none => none
    | _ => none
  | [.agg ⟨[.slice none 0 0]⟩] => some (iv (strE []), H, n)
  | _ => none
theorem ok41 : EntOk Try.prog (41, g41) := by
  intro args H n v H' n' h'
  simp only [g41] at h'
  split at h'
  · rename_i b len
    split at h'
    · rename_i cs hb
      split at h'
      · rename_i l hl
        split at h'
        · rename_i hc
          injection h' with h'; injection h' with e1 e2; injection e2 with e2 e3; subst e1 e2 e3
          obtain ⟨rfl, hlt⟩ := hc
          have := gunsOf_ok _ _ hl
          subst this
          exact AC.liftP rfl (Part.rowN (fun x => [.agg ⟨[x]⟩]) (by intro φ φ0 s s0 h; simp [denL, den, h]) (by intro p s h; exact ⟨⟨h, trivial⟩, trivial⟩) hb (afL_gcs l) gszN ⟨_, _, w41 l hlt⟩)
        · cases h'
      · cases h'
    · cases h'
  · injection h' with h'; injection h' with e1 e2; injection e2 with e2 e3; subst e1 e2 e3
    exact AC.liftP rfl (Part.plainN (by simp) [] (by simp [Seen]) gszN ⟨_, _, w41n⟩)
  · cases h'
end Go.Proofs.Ytljglocehbccnaa.Gn
namespace Go.Proofs.Ytljglocehbccnaa.Gn
open Go Go.Ab Go.Proofs
theorem gcs_succ {l : List Gun} {i : Nat} (h : i < l.length) : gcs (l.take (i + 1)) = gcs (l.take i) ++ l[i].cells := by
  rw [List.take_succ_eq_append_getElem h]
  unfold gcs
  rw [List.flatMap_append]
  simp
abbrev H21 (o : Nat) (l : List Gun) (c : Nat) (s : Value) : Heap := [(13, .cells [s] 66), (12, .cells [.slice none 0 0] 66), (11, .cells [.slice (some ⟨10, o, none⟩) l.length c] 58), (10, .inp o (gcs l))]
def S21 (l : List Gun) (o c : Nat) : Nat → St
  | 0 => { fr := [(2, .pointer (some ⟨12, 0, none⟩)), (3, .pointer (some ⟨13, 0, none⟩)), (7, .slice (some ⟨10, o, none⟩) l.length c), (8, iv l.length), (9, iv 0)], sz := 21, H := H21 o l c (.slice none 0 0), n := 14, marks := [], vs := [2, 3, 7, 8, 9] }
  | i + 1 => { fr := [(2, .pointer (some ⟨12, 0, none⟩)), (3, .pointer (some ⟨13, 0, none⟩)), (7, .slice (some ⟨10, o, none⟩) l.length c), (8, iv l.length), (9, iv (i + 1 : Nat))], sz := 21, H := (14, .ext (gcs (l.take (i + 1))) 79 7) :: H21 o l c (.slice (some ⟨14, 0, some 0⟩) (i + 1) 0), n := 15, marks := [], vs := [2, 3, 7, 8, 9] }
/-- a string of guns in memory of one's own -/
def strQ (l : List Gun) (u : Value) (H : Heap) : Prop := if l = [] then u = nilV else ∃ m, u = .agg ⟨[.slice (some ⟨m, 0, some 0⟩) l.length 0]⟩ ∧ hget H m = some (.ext (gcs l) 79 7) ∧ 11 ≤ m
set_option maxRecDepth 100000 in
theorem w16 (l : List Gun) (o c : Nat) (hne : l ≠ []) (hl : l.length ≤ 4096) : ∃ u H1 n1 H2, AC Try.prog 16 [strV o l.length c] [(10, .inp o (gcs l))] 11 u H1 n1 ∧ strQ l u H2 ∧ (af u = false → H1 = H2) := by
  have hr := recT_ok (P := Try.prog) (l := []) (by simp)
  have hpos : 0 < l.length := List.length_pos_iff.2 hne
  refine AC.out Try.func16 rfl (by kernel_rfl) rfl [2, 3, 7, 8, 9] ?_
  refine E.seq ?_
  refine E.reg hr (by simp; rfl) ?_
  refine E.seq ?_
  refine E.reg hr (by simp; rfl) ?_
  refine E.seq ?_
  refine E.seq ?_
  refine E.reg hr (by simp; rfl) ?_
  refine E.block ?_
  refine E.loop ?_
  refine EL.ind (S21 l o c) (fun i => l.length - i) (fun i => i ≤ l.length) 0 (.less rfl rfl rfl (by simp [S21]) (by simp [S21])) (Nat.zero_le _) (fun i => by cases i <;> rfl) ?_
  intro i hi
  rcases i with _ | i
  · have hw : IntKind.i64.wrap 1 = 1 := W_in (by omega) (by omega)
    refine E.seq ?_
    refine E.reg hr (by simp [S21]; rfl) ?_
    refine E.seq ?_
    refine E.cond (by rfl) (fun h => ?_) (fun h => ?_)
    · simp at h
      have hx := gcs_take hpos
      have hts : gcs (l.take 1) = l[0].cells := by rw [gcs_succ hpos]; simp [gcs]
      have h7 : 7 ≤ l.length * 7 := by omega
      rw [Nat.zero_mul, List.drop_zero] at hx
      refine E.skip ?_
      refine E.seq ?_
      refine E.block ?_
      refine E.seq ?_
      refine E.reg hr (by simp [hx, hpos, h7]; rfl) ?_
      refine E.reg hr (by simp; rfl) ?_
      refine E.reg hr (by simp [hw]; rfl) ?_
      exact ⟨1, Leads.ren [11, 12, 13, 16] rfl rfl rfl ⟨rfl, rfl⟩ (by simp [S21]) (by simp [S21, hts]), by omega, by dsimp only; omega⟩
    · simp at h
      exact absurd h hne
  · have hw : IntKind.i64.wrap ((i : Int) + 1 + 1) = (i : Int) + 1 + 1 := W_in (by omega) (by omega)
    have hlen : (gcs (l.take (i + 1))).length = (i + 1) * 7 := by rw [gcs_length, List.length_take, Nat.min_eq_left hi]
    have ht : List.take ((i + 1) * 7) (gcs (l.take (i + 1))) = gcs (l.take (i + 1)) := List.take_of_length_le (by omega)
    refine E.seq ?_
    refine E.reg hr (by simp [S21]; rfl) ?_
    refine E.seq ?_
    refine E.cond (by rfl) (fun h => ?_) (fun h => ?_)
    · simp at h
      have hlt : i + 1 < l.length := by omega
      have hltI : (i : Int) + 1 < l.length := by omega
      have hx := gcs_take hlt
      have hts := gcs_succ hlt
      have h7 : (i + 1) * 7 + 7 ≤ l.length * 7 := by omega
      have hno : ¬ (i + 1 + 1) * 7 ≤ (i + 1) * 7 := by omega
      have hsm : (i + 1 + 1) * 64 ≤ 1099511627776 ∧ (i + 1 + 1) * 7 ≤ 1099511627776 ∧ i + 1 + 1 ≤ 1099511627776 := by omega
      refine E.skip ?_
      refine E.seq ?_
      refine E.block ?_
      refine E.seq ?_
      refine E.reg hr (by simp [hx, hltI, h7]; rfl) ?_
      refine E.reg hr (by simp [hsm, ht, hlen, hno]; rfl) ?_
      refine E.reg hr (by simp [hw]; rfl) ?_
      exact ⟨i + 2, Leads.ren [11, 12, 13, 17] rfl rfl rfl ⟨rfl, rfl⟩ (by simp [S21]) (by simp [S21, hts]), by omega, by dsimp only; omega⟩
    · simp at h
      have hal : l.take (i + 1) = l := List.take_of_length_le (by omega)
      have hll : l.length = i + 1 := by omega
      refine E.exit ?_
      refine E.seq ?_
      refine E.reg hr (by simp; rfl) ?_
      refine E.ret ?_
      refine outK.ret rfl rfl ?_
      simp [strQ, hne, hal, hll]
      exact ⟨14, by kernel_rfl, by simp, by omega⟩
end Go.Proofs.Ytljglocehbccnaa.Gn
namespace Go.Proofs.Ytljglocehbccnaa.Gn
open Go Go.Ab Go.Proofs
set_option maxRecDepth 100000 in
theorem w16e (o c : Nat) : AC Try.prog 16 [strV o 0 c] [(10, .inp o (gcs []))] 11 nilV [(10, .inp o (gcs []))] 11 := by
  have hr := recT_ok (P := Try.prog) (l := []) (by simp)
  refine AC.pure Try.func16 rfl (by kernel_rfl) rfl [2, 3, 7, 8, 9] rfl ?_
  refine E.seq ?_
  refine E.reg hr (by simp; rfl) ?_
  refine E.seq ?_
  refine E.reg hr (by simp; rfl) ?_
  refine E.seq ?_
  refine E.seq ?_
  refine E.reg hr (by simp; rfl) ?_
  refine E.block ?_
  refine E.loop ?_
  refine EL.step ?_
  refine E.seq ?_
  refine E.reg hr (by simp; rfl) ?_
  refine E.seq ?_
  refine E.cond (by rfl) (fun h => ?_) (fun h => ?_)
  · simp at h
  refine E.exit ?_
  refine E.seq ?_
  refine E.reg hr (by simp; rfl) ?_
  refine E.ret ?_
  exact pureK.ret rfl rfl (by simp; kernel_rfl) (by repeat first | exact sub_refl _ | refine sub_cons rfl ?_)
set_option maxRecDepth 100000 in
theorem w16n : AC Try.prog 16 [nilV] [] 10 nilV [] 10 := by
  have hr := recT_ok (P := Try.prog) (l := []) (by simp)
  refine AC.pure Try.func16 rfl (by kernel_rfl) rfl [2, 3, 7, 8, 9] rfl ?_
  refine E.seq ?_
  refine E.reg hr (by simp; rfl) ?_
  refine E.seq ?_
  refine E.reg hr (by simp; rfl) ?_
  refine E.seq ?_
  refine E.seq ?_
  refine E.reg hr (by simp; rfl) ?_
  refine E.block ?_
  refine E.loop ?_
  refine EL.step ?_
  refine E.seq ?_
  refine E.reg hr (by simp; rfl) ?_
  refine E.seq ?_
  refine E.cond (by rfl) (fun h => ?_) (fun h => ?_)
  · simp at h
  refine E.exit ?_
  refine E.seq ?_
  refine E.reg hr (by simp; rfl) ?_
  refine E.ret ?_
  exact pureK.ret rfl rfl (by simp; kernel_rfl) (by repeat first | exact sub_refl _ | refine sub_cons rfl ?_)
def g16 (args : List Value) (H : Heap) (n : Nat) : R := match args with
  | [v] => match strAt H v with
    | some l => if l = [] then some (nilV, H, n) else if l.length ≤ 4096 then some (.agg ⟨[.slice (some ⟨n, 0, some 0⟩) l.length 0]⟩, (n, .ext (gcs l) 79 7) :: H, n + 1) else none
    | none => none
  | _ => none
theorem names_str (l c : Nat) : Names1 fun m => .agg ⟨[.slice (some ⟨m, 0, some 0⟩) l c]⟩ := ⟨fun φ ψ m n h1 h2 => by simp [den, denL, h1, h2], fun p n h => by simp [sc, scL, h]⟩
theorem ok16 : EntOk Try.prog (16, g16) := by
  intro args H n v H' n' h'
  simp only [g16] at h'
  split at h'
  · rename_i x
    split at h'
    · rename_i l hx
      split at h'
      · rename_i hl
        subst hl
        injection h' with h'; injection h' with e1 e2; injection e2 with e2 e3; subst e1 e2 e3
        unfold strAt at hx
        split at hx
        · exact AC.liftP (by simp) (Part.plainN (by simp) [] (by simp [Seen]) gszN ⟨_, _, w16n⟩)
        · obtain ⟨hf, hc, hlen, hlt⟩ := gunsAt_ok hx
          subst hlen
          exact AC.liftP (by simp) (Part.oneN (fun s => [.agg ⟨[s]⟩]) (by intro φ φ0 s s0 h; simp [denL, den, h]) (by intro p s h; exact ⟨⟨h, trivial⟩, trivial⟩) hf hc (afL_gcs []) [] (by simp [Seen]) gszN fun c => ⟨_, _, w16e _ c⟩)
        · cases hx
      rename_i hne
      split at h'
      · rename_i hle
        injection h' with h'; injection h' with e1 e2; injection e2 with e2 e3; subst e1 e2 e3
        unfold strAt at hx
        split at hx
        · injection hx with hx; exact absurd hx.symm hne
        · obtain ⟨hf, hc, hlen, hlt⟩ := gunsAt_ok hx
          subst hlen
          refine AC.liftF (names_str _ _) (.inr ⟨_, _, _, rfl, afL_gcs l⟩) (Part.oneN (fun s => [.agg ⟨[s]⟩]) (by intro φ φ0 s s0 h; simp [denL, den, h]) (by intro p s h; exact ⟨⟨h, trivial⟩, trivial⟩) hf hc (afL_gcs l) [] (by simp [Seen]) gszN fun c => ?_)
          obtain ⟨u, H1, n1, H2, hAC, hq, hh⟩ := w16 l _ c hne hle
          unfold strQ at hq
          rw [if_neg hne] at hq
          obtain ⟨m, hv, hm, hle⟩ := hq
          subst hv
          have := hh rfl
          subst this
          exact ⟨m, _, _, hle, hm, hAC⟩
        · cases hx
      · cases h'
    · cases h'
  · cases h'
end Go.Proofs.Ytljglocehbccnaa.Gn
namespace Go.Proofs.Ytljglocehbccnaa.Gn
open Go Go.Ab Go.Proofs
structure Tim where
  gun : ByteArray
  tick : Int
def Tim.cells (t : Tim) : List Value := [sv t.gun, iv t.tick]
@[simp] theorem Tim.cells_length (t : Tim) : t.cells.length = 2 := rfl
def tcs (l : List Tim) : List Value := l.flatMap Tim.cells
@[simp] theorem tcs_length (l : List Tim) : (tcs l).length = l.length * 2 := by
  induction l with
  | nil => rfl
  | cons g l ih =>
    show (g.cells ++ tcs l).length = _
    rw [List.length_append, ih]
    simp
    omega
theorem afL_tcs (l : List Tim) : afL (tcs l) = true := by
  induction l with
  | nil => rfl
  | cons g l ih =>
    show afL (g.cells ++ tcs l) = true
    simp [Tim.cells, afL, ih]
@[simp] theorem renL_tcs (ρ : Nat → Nat) (l : List Tim) : renL ρ (tcs l) = tcs l := by
  rw [renL_eq]
  induction l with
  | nil => rfl
  | cons g l ih =>
    show (g.cells ++ tcs l).map (ren ρ) = g.cells ++ tcs l
    rw [List.map_append, ih]
    rfl
@[simp] theorem scL_tcs (p : Nat → Prop) (l : List Tim) : scL p (tcs l) := scL_af p _ (afL_tcs l)
end Go.Proofs.Ytljglocehbccnaa.Gn
namespace Go.Proofs.Ytljglocehbccnaa.Gn
open Go Go.Ab Go.Proofs
def strsOf : List Value → Option (List ByteArray)
  | [] => some []
  | .string n :: vs => (strsOf vs).map (n :: ·)
  | _ => none
theorem strsOf_ok : ∀ (cs : List Value) (l : List ByteArray), strsOf cs = some l → cs = l.map sv
  | [], l, h => by simp [strsOf] at h; subst h; rfl
  | c :: cs, l, h => by
    unfold strsOf at h
    split at h
    · rename_i h1; cases h1
    · rename_i n vs h1
      injection h1 with h1 h2; subst h1 h2
      rw [Option.map_eq_some_iff] at h
      obtain ⟨l', h2, h3⟩ := h
      subst h3
      rw [strsOf_ok _ _ h2]; rfl
    · cases h
theorem strsOf_sv : ∀ l : List ByteArray, strsOf (l.map sv) = some l
  | [] => rfl
  | x :: l => by simp [strsOf, strsOf_sv l]
def strsAt (H : Heap) (a : Addr) (len : Nat) : Option (List ByteArray) := if flat a && Nat.blt len 2147483648 then (cellsA H a.block a.off len).bind strsOf else none
theorem strsAt_ok {H : Heap} {a : Addr} {len : Nat} {l : List ByteArray} (h : strsAt H a len = some l) : flat a = true ∧ cellsA H a.block a.off len = some (l.map sv) ∧ l.length = len ∧ l.length < 2 ^ 31 := by
  unfold strsAt at h
  split at h
  · rename_i hf
    rw [Bool.and_eq_true] at hf
    rw [Option.bind_eq_some_iff] at h
    obtain ⟨cs, h1, h2⟩ := h
    have h3 := strsOf_ok _ _ h2
    subst h3
    have h4 := (cellsA_at h1).1
    rw [List.length_map] at h4
    exact ⟨hf.1, h1, h4, by have := (blt_iff _ _).1 hf.2; omega⟩
  · cases h
def hasW (s : ByteArray) (l : List ByteArray) : Bool := l.any fun x => decide (x = s)
theorem hasW_iff {s : ByteArray} {l : List ByteArray} : hasW s l = true ↔ s ∈ l := by
  unfold hasW
  rw [List.any_eq_true]
  exact ⟨fun ⟨x, h1, h2⟩ => of_decide_eq_true h2 ▸ h1, fun h => ⟨s, h, decide_eq_true rfl⟩⟩
def g67 (args : List Value) (H : Heap) (n : Nat) : R := match args with
  | [.slice (some a) len _, .string s] => (strsAt H a len).map fun l => (.bool (hasW s l), H, n)
  | [.slice none 0 0, .string _] => some (.bool false, H, n)
  | _ => none
end Go.Proofs.Ytljglocehbccnaa.Gn
namespace Go.Proofs.Ytljglocehbccnaa.Gn
open Go Go.Ab Go.Proofs
@[simp] theorem renL_replicate (ρ : Nat → Nat) (n : Nat) (v : Value) : renL ρ (List.replicate n v) = List.replicate n (ren ρ v) := by rw [renL_eq, List.map_replicate]
@[simp] theorem scL_replicate_iv (p : Nat → Prop) (n : Nat) (x : Int) : scL p (List.replicate n (iv x)) := by
  have := scL_iv p (List.replicate n x)
  rwa [List.map_replicate] at this
@[simp] theorem renL_set (ρ : Nat → Nat) (l : List Value) (k : Nat) (v : Value) : renL ρ (l.set k v) = (renL ρ l).set k (ren ρ v) := by rw [renL_eq, renL_eq, List.map_set]
@[simp] theorem scL_set_iv (p : Nat → Prop) (l : List Int) (k : Nat) (x : Int) : scL p ((l.map iv).set k (iv x)) := by
  have := scL_iv p (l.set k x)
  rwa [List.map_set] at this
end Go.Proofs.Ytljglocehbccnaa.Gn
namespace Go.Proofs.Ytljglocehbccnaa.Gn
open Go Go.Ab Go.Proofs
def wF (x : Int) : Int := withinV x 0 16
def wL (l : List Int) : List Int := l.map wF
@[simp] theorem wL_length (l : List Int) : (wL l).length = l.length := by simp [wL]
end Go.Proofs.Ytljglocehbccnaa.Gn
namespace Go.Proofs.Ytljglocehbccnaa.Gn
open Go Go.Ab Go.Proofs
@[simp] theorem oneL_gcs (l : List Gun) : oneL (gcs l) = true := by
  induction l with
  | nil => rfl
  | cons g l ih =>
    show oneL (g.cells ++ gcs l) = true
    simp [Gun.cells, oneL, ih]
end Go.Proofs.Ytljglocehbccnaa.Gn
