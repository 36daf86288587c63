/-
An abstract evaluator of code, its rules and its views of memory: no program in sight (no condition).
-/
import Derived.KernelRfl
import Derived.IntWalk
import Derived.Test.YtljglocehbccnaaAe
/-
The evaluator's equations, as they are used for rewriting where values are not known.
-/
namespace Go.Ab
open Go

/-! ### regions -/
section
variable {P : Program} {n0 : Nat} {ro : Option Nat} {st st' : St} {K : Ex → St → Prop} {r : Rec} {m : Nat}
theorem E.reg (hr : RecOk P r m) {id : Nat} {ops : Array Oper} (h : opsF P r ops ops.toList st = some st') (k : K .normal st') : E P n0 ro (.region id ops false) st K :=
  .at (.ops hr h) k
theorem E.draw (hm : P.follows .mixedOrders = true) (hr : RecOk P r m) {id : Nat} {ops : Array Oper} (hd : drawOk ops (Region.before ops) = true) (h : opsD P r ops (Region.before ops) st.n ops.toList 0 [] st = some st') (k : K .normal st') : E P n0 ro (.region id ops true) st K :=
  .at (drawSound hm r m hr ops id ro st st' hd h) k
end

/-! ### regions whose order is open: operations that only look, and those that stand alone -/
def readS (P : Program) (n0 : Nat) (o : Oper) (fr : Fr) (st : St) (see : List Nat) : Option St :=
  match see.all (Nat.blt · n0) with
  | true => match opA P o fr (readA see st.H) st.n with
    | some (v, _, _) => some { st with fr := putA st.fr o.dst v }
    | none => none
  | false => none
def pureS (P : Program) (o : Oper) (fr : Fr) (st : St) : Option St :=
  match opA P o fr [] st.n with
  | some (v, _, k) => match Nat.beq k st.n with
    | true => some { st with fr := putA st.fr o.dst v }
    | false => none
  | none => none
def aloneS (P : Program) (r : Rec) (o : Oper) (fr : Fr) (st : St) : Option St :=
  match runOp P r o { st with fr := fr } with
  | some (v, H, k) => match Nat.ble st.n k && namesOk k H with
    | true => some { st with fr := putA st.fr o.dst v, H := H, n := k }
    | false => none
  | none => none
def doneS (P : Program) (r : Rec) (al : List Nat) (n0 i : Nat) (o : Oper) (fr : Fr) (st : St) : Option St :=
  match isPure o.op with
  | true => pureS P o fr st
  | false => match isRead o.op with
    | true => match footA P fr o.op with
      | some f => readS P n0 o fr st f.see
      | none => none
    | false => match memN al i with
      | true => aloneS P r o fr st
      | false => none
def oneS (P : Program) (r : Rec) (ops : Array Oper) (al : List Nat) (n0 i : Nat) (o : Oper) (st : St) : Option St :=
  match dstOk st.sz o.dst with
  | false => none
  | true => match wantedA ops (trim (lookTmps ops o) st.fr) o with
    | none => none
    | some false => some { st with fr := putA st.fr o.dst undefV }
    | some true => doneS P r al n0 i o (trim (lookTmps ops o) st.fr) st
def opsS (P : Program) (r : Rec) (ops : Array Oper) (al : List Nat) (n0 : Nat) : List Oper → Nat → St → Option St
  | [], _, st => some st
  | o :: os, i, st => match oneS P r ops al n0 i o st with
    | some st' => opsS P r ops al n0 os (i + 1) st'
    | none => none
def alOk (ops : Array Oper) (bef : Array Nat) (al : List Nat) : Bool := al.all fun i => aloneA bef i ops.toList 0
theorem readS_ok {P : Program} {bef : Array Nat} {n0 i : Nat} {ds : List Done} (hds : ∀ d ∈ ds, d.put = []) {o : Oper} {see : List Nat} {fr : Fr} {st st' : St} (h : readS P n0 o fr st see = some st') : ∃ ds', readOp P bef n0 i ds o see fr st = some (st', ds') ∧ ∀ d ∈ ds', d.put = [] := by
  unfold readS at h
  split at h
  · rename_i hs
    have hf : footOk bef n0 i ds see [] = true := by
      unfold footOk
      simp only [Bool.and_eq_true]
      refine ⟨⟨List.all_eq_true.2 fun d hd => ?_, List.all_eq_true.2 fun k hk => ?_⟩, rfl⟩
      · simp [disj, hds d hd]
      · have := List.all_eq_true.1 hs k hk
        simp [visA, this]
    unfold readOp
    rw [hf]
    simp only
    split at h
    · rename_i v a b hv
      injection h with h; subst h
      rw [hv]
      exact ⟨_, rfl, fun d hd => by
        rcases List.mem_cons.1 hd with rfl | hd
        · rfl
        · exact hds d hd⟩
    · cases h
  · cases h
theorem opsS_ok {P : Program} {r : Rec} {ops : Array Oper} {bef : Array Nat} {al : List Nat} (hal : alOk ops bef al = true) {n0 : Nat} : ∀ (os : List Oper) (i : Nat) (st st' : St) (ds : List Done), (∀ d ∈ ds, d.put = []) → opsS P r ops al n0 os i st = some st' → opsD P r ops bef n0 os i ds st = some st'
  | [], _, st, st', ds, _, h => h
  | o :: os, i, st, st', ds, hds, h => by
    simp only [opsS] at h
    split at h
    · rename_i st1 h1
      have key : ∃ ds', oneD P r ops bef n0 i ds o st = some (st1, ds') ∧ ∀ d ∈ ds', d.put = [] := by
        unfold oneS at h1
        unfold oneD
        split at h1
        · cases h1
        · rename_i hd
          rw [hd]
          simp only
          split at h1
          · cases h1
          · rename_i hw
            rw [hw]
            injection h1 with h1; subst h1
            exact ⟨ds, rfl, hds⟩
          · rename_i hw
            rw [hw]
            simp only
            unfold doneS at h1
            unfold doneD
            split at h1
            · rename_i hp
              rw [hp]
              simp only
              unfold pureS at h1
              unfold pureOp
              split at h1
              · rename_i v a k hv
                rw [hv]
                simp only
                split at h1
                · rename_i hk
                  rw [hk]
                  injection h1 with h1; subst h1
                  exact ⟨ds, rfl, hds⟩
                · cases h1
              · cases h1
            · rename_i hp
              rw [hp]
              simp only
              split at h1
              · rename_i hrd
                rw [hrd]
                simp only
                split at h1
                · rename_i f hf
                  rw [hf]
                  exact readS_ok hds h1
                · cases h1
              · rename_i hrd
                rw [hrd]
                simp only
                split at h1
                · rename_i hm
                  have ha : aloneA bef i ops.toList 0 = true := List.all_eq_true.1 hal i ((memN_iff _ _).1 hm)
                  rw [ha]
                  simp only
                  unfold aloneS at h1
                  unfold aloneOp
                  split at h1
                  · rename_i v H k hv
                    rw [hv]
                    simp only
                    split at h1
                    · rename_i hk
                      rw [hk]
                      injection h1 with h1; subst h1
                      exact ⟨_, rfl, fun d hd => by
                        rcases List.mem_cons.1 hd with rfl | hd
                        · rfl
                        · exact hds d hd⟩
                    · cases h1
                  · cases h1
                · cases h1
      obtain ⟨ds', h2, hds'⟩ := key
      simp only [opsD, h2]
      exact opsS_ok hal os (i + 1) st1 st' ds' hds' h
    · cases h
section
variable {P : Program} {n0 : Nat} {ro : Option Nat} {st st' : St} {K : Ex → St → Prop} {r : Rec} {m : Nat}
theorem E.drawS (hm : P.follows .mixedOrders = true) (hr : RecOk P r m) (al : List Nat) {id : Nat} {ops : Array Oper} (hd : (drawOk ops (Region.before ops) && alOk ops (Region.before ops) al) = true) (h : opsS P r ops al st.n ops.toList 0 st = some st') (k : K .normal st') : E P n0 ro (.region id ops true) st K := by
  rw [Bool.and_eq_true] at hd
  exact E.draw hm hr hd.1 (opsS_ok hd.2 _ _ _ _ [] (by simp) h) k
/-- the text's order gives the state; the kernel runs the others -/
theorem E.drawK (hm : P.follows .mixedOrders = true) (hr : RecOk P r m) {id : Nat} {ops : Array Oper} (_h1 : opsF P r ops ops.toList st = some st') (hd : drawOk ops (Region.before ops) = true) (h : opsD P r ops (Region.before ops) st.n ops.toList 0 [] st = some st') (k : K .normal st') : E P n0 ro (.region id ops true) st K :=
  E.draw hm hr hd h k
end

/-! ### numbers -/
@[simp] theorem blt_dec (a b : Nat) : Nat.blt a b = decide (a < b) := by
  by_cases h : a < b
  · rw [(blt_iff _ _).2 h]; simp [h]
  · cases hb : Nat.blt a b with
    | true => exact absurd ((blt_iff _ _).1 hb) h
    | false => simp [h]
@[simp] theorem ble_dec (a b : Nat) : Nat.ble a b = decide (a ≤ b) := by
  rcases ble_cases a b with ⟨h, h'⟩ | ⟨h, h'⟩
  · rw [h]; simp [h']
  · rw [h]; exact (decide_eq_false (by omega)).symm
@[simp] theorem beq_dec (a b : Nat) : Nat.beq a b = decide (a = b) := by
  rcases beq_cases a b with ⟨h, h'⟩ | ⟨h, h'⟩
  · rw [h]; simp [h']
  · rw [h]; simp [h']
/-! ### slots -/
@[simp] theorem lk_nil (i : Nat) : lk [] i = none := rfl
@[simp] theorem hget_nil (i : Nat) : hget [] i = none := rfl
attribute [simp] lk_cons hget_cons
section
variable {P : Program} {fr : Fr} {H : Heap} {n : Nat}
@[simp] theorem evO_tmp (t : Nat) : evO P fr (.tmp t) = lk fr t := rfl
@[simp] theorem evO_func (f : FuncId) : evO P fr (.func f) = some (.func (.func f) #[] #[]) := rfl
@[simp] theorem evO_int (k : IntKind) (i : Int) : evO P fr (.const (.int k i)) = some (.int k i) := rfl
@[simp] theorem evO_bool (b : Bool) : evO P fr (.const (.bool b)) = some (.bool b) := rfl
@[simp] theorem evO_string (b : ByteArray) : evO P fr (.const (.string b)) = some (.string b) := rfl
@[simp] theorem evO_float (k : FloatKind) (b : Nat) : evO P fr (.const (.float k b)) = some (.float k b) := rfl
@[simp] theorem evO_nilSlice (l c : Nat) : evO P fr (.const (.slice none l c)) = some (.slice none l c) := rfl
@[simp] theorem evO_nilFunc : evO P fr (.const .nilFunc) = some .nilFunc := rfl
@[simp] theorem evO_nilIface : evO P fr (.const .nilIface) = some .nilIface := rfl
@[simp] theorem evO_agg (cs : Array Value) : evO P fr (.const (.agg cs)) = if afL cs.toList then some (.agg cs) else none := by
  simp only [evO, afq, af]
  cases afL cs.toList <;> rfl
theorem evO_global (g : Nat) : evO P fr (.global g) = if g < P.globals.size then some (.pointer (some ⟨g, 0, none⟩)) else none := by
  simp only [evO]
  by_cases h : g < P.globals.size
  · rw [(blt_iff _ _).2 h, if_pos h]
  · rw [if_neg h]
    cases hb : Nat.blt g P.globals.size with
    | true => exact absurd ((blt_iff _ _).1 hb) h
    | false => rfl
@[simp] theorem evOs_nil : evOs P fr [] = some [] := rfl
@[simp] theorem evOs_cons (x : Operand) (xs : List Operand) : evOs P fr (x :: xs) = match evO P fr x with
    | none => none
    | some v => match evOs P fr xs with
      | none => none
      | some vs => some (v :: vs) := rfl
@[simp] theorem evPs_nil : evPs P fr [] = some [] := rfl
@[simp] theorem evPs_cons (i : Nat) (x : Operand) (xs : List (Nat × Operand)) : evPs P fr ((i, x) :: xs) = match evO P fr x with
    | none => none
    | some v => match evPs P fr xs with
      | none => none
      | some vs => some ((i, v) :: vs) := rfl
@[simp] theorem af_int (k : IntKind) (i : Int) : af (.int k i) = true := rfl
@[simp] theorem af_bool (b : Bool) : af (.bool b) = true := rfl
@[simp] theorem af_string (s : ByteArray) : af (.string s) = true := rfl
@[simp] theorem af_float (k : FloatKind) (b : Nat) : af (.float k b) = true := rfl
@[simp] theorem af_nilSlice (l c : Nat) : af (.slice none l c) = true := rfl
@[simp] theorem af_slice (a : Addr) (l c : Nat) : af (.slice (some a) l c) = false := rfl
@[simp] theorem af_pointer (a : Addr) : af (.pointer (some a)) = false := rfl
@[simp] theorem af_agg (cs : Array Value) : af (.agg cs) = afL cs.toList := rfl
@[simp] theorem af_tuple (cs : Array Value) : af (.tuple cs) = afL cs.toList := rfl
@[simp] theorem af_nilFunc : af .nilFunc = true := rfl
@[simp] theorem af_nilIface : af .nilIface = true := rfl
@[simp] theorem af_func (f : FuncId) (a b : Array Value) : af (.func (.func f) a b) = (afL a.toList && afL b.toList) := rfl
@[simp] theorem afL_nil : afL [] = true := rfl
@[simp] theorem afL_cons (v : Value) (vs : List Value) : afL (v :: vs) = (af v && afL vs) := rfl
@[simp] theorem afq_af (v : Value) : afq v = af v := afq_eq v
theorem afL_ints (k : IntKind) : ∀ l : List Int, afL (l.map (Value.int k)) = true
  | [] => rfl
  | _ :: l => by simp [afL_ints k l]
/-! ### operations -/
@[simp] theorem dstOk_none (s : Nat) : dstOk s none = true := rfl
@[simp] theorem dstOk_some (s d : Nat) : dstOk s (some d) = decide (d < s) := by
  show Nat.blt d s = _
  by_cases h : d < s
  · rw [(blt_iff _ _).2 h]; simp [h]
  · cases hb : Nat.blt d s with
    | true => exact absurd ((blt_iff _ _).1 hb) h
    | false => exact (decide_eq_false h).symm
@[simp] theorem putA_some (d : Tmp) (v : Value) : putA fr (some d) v = (d, v) :: fr := rfl
@[simp] theorem putA_none (v : Value) : putA fr none v = fr := rfl
theorem opsF_nil (r : Rec) (ops : Array Oper) (st : St) : opsF P r ops [] st = some st := rfl
theorem opsF_cons (r : Rec) (ops : Array Oper) (o : Oper) (os : List Oper) (st : St) : opsF P r ops (o :: os) st = match oneF P r ops o st with
    | some st' => opsF P r ops os st'
    | none => none := rfl
/-- an operation that is always done -/
theorem oneF_plain (r : Rec) (ops : Array Oper) (dst : Option Tmp) (op : Op) (t : TypeId) (ps : String) (af : Array Edge) (st : St) : oneF P r ops ⟨dst, op, t, ps, af, none⟩ st = match dstOk st.sz dst with
    | false => none
    | true => match runOp P r ⟨dst, op, t, ps, af, none⟩ st with
      | some (v, H, k) => some { fr := putA st.fr dst v, sz := st.sz, H := H, n := k, marks := st.marks, vs := st.vs }
      | none => none := rfl
theorem oneF_guard (r : Rec) (ops : Array Oper) (dst : Option Tmp) (op : Op) (t : TypeId) (ps : String) (af : Array Edge) (j : Nat) (want : Bool) (st : St) : oneF P r ops ⟨dst, op, t, ps, af, some (j, want)⟩ st = match dstOk st.sz dst with
    | false => none
    | true => match (yieldedA ops st.fr j).map fun y => y == some want with
      | none => none
      | some false => some { st with fr := putA st.fr dst undefV }
      | some true => match runOp P r ⟨dst, op, t, ps, af, some (j, want)⟩ st with
        | some (v, H, k) => some { fr := putA st.fr dst v, sz := st.sz, H := H, n := k, marks := st.marks, vs := st.vs }
        | none => none := rfl
/-- integers -/
def intBin (op : BinOp) (k : IntKind) (a b : Int) : Option Value := match op with
  | .add => some (.int k (k.wrap (a + b)))
  | .sub => some (.int k (k.wrap (a - b)))
  | .mul => some (.int k (k.wrap (a * b)))
  | .quo => if b = 0 then none else some (.int k (k.wrap (a.tdiv b)))
  | .rem => if b = 0 then none else some (.int k (a.tmod b))
  | .eql => some (.bool (decide (a = b)))
  | .neq => some (.bool (!decide (a = b)))
  | .lss => some (.bool (decide (a < b)))
  | .leq => some (.bool (decide (a ≤ b)))
  | .gtr => some (.bool (decide (b < a)))
  | .geq => some (.bool (decide (b ≤ a)))
  | .shl => some (.int k (k.wrap a))
  | .shr => none
  | .and | .or | .xor | .andNot => none
/-- the operands are there -/
def binV (P : Program) (op : BinOp) (t : TypeId) (x y : Operand) (a b : Value) (H : Heap) (n : Nat) : R :=
  if afq a && afq b then (runP P (do eqGuard op t x y a b; binOp op t a b)).bind fun v => if afq v then some (v, H, n) else none
  else match op, nilTypeA P t a, nilEqA a b with
    | .eql, true, some r => some (.bool r, H, n)
    | .neq, true, some r => some (.bool (!r), H, n)
    | _, _, _ => none
variable {op : BinOp} {t : TypeId} {x y : Operand} {a b : Int}
@[simp] theorem opBinop_eq : opBinop P op t x y fr H n = match evO P fr x, evO P fr y with
  | some a, some b => binV P op t x y a b H n
  | _, _ => none := rfl
@[simp] theorem bin_add : binV P .add t x y (.int .i64 a) (.int .i64 b) H n = some (.int .i64 (IntKind.i64.wrap (a + b)), H, n) := rfl
@[simp] theorem bin_sub : binV P .sub t x y (.int .i64 a) (.int .i64 b) H n = some (.int .i64 (IntKind.i64.wrap (a - b)), H, n) := rfl
@[simp] theorem bin_mul : binV P .mul t x y (.int .i64 a) (.int .i64 b) H n = some (.int .i64 (IntKind.i64.wrap (a * b)), H, n) := rfl
@[simp] theorem bin_lss : binV P .lss t x y (.int .i64 a) (.int .i64 b) H n = some (.bool (decide (a < b)), H, n) := rfl
@[simp] theorem bin_leq : binV P .leq t x y (.int .i64 a) (.int .i64 b) H n = some (.bool (decide (a ≤ b)), H, n) := rfl
@[simp] theorem bin_gtr : binV P .gtr t x y (.int .i64 a) (.int .i64 b) H n = some (.bool (decide (b < a)), H, n) := rfl
@[simp] theorem bin_geq : binV P .geq t x y (.int .i64 a) (.int .i64 b) H n = some (.bool (decide (b ≤ a)), H, n) := rfl
@[simp] theorem bin_eql : binV P .eql t x y (.int .i64 a) (.int .i64 b) H n = some (.bool (decide (a = b)), H, n) := rfl
@[simp] theorem bin_neq : binV P .neq t x y (.int .i64 a) (.int .i64 b) H n = some (.bool (!decide (a = b)), H, n) := rfl
theorem bin_quo (hb : b ≠ 0) : binV P .quo t x y (.int .i64 a) (.int .i64 b) H n = some (.int .i64 (IntKind.i64.wrap (a.tdiv b)), H, n) := by
  have : runP P (do eqGuard .quo t x y (.int .i64 a) (.int .i64 b); binOp .quo t (.int .i64 a) (.int .i64 b)) = some (.int .i64 (IntKind.i64.wrap (a.tdiv b))) := by
    show runP P (if b = 0 then _ else _) = _
    rw [if_neg hb]; rfl
  simp [binV, this]
theorem bin_rem (hb : b ≠ 0) : binV P .rem t x y (.int .i64 a) (.int .i64 b) H n = some (.int .i64 (a.tmod b), H, n) := by
  have : runP P (do eqGuard .rem t x y (.int .i64 a) (.int .i64 b); binOp .rem t (.int .i64 a) (.int .i64 b)) = some (.int .i64 (a.tmod b)) := by
    show runP P (if b = 0 then _ else _) = _
    rw [if_neg hb]; rfl
  simp [binV, this]
@[simp] theorem un_not {_b : Bool} : opUnop P .not x fr H n = match evO P fr x with
    | some a => if afq a then (runP P (Op.unary .not a)).bind fun v => if afq v then some (v, H, n) else none else none
    | none => none := rfl
@[simp] theorem runP_not {b : Bool} : runP P (Op.unary .not (.bool b)) = some (.bool !b) := rfl
@[simp] theorem runP_neg : runP P (Op.unary .neg (.int .i64 a)) = some (.int .i64 (IntKind.i64.wrap (0 - a))) := rfl
end

/-! ### an operation by its kind -/
section
variable {P : Program} {r : Rec} {dst : Option Tmp} {ty : TypeId} {ps : String} {af : Array Edge} {g : Option (Nat × Bool)} {st : St} {x y z : Operand} {t : TypeId}
@[simp] theorem run_move : runOp P r ⟨dst, .move x, ty, ps, af, g⟩ st = match evO P st.fr x with | some v => some (v, st.H, st.n) | none => none := by
  show opMove P x st.fr st.H st.n = _; unfold opMove; cases evO P st.fr x <;> rfl
@[simp] theorem run_assign : runOp P r ⟨dst, .assign x, ty, ps, af, g⟩ st = match evO P st.fr x with | some v => some (v, st.H, st.n) | none => none := by
  show opMove P x st.fr st.H st.n = _; unfold opMove; cases evO P st.fr x <;> rfl
@[simp] theorem run_pick : runOp P r ⟨dst, .pick x y z, ty, ps, af, g⟩ st = match evO P st.fr x with
    | some (.bool true) => (evO P st.fr y).map fun v => (v, st.H, st.n)
    | some (.bool false) => (evO P st.fr z).map fun v => (v, st.H, st.n)
    | _ => none := rfl
@[simp] theorem run_box : runOp P r ⟨dst, .box t x, ty, ps, af, g⟩ st = match evO P st.fr x with
    | some v => some (.pointer (some ⟨st.n, 0, none⟩), (st.n, .cells v.cells.toList t) :: st.H, st.n + 1)
    | none => none := rfl
@[simp] theorem run_alloc : runOp P r ⟨dst, .alloc t, ty, ps, af, g⟩ st = match zeroA P t with
    | some z => if afL z.cells.toList then some (.pointer (some ⟨st.n, 0, none⟩), (st.n, .cells z.cells.toList t) :: st.H, st.n + 1) else none
    | none => none := rfl
@[simp] theorem run_load : runOp P r ⟨dst, .load t x, ty, ps, af, g⟩ st = match evO P st.fr x with
    | some v => (loadA P t st.H v).map fun r => (r, st.H, st.n)
    | none => none := rfl
@[simp] theorem run_store : runOp P r ⟨dst, .store t x y, ty, ps, af, g⟩ st = match evO P st.fr x, evO P st.fr y with
    | some (.pointer (some a)), some v => match szA P t with
      | some sz => if v.cells.size = sz && oneL v.cells.toList then (storeA st.H a.block a.off v.cells.toList).map fun H' => (undefV, H', st.n) else none
      | none => none
    | _, _ => none := rfl
@[simp] theorem run_binOp {op : BinOp} {yt : TypeId} : runOp P r ⟨dst, .binOp op t x y yt, ty, ps, af, g⟩ st = match evO P st.fr x, evO P st.fr y with
  | some a, some b => binV P op t x y a b st.H st.n
  | _, _ => none := rfl
@[simp] theorem run_unOp {op : UnOp} : runOp P r ⟨dst, .unOp op t x, ty, ps, af, g⟩ st = match evO P st.fr x with
    | some a => if Ab.af a then (runP P (Op.unary op a)).bind fun v => if Ab.af v then some (v, st.H, st.n) else none else none
    | none => none := by
  show opUnop P op x st.fr st.H st.n = _
  unfold opUnop; simp only [afq_af]; rfl
@[simp] theorem run_fieldAddr {f : Nat} : runOp P r ⟨dst, .fieldAddr t x f, ty, ps, af, g⟩ st = opFieldaddr P t x f st.fr st.H st.n := rfl
@[simp] theorem run_field {f : Nat} : runOp P r ⟨dst, .field t x f, ty, ps, af, g⟩ st = opField P t x f st.fr st.H st.n := rfl
@[simp] theorem run_indexAddr : runOp P r ⟨dst, .indexAddr t x y, ty, ps, af, g⟩ st = opIndexaddr P t x y st.fr st.H st.n := rfl
@[simp] theorem run_index : runOp P r ⟨dst, .index t x y, ty, ps, af, g⟩ st = opIndex P t x y st.fr st.H st.n := rfl
@[simp] theorem run_extract {ix : Nat} : runOp P r ⟨dst, .extract x ix, ty, ps, af, g⟩ st = match evO P st.fr x with
    | some (.tuple vs) => (vs.toList[ix]?).map fun v => (v, st.H, st.n)
    | _ => none := rfl
@[simp] theorem run_build {qs : Array (Nat × Operand)} : runOp P r ⟨dst, .build t qs, ty, ps, af, g⟩ st = opBuild P t qs st.fr st.H st.n := rfl
@[simp] theorem run_buildSlice {k : Nat} {qs : Array (Nat × Operand)} : runOp P r ⟨dst, .buildSlice t k qs, ty, ps, af, g⟩ st = opBuildslice P t k qs st.fr st.H st.n := rfl
@[simp] theorem run_makeSlice : runOp P r ⟨dst, .makeSlice t x y, ty, ps, af, g⟩ st = opMakeslice P t x y st.fr st.H st.n := rfl
@[simp] theorem run_slice {lo hi mx : Option Operand} : runOp P r ⟨dst, .slice t x lo hi mx, ty, ps, af, g⟩ st = opSlice P t x lo hi mx st.fr st.H st.n := rfl
@[simp] theorem run_convert {s d : TypeId} : runOp P r ⟨dst, .convert s d x, ty, ps, af, g⟩ st = opConvert P s d x st.fr st.H st.n := rfl
@[simp] theorem run_makeFunc {fn : Fn} {a b : Array Operand} : runOp P r ⟨dst, .makeFunc fn a b, ty, ps, af, g⟩ st = opMakefunc P fn a b st.fr st.H st.n := rfl
@[simp] theorem run_builtin {b : Builtin} {as : Array Operand} {ts : Array TypeId} : runOp P r ⟨dst, .call ⟨.builtin b, as, ts⟩, ty, ps, af, g⟩ st = opBuiltin P b as ts ty st.fr st.H st.n := rfl
/-- a call of a function -/
@[simp] theorem run_call {f : FuncId} {as : Array Operand} {ts : Array TypeId} : runOp P r ⟨dst, .call ⟨.value (.func f), as, ts⟩, ty, ps, af, g⟩ st = match evOs P st.fr as.toList with
    | some vs => r.call f vs st.H st.n
    | none => none := by
  show vcallF P r (.func f) as st = _
  unfold vcallF target
  simp only [evO_func]
  cases evOs P st.fr as.toList <;> simp
theorem run_vcall_tmp {u : Tmp} {as : Array Operand} {ts : Array TypeId} : runOp P r ⟨dst, .call ⟨.value (.tmp u), as, ts⟩, ty, ps, af, g⟩ st = vcallF P r (.tmp u) as st := rfl
end

/-! ### slices that are written out -/
def partsOk (sz : Nat) : Nat → List (Nat × Value) → Bool
  | _, [] => true
  | i, (k, v) :: vs => decide (k = i) && decide (v.cells.size = sz) && partsOk sz (i + 1) vs
def bsRaw (P : Program) (elem : TypeId) (len : Nat) (vs : List (Nat × Value)) (H : Heap) (n : Nat) : R := match P.info? elem with
      | some i => match i.zero with
        | some z => if afL z.cells.toList && len * i.size ≤ 2 ^ 24 then
          match Instr.fill (fun k => some (k * i.size, i.size)) ((Array.range (len * i.size)).map ((if len * i.size = 0 then #[] else z.cells)[· % (if len * i.size = 0 then #[] else z.cells).size]!)) vs with
          | some cs => newA H n (.cells cs.toList elem) (.slice (some ⟨n, 0, none⟩) len len)
          | none => none
          else none
        | none => none
      | none => none
theorem foldl_set (v : List Value) : ∀ (k off : Nat) (cs : Array Value), off + k + v.length ≤ cs.size → ((v.zipIdx k).foldl (fun cs (c, j) => cs.setIfInBounds (off + j) c) cs).toList = cs.toList.take (off + k) ++ v ++ cs.toList.drop (off + k + v.length) := by
  induction v with
  | nil => intro k off cs h; simp
  | cons x v ih =>
    intro k off cs h
    simp only [List.length_cons] at h
    simp only [List.zipIdx_cons, List.foldl_cons]
    rw [ih (k + 1) off _ (by simp; omega)]
    simp only [Array.toList_setIfInBounds]
    rw [show off + (k + 1) = off + k + 1 by omega, List.take_set, List.drop_set]
    rw [if_pos (by omega)]
    have : off + k < cs.toList.length := by simp; omega
    rw [List.take_succ_eq_append_getElem this, List.set_append_right _ _ (by simp; omega)]
    simp only [List.length_take, Array.length_toList, List.length_cons]
    rw [show off + k - min (off + k) cs.size = 0 by omega]
    simp only [List.set_cons_zero, List.append_assoc, List.cons_append, List.nil_append]
    rw [show off + k + 1 + v.length = off + k + (v.length + 1) by omega]
theorem fill_parts (sz : Nat) : ∀ (vs : List (Nat × Value)) (i : Nat) (cells : Array Value), partsOk sz i vs = true → cells.size = (i + vs.length) * sz →
    Instr.fill (fun k => some (k * sz, sz)) cells vs = some (cells.toList.take (i * sz) ++ vs.flatMap (fun x => x.2.cells.toList)).toArray
  | [], i, cells, _, hs => by
    simp only [Instr.fill, List.flatMap_nil, List.append_nil]
    rw [List.take_of_length_le (by simp at hs ⊢; omega)]
  | (k, v) :: vs, i, cells, h, hs => by
    simp only [partsOk, Bool.and_eq_true, decide_eq_true_eq] at h
    obtain ⟨⟨rfl, hv⟩, h⟩ := h
    have hle : k * sz + v.cells.size ≤ cells.size := by
      rw [hv, hs, List.length_cons, show k + (vs.length + 1) = (k + 1) + vs.length by omega, Nat.add_mul, Nat.add_mul]; omega
    simp only [Instr.fill]
    rw [if_neg (by simp [hv]; rw [hv] at hle; omega)]
    have hf := foldl_set v.cells.toList 0 (k * sz) cells (by simp; omega)
    rw [show v.cells.zipIdx.foldl (fun cs (c, j) => cs.setIfInBounds (k * sz + j) c) cells = (v.cells.toList.zipIdx 0).foldl (fun cs (c, j) => cs.setIfInBounds (k * sz + j) c) cells by
      rw [← Array.foldl_toList, Array.toList_zipIdx]]
    generalize (v.cells.toList.zipIdx 0).foldl (fun cs (c, j) => cs.setIfInBounds (k * sz + j) c) cells = cs' at hf
    have hlen : cs'.size = cells.size := by
      rw [← Array.length_toList, hf]; simp; omega
    rw [fill_parts sz vs (k + 1) cs' h (by rw [hlen, hs, List.length_cons]; congr 1; omega), hf]
    have e1 : (k + 1) * sz = k * sz + v.cells.toList.length := by rw [Nat.add_mul, Array.length_toList, hv]; omega
    rw [e1]
    congr 2
    simp only [Nat.add_zero, List.flatMap_cons]
    rw [List.take_append_of_le_length (by simp; omega)]
    rw [List.take_of_length_le (by simp; omega), List.append_assoc]
/-- the cells of a slice that is written out -/
theorem bsRaw_eq (P : Program) (elem : TypeId) (len : Nat) (vs : List (Nat × Value)) (H : Heap) (n : Nat) : bsRaw P elem len vs H n = match szA P elem, zeroA P elem with
    | some sz, some z => if (partsOk sz 0 vs && decide (vs.length = len) && afL z.cells.toList && decide (len * sz ≤ 16777216)) = true then some (.slice (some ⟨n, 0, none⟩) len len, (n, .cells (vs.flatMap fun x => x.2.cells.toList) elem) :: H, n + 1) else bsRaw P elem len vs H n
    | _, _ => bsRaw P elem len vs H n := by
  cases hs : szA P elem with
  | none => rfl
  | some sz => cases hz : zeroA P elem with
    | none => rfl
    | some z =>
      simp only
      split
      · rename_i hc
        simp only [Bool.and_eq_true, decide_eq_true_eq] at hc
        obtain ⟨⟨⟨h1, h2⟩, h3⟩, h4⟩ := hc
        cases hi : P.info? elem with
        | none => simp [szA, hi] at hs
        | some i =>
          simp only [szA, hi, Option.map_some, Option.some.injEq] at hs
          simp only [zeroA, hi, Option.bind_some] at hz
          subst hs
          unfold bsRaw
          rw [hi]
          simp only [hz, h3, Bool.true_and]
          rw [if_pos (by simpa using h4), fill_parts i.size vs 0 _ h1 (by simp [h2])]
          simp [newA]
      · rfl
@[simp] theorem opBuildslice_eq {P : Program} {t : TypeId} {len : Nat} {ps : Array (Nat × Operand)} {fr : Fr} {H : Heap} {n : Nat} : opBuildslice P t len ps fr H n = match evPs P fr ps.toList, P.underlying t with
    | some vs, some (.slice elem) => (match szA P elem, zeroA P elem with
      | some sz, some z => if (partsOk sz 0 vs && decide (vs.length = len) && afL z.cells.toList && decide (len * sz ≤ 16777216)) = true then some (.slice (some ⟨n, 0, none⟩) len len, (n, .cells (vs.flatMap fun x => x.2.cells.toList) elem) :: H, n + 1) else bsRaw P elem len vs H n
      | _, _ => bsRaw P elem len vs H n)
    | _, _ => none := by
  simp only [← bsRaw_eq]
  rfl

/-! ### tables of contracts -/
abbrev Ent := FuncId × (List Value → Heap → Nat → R)
def EntOk (P : Program) (e : Ent) : Prop := ∀ args H n v H' n', e.2 args H n = some (v, H', n') → AC P e.1 args H n v H' n'
def tab : List Ent → Oracle
  | [], _, _, _, _ => none
  | (k, g) :: l, f, args, H, n => if k = f then g args H n else tab l f args H n
theorem tab_ok {P : Program} : ∀ (l : List Ent), (∀ e ∈ l, EntOk P e) → OracleOk P (tab l)
  | [], _ => fun f args H n v H' n' h => by simp [tab] at h
  | (k, g) :: l, hl => fun f args H n v H' n' h => by
    simp only [tab] at h
    split at h
    · rename_i hk; subst hk; exact hl _ (List.mem_cons_self ..) _ _ _ _ _ _ h
    · exact tab_ok l (fun e he => hl e (List.mem_cons_of_mem _ he)) _ _ _ _ _ _ _ h
/-- calls by the table; nothing is entered -/
def recT (l : List Ent) : Rec := ⟨fun _ _ _ => none, fun f args H n => tab l f args H n⟩
theorem recT_ok {P : Program} {l : List Ent} (h : ∀ e ∈ l, EntOk P e) : RecOk P (recT l) 0 :=
  ⟨fun _ _ _ _ _ h => by simp [recT] at h, fun _ _ _ _ _ h => by simp [recT] at h, fun f args H n v H' n' hh => tab_ok l h _ _ _ _ _ _ _ hh⟩
@[simp] theorem recT_call (l : List Ent) (f : FuncId) (args : List Value) (H : Heap) (n : Nat) : (recT l).call f args H n = tab l f args H n := rfl
@[simp] theorem tab_nil (f : FuncId) (args : List Value) (H : Heap) (n : Nat) : tab [] f args H n = none := rfl
@[simp] theorem tab_cons (k : FuncId) (g : List Value → Heap → Nat → R) (l : List Ent) (f : FuncId) (args : List Value) (H : Heap) (n : Nat) : tab ((k, g) :: l) f args H n = if k = f then g args H n else tab l f args H n := rfl
attribute [simp] opsF_nil opsF_cons oneF_plain
@[simp] theorem trim_nil (fr : Fr) : trim [] fr = [] := rfl
@[simp] theorem trim_cons (t : Nat) (ts : List Nat) (fr : Fr) : trim (t :: ts) fr = match lk fr t with
    | some v => (t, v) :: trim ts fr
    | none => trim ts fr := by
  unfold trim
  rw [List.filterMap_cons]
  cases lk fr t <;> rfl
attribute [simp] opsS oneS doneS pureS readS aloneS isPure isRead footA blkOf readA memN lookTmps tmpsOf guardTmp Op.operands Call.operands wantedA namesOk opA opMove opPick opFieldaddr opLoad loadA cellA cellsA opField opIndexaddr opIndex opExtract flat opBuiltin builtinA appendA lenX lenV srcX srcA appendTo smallA zeroOk Value.cells newA oneL partsOk storeA putL yieldedA oneF_guard argsFr one
@[simp] theorem succ_le_self (i : Nat) : (i + 1 ≤ i) = False := eq_false (by omega)
attribute [simp] hdel hset
attribute [simp] ren renL renB sc scL scB carried Blk.own rnm
abbrev iv (n : Int) : Value := .int .i64 n
abbrev sv (s : ByteArray) : Value := .string s
abbrev fv (b : Nat) : Value := .float .f32 b
@[simp] theorem renL_iv (ρ : Nat → Nat) (l : List Int) : renL ρ (l.map iv) = l.map iv := by rw [renL_eq, List.map_map]; rfl
@[simp] theorem renL_sv (ρ : Nat → Nat) (l : List ByteArray) : renL ρ (l.map sv) = l.map sv := by rw [renL_eq, List.map_map]; rfl
@[simp] theorem renL_fv (ρ : Nat → Nat) (l : List Nat) : renL ρ (l.map fv) = l.map fv := by rw [renL_eq, List.map_map]; rfl
@[simp] theorem afL_iv : ∀ l : List Int, afL (l.map iv) = true
  | [] => rfl
  | _ :: l => by simp [afL_iv l]
@[simp] theorem afL_sv : ∀ l : List ByteArray, afL (l.map sv) = true
  | [] => rfl
  | _ :: l => by simp [afL_sv l]
@[simp] theorem afL_fv : ∀ l : List Nat, afL (l.map fv) = true
  | [] => rfl
  | _ :: l => by simp [afL_fv l]
@[simp] theorem scL_iv (p : Nat → Prop) (l : List Int) : scL p (l.map iv) := scL_af p _ (afL_iv l)
@[simp] theorem scL_sv (p : Nat → Prop) (l : List ByteArray) : scL p (l.map sv) := scL_af p _ (afL_sv l)
@[simp] theorem scL_fv (p : Nat → Prop) (l : List Nat) : scL p (l.map fv) := scL_af p _ (afL_fv l)
@[simp] theorem denL_iv (φ : Vl) (l : List Int) : denL φ (l.map iv) = l.map iv := denL_af φ _ (afL_iv l)
@[simp] theorem oneL_iv : ∀ l : List Int, oneL (l.map iv) = true
  | [] => rfl
  | _ :: l => by simp [oneL, oneL_iv l]
@[simp] theorem renL_append (ρ : Nat → Nat) (a b : List Value) : renL ρ (a ++ b) = renL ρ a ++ renL ρ b := by simp [renL_eq]
@[simp] theorem scL_append (p : Nat → Prop) (a b : List Value) : scL p (a ++ b) = (scL p a ∧ scL p b) := by
  apply propext
  simp only [scL_iff, List.mem_append]
  exact ⟨fun h => ⟨fun v hv => h v (.inl hv), fun v hv => h v (.inr hv)⟩, fun h v hv => hv.elim (h.1 v) (h.2 v)⟩
@[simp] theorem afL_append : ∀ a b : List Value, afL (a ++ b) = (afL a && afL b)
  | [], b => by simp
  | x :: a, b => by simp [afL_append a b, Bool.and_assoc]
@[simp] theorem int_lt_succ (i : Int) : (i < i + 1) = True := eq_true (by omega)
@[simp] theorem int_nonneg_succ (i : Nat) : ((0 : Int) ≤ (i : Int) + 1) = True := eq_true (by omega)
@[simp] theorem int_toNat_succ (i : Nat) : ((i : Int) + 1).toNat = i + 1 := by omega
theorem W_in {x : Int} (h1 : -9223372036854775808 ≤ x) (h2 : x ≤ 9223372036854775807) : IntKind.i64.wrap x = x := IntWalk.i64_in x (by omega)
end Go.Ab

/-
Regions whose order is open, with calls and with blocks made on the way.
-/
namespace Go.Ab
open Go
/-- the blocks that a call may see -/
def dnames : Heap → List Nat
  | [] => []
  | (k, .cells _ _) :: H | (k, .ext _ _ _) :: H | (k, .inp _ _) :: H | (k, .row _ _) :: H | (k, .tab _) :: H => k :: dnames H
  | _ :: H => dnames H
def visT (late : List Nat) (n0 i n : Nat) (see : List Nat) : Bool := (memN late i && see.all (Nat.blt · n)) || see.all (Nat.blt · n0)
def readT (P : Program) (late : List Nat) (n0 i : Nat) (o : Oper) (fr : Fr) (st : St) (see : List Nat) : Option St :=
  match visT late n0 i st.n see with
  | true => match opA P o fr (readA see st.H) st.n with
    | some (v, _, _) => some { st with fr := putA st.fr o.dst v }
    | none => none
  | false => none
def aloneT (P : Program) (r : Rec) (mk : List Nat) (i : Nat) (o : Oper) (fr : Fr) (st : St) : Option St :=
  match runOp P r o { st with fr := fr } with
  | some (v, H, k) => match Nat.ble st.n k && namesOk k H && (Nat.beq k st.n || memN mk i) with
    | true => some { st with fr := putA st.fr o.dst v, H := H, n := k }
    | false => none
  | none => none
def handT (P : Program) (r : Rec) (mk : List Nat) (i : Nat) (o : Oper) (see : List Nat) (fr : Fr) (st : St) : Option St :=
  match runOp P r o { st with fr := fr, H := handA see [] st.H } with
  | some (v, H, k) => match Nat.ble st.n k && namesOk k (takeNew st.n H) && (Nat.beq k st.n || memN mk i) with
    | true => some { st with fr := putA st.fr o.dst v, H := takeNew st.n H ++ st.H, n := k }
    | false => none
  | none => none
def doneT (P : Program) (r : Rec) (al mk late : List Nat) (n0 i : Nat) (o : Oper) (fr : Fr) (st : St) : Option St :=
  match isPure o.op with
  | true => pureS P o fr st
  | false => match isRead o.op with
    | true => match footA P fr o.op with
      | some f => readT P late n0 i o fr st f.see
      | none => none
    | false => match memN al i with
      | true => aloneT P r mk i o fr st
      | false => match footA P fr o.op with
        | some f => match f.put.isEmpty && visT late n0 i st.n f.see with
          | true => handT P r mk i o f.see fr st
          | false => none
        | none => match memN late i with
          | true => handT P r mk i o (dnames st.H) fr st
          | false => none
def oneT (P : Program) (r : Rec) (ops : Array Oper) (al mk late : List Nat) (n0 i : Nat) (o : Oper) (st : St) : Option St :=
  match dstOk st.sz o.dst with
  | false => none
  | true => match wantedA ops (trim (lookTmps ops o) st.fr) o with
    | none => none
    | some false => some { st with fr := putA st.fr o.dst undefV }
    | some true => doneT P r al mk late n0 i o (trim (lookTmps ops o) st.fr) st
def opsT (P : Program) (r : Rec) (ops : Array Oper) (al mk late : List Nat) (n0 : Nat) : List Oper → Nat → St → Option St
  | [], _, st => some st
  | o :: os, i, st => match oneT P r ops al mk late n0 i o st with
    | some st' => opsT P r ops al mk late n0 os (i + 1) st'
    | none => none
def runT (P : Program) (r : Rec) (ops : Array Oper) (al mk late : List Nat) (st : St) : Option St :=
  match namesOk st.n st.H with
  | true => opsT P r ops al mk late st.n ops.toList 0 st
  | false => none
def alEq (ops : Array Oper) (bef : Array Nat) (al : List Nat) : List Oper → Nat → Bool
  | [], _ => true
  | o :: os, i => (isPure o.op || isRead o.op || memN al i == aloneA bef i ops.toList 0) && alEq ops bef al os (i + 1)
def lateOk (bef : Array Nat) (mk late : List Nat) : Bool := late.all fun i => mk.all fun d => Nat.ble i d || ahead bef d i
structure InvT (mk : List Nat) (n0 i : Nat) (ds : List Done) (st : St) : Prop where
  put : ∀ d ∈ ds, d.put = []
  cov : ∀ k, n0 ≤ k → k < st.n → ∃ d ∈ ds, d.lo ≤ k ∧ k < d.hi ∧ memN mk d.i = true ∧ d.i < i
  nam : ∀ x ∈ st.H, x.1 < st.n
theorem namesOk_mem : ∀ (H : Heap) (k : Nat), namesOk k H = true → ∀ x ∈ H, x.1 < k
  | [], _, _, x, hx => by cases hx
  | (j, b) :: H, k, h, x, hx => by
    simp only [namesOk] at h
    split at h
    · rename_i hj
      rcases List.mem_cons.1 hx with rfl | hx
      · exact (blt_iff _ _).1 hj
      · exact namesOk_mem H k h x hx
    · cases h
theorem lateOk_vis {bef : Array Nat} {mk late : List Nat} (hl : lateOk bef mk late = true) {n0 i : Nat} (hi : memN late i = true) {ds : List Done} {st : St} (hI : InvT mk n0 i ds st) {k : Nat} (hk : k < st.n) : visA bef n0 i ds k = true := by
  unfold visA
  rw [Bool.or_eq_true]
  rcases Nat.lt_or_ge k n0 with h | h
  · exact .inl ((blt_iff _ _).2 h)
  · obtain ⟨d, hd, h1, h2, h3, h4⟩ := hI.cov k h hk
    refine .inr (List.any_eq_true.2 ⟨d, hd, ?_⟩)
    have := List.all_eq_true.1 (List.all_eq_true.1 hl i ((memN_iff _ _).1 hi)) d.i ((memN_iff _ _).1 h3)
    rw [Bool.or_eq_true] at this
    rcases this with h | h
    · have := Nat.le_of_ble_eq_true h
      omega
    · simp only [Bool.and_eq_true]
      exact ⟨⟨Nat.ble_eq_true_of_le h1, (blt_iff _ _).2 h2⟩, h⟩
theorem footT {bef : Array Nat} {mk late : List Nat} (hl : lateOk bef mk late = true) {n0 i : Nat} {ds : List Done} {st : St} (hI : InvT mk n0 i ds st) {see : List Nat} (h : visT late n0 i st.n see = true) : footOk bef n0 i ds see [] = true := by
  unfold footOk
  simp only [Bool.and_eq_true]
  refine ⟨⟨List.all_eq_true.2 fun d hd => ?_, List.all_eq_true.2 fun k hk => ?_⟩, rfl⟩
  · simp [disj, hI.put d hd]
  · unfold visT at h
    rw [Bool.or_eq_true] at h
    rcases h with h | h
    · rw [Bool.and_eq_true] at h
      exact lateOk_vis hl h.1 hI ((blt_iff _ _).1 (List.all_eq_true.1 h.2 k hk))
    · have := List.all_eq_true.1 h k hk
      unfold visA
      rw [this, Bool.true_or]
theorem seeCall_dnames {bef : Array Nat} {n0 i : Nat} {ds : List Done} (hp : ∀ d ∈ ds, d.put = []) : ∀ H : Heap, (∀ x ∈ H, visA bef n0 i ds x.1 = true) → seeCall bef n0 i ds H = dnames H
  | [], _ => rfl
  | (k, b) :: H, hv => by
    have ih := seeCall_dnames hp H fun x hx => hv x (List.mem_cons_of_mem _ hx)
    have h1 := hv _ (List.mem_cons_self ..)
    have h2 : (ds.all fun d => ahead bef d.i i || !memN d.put k) = true := List.all_eq_true.2 fun d hd => by rw [hp d hd]; simp [memN]
    cases b <;> simp only [seeCall, dnames, h1, h2, ih, Bool.and_self, if_true]
theorem dnames_mem : ∀ (H : Heap) (k : Nat), k ∈ dnames H → ∃ b, (k, b) ∈ H
  | [], k, h => by cases h
  | (j, b) :: H, k, h => by
    have go : k ∈ dnames H → ∃ b', (k, b') ∈ (j, b) :: H := fun h => by
      obtain ⟨b', h'⟩ := dnames_mem H k h
      exact ⟨b', List.mem_cons_of_mem _ h'⟩
    cases b <;> simp only [dnames] at h
    all_goals first
      | exact go h
      | rcases List.mem_cons.1 h with rfl | h
        · exact ⟨_, List.mem_cons_self ..⟩
        · exact go h
theorem InvT.same {mk : List Nat} {n0 i : Nat} {ds : List Done} {st : St} (hI : InvT mk n0 i ds st) {fr : Fr} : InvT mk n0 (i + 1) ds { st with fr := fr } :=
  ⟨hI.put, fun k h1 h2 => by obtain ⟨d, a, b, c, e, f⟩ := hI.cov k h1 h2; exact ⟨d, a, b, c, e, by omega⟩, hI.nam⟩
theorem InvT.next {mk : List Nat} {n0 i : Nat} {ds : List Done} {st : St} (hI : InvT mk n0 i ds st) {fr : Fr} {see : List Nat} {H : Heap} {k : Nat} (hn : ∀ x ∈ H, x.1 < k) (hm : (Nat.beq k st.n || memN mk i) = true) : InvT mk n0 (i + 1) (⟨i, see, [], st.n, k⟩ :: ds) { st with fr := fr, H := H, n := k } := by
  refine ⟨fun d hd => ?_, fun j h1 h2 => ?_, hn⟩
  · rcases List.mem_cons.1 hd with rfl | hd
    · rfl
    · exact hI.put d hd
  · rcases Nat.lt_or_ge j st.n with h | h
    · obtain ⟨d, a, b, c, e, f⟩ := hI.cov j h1 h
      exact ⟨d, List.mem_cons_of_mem _ a, b, c, e, by omega⟩
    · rw [Bool.or_eq_true] at hm
      have h2 : j < k := h2
      rcases hm with hm | hm
      · have := Nat.eq_of_beq_eq_true hm
        omega
      · exact ⟨_, List.mem_cons_self .., h, h2, hm, Nat.lt_succ_self _⟩
theorem handT_ok {P : Program} {r : Rec} {bef : Array Nat} {mk : List Nat} {n0 i : Nat} {ds : List Done} {o : Oper} {fr : Fr} {st st' : St} (hI : InvT mk n0 i ds st) {see : List Nat} (hf : footOk bef n0 i ds see [] = true) (h : handT P r mk i o see fr st = some st') : ∃ ds', handOp P r bef n0 i ds o see [] fr st = some (st', ds') ∧ InvT mk n0 (i + 1) ds' st' := by
  have hb : ∀ (H' H : Heap), backA [] H' H = H := fun H' H => by
    induction H with
    | nil => rfl
    | cons x H ih => obtain ⟨k, b⟩ := x; simp only [backA, memN, ih]
  unfold handT at h
  unfold handOp
  rw [hf]
  simp only
  split at h
  · rename_i v H k hv
    rw [hv]
    simp only
    split at h
    · rename_i hc
      simp only [Bool.and_eq_true] at hc
      injection h with h; subst h
      rw [hc.1.1, hc.1.2]
      simp only [hb, Bool.and_self]
      have hle := Nat.le_of_ble_eq_true hc.1.1
      refine ⟨_, rfl, hI.next (fun x hx => ?_) hc.2⟩
      rcases List.mem_append.1 hx with hx | hx
      · exact namesOk_mem _ _ hc.1.2 x hx
      · exact Nat.lt_of_lt_of_le (hI.nam x hx) hle
    · cases h
  · cases h
theorem opsT_ok {P : Program} {r : Rec} {ops : Array Oper} {bef : Array Nat} {al mk late : List Nat} (hl : lateOk bef mk late = true) {n0 : Nat} : ∀ (os : List Oper) (i : Nat) (st st' : St) (ds : List Done), alEq ops bef al os i = true → InvT mk n0 i ds st → opsT P r ops al mk late n0 os i st = some st' → opsD P r ops bef n0 os i ds st = some st'
  | [], _, st, st', ds, _, _, h => h
  | o :: os, i, st, st', ds, hal, hI, h => by
    simp only [alEq, Bool.and_eq_true, Bool.or_eq_true, beq_iff_eq] at hal
    have halo : isPure o.op = false → isRead o.op = false → memN al i = aloneA bef i ops.toList 0 := fun h1 h2 => by
      rcases hal.1 with (h | h) | h
      · rw [h1] at h; cases h
      · rw [h2] at h; cases h
      · exact h
    simp only [opsT] at h
    split at h
    · rename_i st1 h1
      have key : ∃ ds', oneD P r ops bef n0 i ds o st = some (st1, ds') ∧ InvT mk n0 (i + 1) ds' st1 := by
        unfold oneT at h1
        unfold oneD
        split at h1
        · cases h1
        · rename_i hd
          rw [hd]
          simp only
          split at h1
          · cases h1
          · rename_i hw
            rw [hw]
            injection h1 with h1; subst h1
            exact ⟨ds, rfl, hI.same⟩
          · rename_i hw
            rw [hw]
            simp only
            unfold doneT at h1
            unfold doneD
            split at h1
            · rename_i hp
              rw [hp]
              simp only
              unfold pureS at h1
              unfold pureOp
              split at h1
              · rename_i v a k hv
                rw [hv]
                simp only
                split at h1
                · rename_i hk
                  rw [hk]
                  injection h1 with h1; subst h1
                  exact ⟨ds, rfl, hI.same⟩
                · cases h1
              · cases h1
            · rename_i hp
              rw [hp]
              simp only
              split at h1
              · rename_i hrd
                rw [hrd]
                simp only
                split at h1
                · rename_i f hf
                  rw [hf]
                  simp only
                  unfold readT at h1
                  split at h1
                  · rename_i hv
                    unfold readOp
                    rw [footT hl hI hv]
                    simp only
                    split at h1
                    · rename_i v a b hv
                      rw [hv]
                      injection h1 with h1; subst h1
                      exact ⟨_, rfl, hI.next hI.nam (by simp)⟩
                    · cases h1
                  · cases h1
                · cases h1
              · rename_i hrd
                rw [hrd]
                simp only
                split at h1
                · rename_i hm
                  have ha : aloneA bef i ops.toList 0 = true := by rw [← halo hp hrd, hm]
                  rw [ha]
                  simp only
                  unfold aloneT at h1
                  unfold aloneOp
                  split at h1
                  · rename_i v H k hv
                    rw [hv]
                    simp only
                    split at h1
                    · rename_i hk
                      simp only [Bool.and_eq_true] at hk
                      rw [hk.1.1, hk.1.2]
                      injection h1 with h1; subst h1
                      exact ⟨_, rfl, hI.next (namesOk_mem _ _ hk.1.2) hk.2⟩
                    · cases h1
                  · cases h1
                · rename_i hm
                  have ha : aloneA bef i ops.toList 0 = false := by rw [← halo hp hrd, hm]
                  rw [ha]
                  simp only
                  split at h1
                  · rename_i f hf
                    rw [hf]
                    simp only
                    split at h1
                    · rename_i hv
                      rw [Bool.and_eq_true] at hv
                      rw [List.isEmpty_iff.1 hv.1]
                      exact handT_ok hI (footT hl hI hv.2) h1
                    · cases h1
                  · rename_i hf
                    rw [hf]
                    simp only
                    split at h1
                    · rename_i hv
                      have hvis : ∀ k, k < st.n → visA bef n0 i ds k = true := fun k hk => lateOk_vis hl hv hI hk
                      rw [seeCall_dnames hI.put st.H fun x hx => hvis _ (hI.nam x hx)]
                      refine handT_ok hI (footT hl hI ?_) h1
                      unfold visT
                      rw [hv]
                      simp only [Bool.true_and, Bool.or_eq_true]
                      refine .inl (List.all_eq_true.2 fun k hk => ?_)
                      obtain ⟨b, hb⟩ := dnames_mem _ _ hk
                      exact (blt_iff _ _).2 (hI.nam _ hb)
                    · cases h1
      obtain ⟨ds', h2, hI'⟩ := key
      simp only [opsD, h2]
      exact opsT_ok hl os (i + 1) st1 st' ds' hal.2 hI' h
    · cases h
def drawT (ops : Array Oper) (bef : Array Nat) (al mk late : List Nat) : Bool := drawOk ops bef && alEq ops bef al ops.toList 0 && lateOk bef mk late
section
variable {P : Program} {n0 : Nat} {ro : Option Nat} {st st' : St} {K : Ex → St → Prop} {r : Rec} {m : Nat}
/-- 'al': what stands alone; 'mk': what may make blocks; 'late': what comes behind all makers that stand ahead of it in the text -/
theorem E.drawC (hm : P.follows .mixedOrders = true) (hr : RecOk P r m) (al mk late : List Nat) {id : Nat} {ops : Array Oper} (hd : drawT ops (Region.before ops) al mk late = true) (h : runT P r ops al mk late st = some st') (k : K .normal st') : E P n0 ro (.region id ops true) st K := by
  unfold drawT at hd
  simp only [Bool.and_eq_true] at hd
  unfold runT at h
  split at h
  · rename_i hn
    exact E.draw hm hr hd.1.1 (opsT_ok hd.2 _ _ _ _ [] hd.1.2 ⟨by simp, fun k h1 h2 => by omega, namesOk_mem _ _ hn⟩ h) k
  · cases h
end
attribute [simp] runT opsT oneT doneT handT aloneT readT visT dnames handA takeNew
end Go.Ab

/-
The evaluator's own recursion, as equations for rewriting.
-/
namespace Go.Ab
open Go
section
variable {P : Program} {O : Oracle} {m : Nat} {ro : Option Nat} {st : St}
theorem evc_skip : (ev P O (m + 1)).code ro .skip st = some (.normal, st) := rfl
theorem evc_ret : (ev P O (m + 1)).code ro .ret st = some (.ret, st) := rfl
theorem evc_exit {id : Nat} : (ev P O (m + 1)).code ro (.exit id) st = some (.exit id, st) := rfl
theorem evc_seq {a b : Code} : (ev P O (m + 1)).code ro (.seq a b) st = match (ev P O m).code ro a st with
  | some (.normal, st') => (ev P O m).code ro b st'
  | x => x := rfl
theorem evc_cond {c : Operand} {a b : Code} : (ev P O (m + 1)).code ro (.cond c a b) st = match evO P st.fr c with
  | some (.bool true) => (ev P O m).code ro a st
  | some (.bool false) => (ev P O m).code ro b st
  | _ => none := rfl
theorem evc_block {id : Nat} {b : Code} : (ev P O (m + 1)).code ro (.block id b) st = match (ev P O m).code ro b st with
  | some (.exit id', st') => (match Nat.beq id' id with
    | true => some (.normal, st')
    | false => some (.exit id', st'))
  | x => x := rfl
theorem evc_loop {b : Code} : (ev P O (m + 1)).code ro (.loop b) st = match (ev P O m).code ro b { st with fr := trim st.vs st.fr } with
  | some (.normal, st') => (ev P O m).code ro (.loop b) st'
  | x => x := rfl
theorem evc_reg {id : Nat} {ops : Array Oper} : (ev P O (m + 1)).code ro (.region id ops false) st = match opsF P (ev P O m) ops ops.toList st with
  | some st' => some (.normal, st')
  | none => none := rfl
theorem evc_range {f : Operand} {ps : Array Tmp} {a b : Code} : (ev P O (m + 1)).code ro (.rangeFunc f ps a b) st = rangeF P (ev P O m) ro f ps a b st := rfl
theorem ev_call {f : FuncId} {args : List Value} {H : Heap} {n : Nat} : (ev P O (m + 1)).call f args H n = match O f args H n with
  | some x => some x
  | none => match P.funcs[f]? with
    | none => none
    | some fn => match fn.body with
      | none => externF P f args H n
      | some c => match enterable P f && decide (args.length ≤ fn.ntmps) with
        | true => bodyF P (ev P O m) fn c args H n
        | false => none := rfl
end
end Go.Ab

/-
A record of answers that are given only where they are true: for functions that are ranged over.
-/
namespace Go.Ab
open Go
abbrev CodeSpec := Option Nat → Code → St → Option (Ex × St)
open Classical in
noncomputable def recV (P : Program) (C : CodeSpec) (F : Oracle) : Rec :=
  ⟨fun ro c s => match c with
    | .loop _ => none
    | c => match C ro c s with
      | some (e, s') => if AT P ro c s e s' then some (e, s') else none
      | none => none,
   fun f args H n => match F f args H n with
    | some (v, H', n') => if AC P f args H n v H' n' then some (v, H', n') else none
    | none => none⟩
theorem recV_ok {P : Program} {C : CodeSpec} {F : Oracle} : RecOk P (recV P C F) 0 where
  code := fun ro c st e st' h => by
    simp only [recV] at h
    split at h
    · cases h
    · split at h
      · split at h
        · rename_i ha
          injection h with h; injection h with h1 h2; subst h1 h2; exact ha
        · cases h
      · cases h
  loop := fun ro b st e st' h p φ a w hS hl Q hQ => by
    simp only [recV] at h
    cases h
  call := fun f args H n v H' n' h => by
    simp only [recV] at h
    split at h
    · split at h
      · rename_i ha
        injection h with h; injection h with h1 h2; injection h2 with h2 h3; subst h1 h2 h3; exact ha
      · cases h
    · cases h
theorem recV_code {P : Program} {C : CodeSpec} {F : Oracle} {ro : Option Nat} {c : Code} {s s' : St} {e : Ex} (hc : ∀ b, c ≠ .loop b) (h : C ro c s = some (e, s')) (ha : AT P ro c s e s') : (recV P C F).code ro c s = some (e, s') := by
  cases c with
  | loop b => exact absurd rfl (hc b)
  | _ => simp only [recV, h, if_pos ha]
theorem recV_call {P : Program} {C : CodeSpec} {F : Oracle} {f : FuncId} {args : List Value} {H H' : Heap} {n n' : Nat} {v : Value} (h : F f args H n = some (v, H', n')) (ha : AC P f args H n v H' n') : (recV P C F).call f args H n = some (v, H', n') := by
  simp only [recV]
  rw [h]; simp only; rw [if_pos ha]
/-- the piece, with its end as it was reckoned -/
theorem E.toAT {P : Program} {ro : Option Nat} {c : Code} {s s' : St} {e : Ex} (h : E P s.n ro c s fun e2 s2 => e2 = e ∧ s2 = s') : AT P ro c s e s' := by
  obtain ⟨e2, s2, hx, rfl, rfl⟩ := h
  exact ATX.at hx
end Go.Ab

/-
Other views of a state: names put anew beside a loop that is held, rows of which less is known, a row whose room is left open.
-/
namespace Go.Ab
open Go
/-! ### a held loop is carried over, its names are the caller's -/
mutual
theorem sc_and {p q : Nat → Prop} : ∀ v, sc p v → sc q v → sc (fun k => p k ∧ q k) v
  | .bool _, _, _ | .int _ _, _, _ | .float _ _, _, _ | .complex _ _ _, _, _ | .string _, _, _ | .nilFunc, _, _ | .nilIface, _, _ | .chan _, _, _ => by simp [sc]
  | .pointer none, _, _ | .slice none _ _, _, _ | .map none, _, _ => by simp [sc]
  | .pointer (some _), h1, h2 => ⟨h1, h2⟩
  | .slice (some _) _ _, h1, h2 => ⟨h1, h2⟩
  | .map (some _), h1, h2 => ⟨h1, h2⟩
  | .func (.yield l) a b, h1, h2 => by
    simp only [sc] at h1 h2 ⊢
    exact ⟨⟨h1.1, h2.1⟩, scL_and _ h1.2.1 h2.2.1, scL_and _ h1.2.2 h2.2.2⟩
  | .func (.func f) a b, h1, h2 | .func (.method f) a b, h1, h2 | .func (.methodOf _ f) a b, h1, h2 | .func (.via _ _ f _) a b, h1, h2 => by
    simp only [sc] at h1 h2 ⊢
    exact ⟨scL_and _ h1.1 h2.1, scL_and _ h1.2 h2.2⟩
  | .iface t v, h1, h2 => by simp only [sc] at h1 h2 ⊢; exact sc_and v h1 h2
  | .agg cs, h1, h2 => by simp only [sc] at h1 h2 ⊢; exact scL_and _ h1 h2
  | .tuple cs, h1, h2 => by simp only [sc] at h1 h2 ⊢; exact scL_and _ h1 h2
theorem scL_and {p q : Nat → Prop} : ∀ vs, scL p vs → scL q vs → scL (fun k => p k ∧ q k) vs
  | [], _, _ => trivial
  | v :: vs, h1, h2 => by simp only [scL] at h1 h2 ⊢; exact ⟨sc_and v h1.1 h2.1, scL_and vs h1.2 h2.2⟩
end
def heldB (n0 : Nat) : Blk → Prop
  | .loop _ _ fr _ _ _ _ _ d => d < n0 ∧ ∀ x ∈ fr, sc (· < n0) x.2
  | _ => True
theorem heldB_cases {n0 : Nat} {b : Blk} (h : heldB n0 b) : carried b ∨ (scB (· < n0) b ∧ (∀ ρ, renB ρ b = b) ∧ ∀ (P : Program) (p : Nat → Prop) (φ ψ : Vl) (j k : Nat) (o : Option Obj), Agr p φ ψ → scB p b → BRel P φ j b o → BRel P ψ k b o) := by
  cases b with
  | loop st pe fr sz vs ps a c d =>
    refine .inr ⟨⟨h.1, fun t v hv => h.2 (t, v) (lk_mem _ _ _ hv)⟩, fun _ => rfl, fun P p φ ψ j k o ha hs hb => ?_⟩
    obtain ⟨fn, tmps, ho, hf⟩ := hb
    exact ⟨fn, tmps, by rw [(ha d hs.1).1]; exact ho, hf.congr ha hs.2⟩
  | _ => exact .inl trivial
theorem scB_and {p q : Nat → Prop} : ∀ b, scB p b → scB q b → scB (fun k => p k ∧ q k) b
  | .cells cs _, h1, h2 | .ext cs _ _, h1, h2 | .inp _ cs, h1, h2 | .row cs _, h1, h2 | .tab cs, h1, h2 => scL_and cs h1 h2
  | .map _ _, h1, h2 => fun e he => ⟨sc_and _ (h1 e he).1 (h2 e he).1, sc_and _ (h1 e he).2 (h2 e he).2⟩
  | .iter _ _, _, _ | .defd, _, _ => trivial
  | .miter _ _ _ _, h1, h2 => fun r hr => ⟨h1 r hr, h2 r hr⟩
  | .loop .., h1, h2 => ⟨⟨h1.1, h2.1⟩, fun t v hv => sc_and v (h1.2 t v hv) (h2.2 t v hv)⟩
structure Renamed2 (n0 : Nat) (ρ : Nat → Nat) (s s2 : St) : Prop where
  le : n0 ≤ s2.n
  sz : s2.sz = s.sz
  marks : s.marks = [] ∧ s2.marks = []
  low : ∀ k, k < n0 → ρ k = k
  high : ∀ k, n0 ≤ k → k < s2.n → n0 ≤ ρ k ∧ ρ k < s.n
  inj : ∀ j k, j < s2.n → k < s2.n → ρ j = ρ k → j = k
  fr : ∀ x ∈ s2.fr, lk s.fr x.1 = some (ren ρ x.2) ∧ sc (· < s2.n) x.2
  heap : ∀ x ∈ s2.H, x.1 < s2.n ∧ hget s.H (ρ x.1) = some (renB ρ x.2) ∧ scB (· < s2.n) x.2 ∧ heldB n0 x.2 ∧ (x.2.own = false → ρ x.1 = x.1 ∧ renB ρ x.2 = x.2)
theorem Renamed2.step {P : Program} {n0 : Nat} {ρ : Nat → Nat} {s s2 : St} (h : Renamed2 n0 ρ s s2) {p : Nat → Prop} {φ φ1 : Vl} {M : Mp} {w0 w : World} {a : Act} (hg : ∀ g, g < P.globals.size → p g) (hp : ∀ k, p k → k < n0)
    (hS : SRel P (Nx p n0 s.n) φ1 s a w) (hs : Step P φ n0 M w0 φ1 s.n (hget s.H) w) : ∃ φ2, SRel P (Nx p n0 s2.n) φ2 s2 a w ∧ Step P φ n0 M w0 φ2 s2.n (hget s2.H) w := by
  let φ2 : Vl := ⟨fun k => if n0 ≤ k ∧ k < s2.n then φ1.loc (ρ k) else φ.loc k, fun k => if n0 ≤ k ∧ k < s2.n then φ1.cap (ρ k) else φ.cap k⟩
  have hlow : ∀ k, k < n0 → φ2.loc k = φ.loc k ∧ φ2.cap k = φ.cap k := fun k hk => by simp only [φ2]; rw [if_neg (by omega), if_neg (by omega)]; exact ⟨rfl, rfl⟩
  have hmid : ∀ k, n0 ≤ k → k < s2.n → φ2.loc k = φ1.loc (ρ k) ∧ φ2.cap k = φ1.cap (ρ k) := fun k h1 h2 => by simp only [φ2]; rw [if_pos ⟨h1, h2⟩, if_pos ⟨h1, h2⟩]; exact ⟨rfl, rfl⟩
  have hrn : Rn (Nx p n0 s2.n) ρ φ1 φ2 := fun k hk => by
    rcases hk with hk | hk
    · have hk0 := hp k hk
      rw [(hlow k hk0).1, (hlow k hk0).2, h.low k hk0, (hs.only k (.inl hk0)).1, (hs.only k (.inl hk0)).2]
      exact ⟨rfl, rfl⟩
    · exact hmid k hk.1 hk.2
  have hnx : ∀ k, Nx p n0 s.n (ρ k) ∧ k < s2.n → Nx p n0 s2.n k := fun k hk => by
    by_cases h0 : k < n0
    · have := hk.1
      rw [h.low k h0] at this
      rcases this with h1 | h1
      · exact .inl h1
      · omega
    · exact .inr ⟨by omega, hk.2⟩
  have hscv : ∀ v, sc (Nx p n0 s.n) (ren ρ v) → sc (· < s2.n) v → sc (Nx p n0 s2.n) v := fun v h1 h2 => sc_mono hnx v (sc_ren v h1 h2)
  have hpl : ∀ k, Nx p n0 s.n k ∧ k < n0 → p k := fun k hk => by
    rcases hk.1 with h1 | h1
    · exact h1
    · omega
  have hH : ∀ k b, hget s2.H k = some b → Nx p n0 s2.n k ∧ hget s.H (ρ k) = some (renB ρ b) ∧ scB (Nx p n0 s2.n) b ∧ (BRel P φ1 (ρ k) (renB ρ b) w.heap[φ1.loc (ρ k)]? → BRel P φ2 k b w.heap[φ1.loc (ρ k)]?) ∧ (b.own = false → ρ k = k ∧ renB ρ b = b) := fun k b hk => by
    obtain ⟨h1, h2, h3, h4, h5⟩ := h.heap (k, b) (hget_mem _ _ _ hk)
    have hsm := hS.base.sm _ _ h2
    have hn := hnx k ⟨hsm.1, h1⟩
    rcases heldB_cases h4 with h4 | ⟨g1, g2, g3⟩
    · have := scB_mono hnx _ (scB_ren b h4 hsm.2 h3)
      exact ⟨hn, h2, this, BRel.ren hrn hn h4 this, h5⟩
    · have h6 := hsm.2
      simp only [g2] at h6
      have h7 : scB p b := scB_mono hpl _ (scB_and b h6 g1)
      refine ⟨hn, h2, scB_mono (fun _ h => .inl h) _ h7, fun hb => ?_, h5⟩
      rw [g2] at hb
      refine g3 P p φ1 φ2 _ k _ (fun j hj => ?_) h7 hb
      have hj0 := hp j hj
      rw [(hlow j hj0).1, (hlow j hj0).2, (hs.only j (.inl hj0)).1, (hs.only j (.inl hj0)).2]
      exact ⟨rfl, rfl⟩
  have hlt : ∀ k, Nx p n0 s2.n k → k < s2.n := fun k hk => Nx.lt hp h.le hk
  have hrel : HRel P φ2 (hget s2.H) w := by
    refine ⟨fun k b hk => ?_, fun k b k' b' h1 h2 hne ho => ?_, fun g hg' => ?_⟩
    · obtain ⟨hn, h2, h3, h4, _⟩ := hH k b hk
      rw [(hrn k hn).1]
      exact h4 (hS.base.rel.blk _ _ h2)
    · obtain ⟨n1, e1, _, _, _⟩ := hH k b h1
      obtain ⟨n2, e2, _, _, _⟩ := hH k' b' h2
      rw [(hrn k n1).1, (hrn k' n2).1]
      exact hS.base.rel.apart _ _ _ _ e1 e2 (fun e => hne (h.inj k k' (hlt k n1) (hlt k' n2) e)) (by rw [renB_own]; exact ho)
    · have := hp g (hg g hg')
      rw [(hlow g this).1, ← (hs.only g (.inl this)).1]
      exact hS.base.rel.glob g hg'
  refine ⟨φ2, ⟨⟨hrel, hlt, fun g hg' => .inl (hg g hg'), ?_, fun k b hk => ⟨(hH k b hk).1, (hH k b hk).2.2.1⟩, fun t v hv => ?_, fun t v hv => ?_⟩, ?_, ?_, ?_⟩, h.le, fun k hk => ?_, hrel, fun k b hk ho => ?_, fun k b hk ho => ?_, hs.frm⟩
  · refine Nat.le_of_not_lt fun hc => ?_
    have := hp _ (hg _ hc)
    have := h.le
    omega
  · obtain ⟨h1, h2⟩ := h.fr (t, v) (lk_mem _ _ _ hv)
    have hsf := hS.base.sf t _ h1
    rw [hS.base.ar t _ h1, den_ren hrn v (hscv v hsf h2)]
  · obtain ⟨h1, h2⟩ := h.fr (t, v) (lk_mem _ _ _ hv)
    exact hscv v (hS.base.sf t _ h1) h2
  · rw [h.sz]; exact hS.size
  · rw [h.marks.2, hS.defs, h.marks.1]; rfl
  · rw [h.marks.2]; simp
  · rcases hk with hk | hk
    · exact hlow k hk
    · simp only [φ2]; rw [if_neg (by omega), if_neg (by omega)]; exact ⟨rfl, rfl⟩
  · obtain ⟨hn, h2, _, _, _⟩ := hH k b hk
    rw [(hrn k hn).1]
    exact hs.new _ _ h2 (by rw [renB_own]; exact ho)
  · obtain ⟨hn, h2, _, _, h5⟩ := hH k b hk
    have := hs.inp _ _ h2 (by rw [renB_own]; exact ho)
    rw [(h5 ho).1, (h5 ho).2] at this
    exact this
/-- as 'Leads.ren', beside held loops whose names are the caller's -/
theorem Leads.ren2 {P : Program} {n0 : Nat} {s s2 : St} (olds : List Nat) (ho : oldsOk n0 s.n olds = true) (hn : s2.n = n0 + olds.length) (hz : s2.sz = s.sz) (hm : s.marks = [] ∧ s2.marks = [])
    (hf : ∀ x ∈ s2.fr, lk s.fr x.1 = some (Ab.ren (rnm n0 olds) x.2) ∧ sc (· < s2.n) x.2)
    (hh : ∀ x ∈ s2.H, x.1 < s2.n ∧ hget s.H (rnm n0 olds x.1) = some (renB (rnm n0 olds) x.2) ∧ scB (· < s2.n) x.2 ∧ heldB n0 x.2 ∧ (x.2.own = false → rnm n0 olds x.1 = x.1 ∧ renB (rnm n0 olds) x.2 = x.2)) : Leads P n0 s s2 := by
  have hr := Leads.ren (P := P) (s := s) (s2 := { s2 with fr := [], H := [] }) olds ho hn hz hm (by simp) (by simp)
  obtain ⟨hk, hd⟩ := oldsOk_spec olds ho
  have hget : ∀ k, n0 ≤ k → k < s2.n → ∃ h : k - n0 < olds.length, rnm n0 olds k = olds[k - n0] := fun k h1 h2 => by
    refine ⟨by omega, ?_⟩
    unfold rnm
    rw [if_neg (by omega), List.getD_eq_getElem?_getD, List.getElem?_eq_getElem (by omega)]
    rfl
  have h2 : Renamed2 n0 (rnm n0 olds) s s2 := ⟨by omega, hz, hm, fun k h => by unfold rnm; rw [if_pos h], fun k h1 h2 => by
      obtain ⟨h, e⟩ := hget k h1 h2
      rw [e]; exact hk _ (List.getElem_mem h), fun j k h1 h2 he => by
    by_cases hj : j < n0
    · by_cases hk' : k < n0
      · unfold rnm at he; rw [if_pos hj, if_pos hk'] at he; exact he
      · obtain ⟨h, e⟩ := hget k (by omega) h2
        have := hk _ (List.getElem_mem h)
        rw [← e, ← he] at this
        unfold rnm at this; rw [if_pos hj] at this; omega
    · obtain ⟨h, e⟩ := hget j (by omega) h1
      by_cases hk' : k < n0
      · have := hk _ (List.getElem_mem h)
        rw [← e, he] at this
        unfold rnm at this; rw [if_pos hk'] at this; omega
      · obtain ⟨h', e'⟩ := hget k (by omega) h2
        rw [e, e'] at he
        have hne : ∀ (x y : Nat) (hx : x < olds.length) (hy : y < olds.length), x < y → olds[x] ≠ olds[y] := fun x y hx hy hlt => List.pairwise_iff_getElem.1 hd x y hx hy hlt
        rcases Nat.lt_trichotomy (j - n0) (k - n0) with hlt | heq | hlt
        · exact absurd he (hne _ _ _ _ hlt)
        · omega
        · exact absurd he.symm (hne _ _ _ _ hlt), hf, hh⟩
  exact fun p φ M w0 hg hp a w φ1 hS hs => h2.step hg hp hS hs
/-! ### less is known of a row of open room -/
theorem Leads.short {P : Program} {n0 : Nat} {s s2 : St} (b : Nat) (cs rest : List Value) (t : TypeId) (sz : Nat) (hb : hget s.H b = some (.ext (cs ++ rest) t sz)) (hn : s2.n = s.n) (hz : s2.sz = s.sz) (hm : s2.marks = s.marks) (hf : ∀ x ∈ s2.fr, lk s.fr x.1 = some x.2)
    (hh : ∀ x ∈ s2.H, (x.1 = b ∧ x.2 = .ext cs t sz) ∨ hget s.H x.1 = some x.2) : Leads P n0 s s2 := by
  intro p φ M w0 hg hp a w φ1 hS hs
  have hf' : ∀ t v, lk s2.fr t = some v → lk s.fr t = some v := fun t v h => hf (t, v) (lk_mem _ _ _ h)
  have hh' : ∀ k x, hget s2.H k = some x → (k = b ∧ x = .ext cs t sz) ∨ hget s.H k = some x := fun k x h => hh (k, x) (hget_mem _ _ _ h)
  have hold : ∀ k x, hget s2.H k = some x → ∃ y, hget s.H k = some y ∧ y.own = x.own := fun k x h => by
    rcases hh' k x h with ⟨rfl, rfl⟩ | h
    · exact ⟨_, hb, rfl⟩
    · exact ⟨x, h, rfl⟩
  have hrel : HRel P φ1 (hget s2.H) w := by
    refine ⟨fun k x h => ?_, fun k x k' x' h1 h2 hne ho => ?_, hS.base.rel.glob⟩
    · rcases hh' k x h with ⟨rfl, rfl⟩ | h
      · obtain ⟨c, e1, e2, e3⟩ := hS.base.rel.blk _ _ hb
        refine ⟨c, e1, ?_, e3⟩
        have := congrArg (List.take cs.length) e2
        rw [denL_append, List.take_append_of_le_length (l₁ := denL φ1 cs) (by simp), List.take_of_length_le (l := denL φ1 cs) (by simp), List.take_take, List.length_append, Nat.min_eq_left (by omega)] at this
        exact this
      · exact hS.base.rel.blk _ _ h
    · obtain ⟨y, g1, g2⟩ := hold k x h1
      obtain ⟨y', g3, _⟩ := hold k' x' h2
      exact hS.base.rel.apart _ _ _ _ g1 g3 hne (g2.trans ho)
  have hsm : SM (Nx p n0 s.n) (hget s2.H) := fun k x h => by
    rcases hh' k x h with ⟨rfl, rfl⟩ | h
    · obtain ⟨h1, h2⟩ := hS.base.sm _ _ hb
      refine ⟨h1, ?_⟩
      simp only [scB, scL_iff] at h2 ⊢
      exact fun v hv => h2 v (List.mem_append_left _ hv)
    · exact hS.base.sm _ _ h
  rw [hn]
  refine ⟨φ1, ⟨⟨hrel, hn ▸ hS.base.lt, hS.base.gl, hn ▸ hS.base.gn, hsm, fun t v hv => hS.base.ar t v (hf' t v hv), fun t v hv => hS.base.sf t v (hf' t v hv)⟩, hz ▸ hS.size, hm ▸ hS.defs, hm ▸ hS.marks⟩, hs.le, hs.only, hrel, fun k x hk ho => ?_, fun k x hk ho => ?_, hs.frm⟩
  · obtain ⟨y, g1, g2⟩ := hold k x hk
    exact hs.new _ _ g1 (g2.trans ho)
  · rcases hh' k x hk with ⟨rfl, rfl⟩ | h
    · cases ho
    · exact hs.inp _ _ h ho
/-! ### a row of a known room is looked at as one of open room -/
/- no slice of open room lies in block b -/
mutual
def nsp (b : Nat) : Value → Prop
  | .slice (some a) _ _ => a.block = b → a.spot = none
  | .func _ x y => nspL b x.toList ∧ nspL b y.toList
  | .iface _ v => nsp b v
  | .agg cs => nspL b cs.toList
  | .tuple vs => nspL b vs.toList
  | _ => True
def nspL (b : Nat) : List Value → Prop
  | [] => True
  | v :: vs => nsp b v ∧ nspL b vs
end
def agrL (φ ψ : Vl) (b : Nat) : Prop := (∀ k, ψ.loc k = φ.loc k) ∧ ∀ k, k ≠ b → ψ.cap k = φ.cap k
mutual
theorem den_nsp {φ ψ : Vl} {b : Nat} (h : agrL φ ψ b) : ∀ v, nsp b v → den ψ v = den φ v
  | .bool _, _ | .int _ _, _ | .float _ _, _ | .complex _ _ _, _ | .string _, _ | .nilFunc, _ | .nilIface, _ | .chan _, _ => by simp [den]
  | .pointer none, _ | .slice none _ _, _ | .map none, _ => by simp [den]
  | .pointer (some a), _ => by simp [den, h.1]
  | .slice (some ⟨k, o, none⟩) l c, _ => by simp [den, h.1]
  | .slice (some ⟨k, o, some j⟩) l c, hs => by
    have : k ≠ b := fun e => by
      have := hs e
      cases this
    simp [den, h.1, h.2 k this]
  | .map (some r), _ => by simp [den, h.1]
  | .func (.yield l) a c, hs => by
    simp only [nsp] at hs
    simp only [den]
    rw [denL_nsp h _ hs.1, denL_nsp h _ hs.2, h.1]
  | .func (.func f) a c, hs | .func (.method f) a c, hs | .func (.methodOf _ f) a c, hs | .func (.via _ _ f _) a c, hs => by
    simp only [nsp] at hs
    simp only [den]
    rw [denL_nsp h _ hs.1, denL_nsp h _ hs.2]
  | .iface t v, hs => by simp only [den]; rw [den_nsp h v hs]
  | .agg cs, hs => by simp only [den]; rw [denL_nsp h _ hs]
  | .tuple cs, hs => by simp only [den]; rw [denL_nsp h _ hs]
theorem denL_nsp {φ ψ : Vl} {b : Nat} (h : agrL φ ψ b) : ∀ vs, nspL b vs → denL ψ vs = denL φ vs
  | [], _ => rfl
  | v :: vs, hs => by simp only [denL]; rw [den_nsp h v hs.1, denL_nsp h vs hs.2]
end
mutual
theorem nsp_af (b : Nat) : ∀ v, af v = true → nsp b v
  | .bool _, _ | .int _ _, _ | .float _ _, _ | .complex _ _ _, _ | .string _, _ | .nilFunc, _ | .nilIface, _ | .chan _, _ | .pointer _, _ | .map _, _ => by simp [nsp]
  | .slice none _ _, _ => by simp [nsp]
  | .slice (some _) _ _, hs => by simp [af] at hs
  | .func (.yield l) _ _, hs => by simp [af] at hs
  | .func (.func f) x y, hs | .func (.method f) x y, hs | .func (.methodOf _ f) x y, hs | .func (.via _ _ f _) x y, hs => by
    simp only [af, Bool.and_eq_true] at hs
    simp only [nsp]
    exact ⟨nspL_af b _ hs.1, nspL_af b _ hs.2⟩
  | .iface t v, hs => nsp_af b v (by simpa [af] using hs)
  | .agg cs, hs => nspL_af b _ (by simpa [af] using hs)
  | .tuple cs, hs => nspL_af b _ (by simpa [af] using hs)
theorem nspL_af (b : Nat) : ∀ vs, afL vs = true → nspL b vs
  | [], _ => trivial
  | v :: vs, hs => by
    simp only [afL, Bool.and_eq_true] at hs
    exact ⟨nsp_af b v hs.1, nspL_af b vs hs.2⟩
end
theorem nspL_iff (b : Nat) : ∀ vs, nspL b vs ↔ ∀ v ∈ vs, nsp b v
  | [] => by simp [nspL]
  | v :: vs => by simp [nspL, nspL_iff b vs]
/-- blocks of the kinds that may stand beside -/
def nspB (b : Nat) : Blk → Prop
  | .cells cs _ | .ext cs _ _ | .inp _ cs | .row cs _ | .tab cs => nspL b cs
  | .iter _ _ | .defd => True
  | _ => False
theorem BRel.nsp {P : Program} {φ ψ : Vl} {b k : Nat} (h : agrL φ ψ b) (hk : k ≠ b) : ∀ {x : Blk} {o : Option Obj}, nspB b x → BRel P φ k x o → BRel P ψ k x o
  | .cells cs t, o, hs, hb => by simp only [BRel] at *; rw [denL_nsp h _ hs]; exact hb
  | .ext cs t sz, o, hs, hb => by simp only [BRel] at *; rw [denL_nsp h _ hs, h.2 k hk]; exact hb
  | .inp o0 cs, o, hs, hb => by simp only [BRel] at *; rw [denL_nsp h _ hs]; exact hb
  | .row cs sz, o, hs, hb => by simp only [BRel] at *; rw [denL_nsp h _ hs, h.2 k hk]; exact hb
  | .tab cs, o, hs, hb => by simp only [BRel] at *; rw [denL_nsp h _ hs]; exact hb
  | .iter _ _, o, _, hb => hb
  | .defd, o, _, hb => hb
theorem Leads.ext {P : Program} {n0 : Nat} {s s2 : St} (b : Nat) (cs : List Value) (t : TypeId) (sz m : Nat) (hb0 : n0 ≤ b ∧ b < s.n) (hb : hget s.H b = some (.cells cs t)) (hl : cs.length = m * sz) (hsz : 0 < sz) (hn : s2.n = s.n) (hz : s2.sz = s.sz) (hm : s2.marks = s.marks)
    (hf : ∀ x ∈ s2.fr, lk s.fr x.1 = some x.2 ∧ nsp b x.2)
    (hh : ∀ x ∈ s2.H, (x.1 = b ∧ x.2 = .ext cs t sz ∧ nspL b cs) ∨ (x.1 ≠ b ∧ hget s.H x.1 = some x.2 ∧ nspB b x.2)) : Leads P n0 s s2 := by
  intro p φ M w0 hg hp a w φ1 hS hs
  let φ2 : Vl := ⟨φ1.loc, fun k => if k = b then m else φ1.cap k⟩
  have ha : agrL φ1 φ2 b := ⟨fun _ => rfl, fun k hk => by simp only [φ2]; rw [if_neg hk]⟩
  have hf' : ∀ t v, lk s2.fr t = some v → lk s.fr t = some v ∧ nsp b v := fun t v h => hf (t, v) (lk_mem _ _ _ h)
  have hh' : ∀ k x, hget s2.H k = some x → (k = b ∧ x = .ext cs t sz ∧ nspL b cs) ∨ (k ≠ b ∧ hget s.H k = some x ∧ nspB b x) := fun k x h => hh (k, x) (hget_mem _ _ _ h)
  have hold : ∀ k x, hget s2.H k = some x → ∃ y, hget s.H k = some y ∧ y.own = x.own := fun k x h => by
    rcases hh' k x h with ⟨rfl, rfl, _⟩ | ⟨_, h, _⟩
    · exact ⟨_, hb, rfl⟩
    · exact ⟨x, h, rfl⟩
  have hrel : HRel P φ2 (hget s2.H) w := by
    refine ⟨fun k x h => ?_, fun k x k' x' h1 h2 hne ho => ?_, hS.base.rel.glob⟩
    · rcases hh' k x h with ⟨rfl, rfl, h3⟩ | ⟨hk, h, h3⟩
      · have := hS.base.rel.blk _ _ hb
        simp only [BRel] at this
        refine ⟨_, this, ?_, ?_, hsz⟩
        · rw [denL_nsp ha _ h3, List.take_of_length_le (by simp)]
        · simp [φ2, hl]
      · exact (hS.base.rel.blk _ _ h).nsp ha hk h3
    · obtain ⟨y, g1, g2⟩ := hold k x h1
      obtain ⟨y', g3, _⟩ := hold k' x' h2
      exact hS.base.rel.apart _ _ _ _ g1 g3 hne (g2.trans ho)
  have hsm : SM (Nx p n0 s.n) (hget s2.H) := fun k x h => by
    rcases hh' k x h with ⟨rfl, rfl, _⟩ | ⟨_, h, _⟩
    · have := hS.base.sm _ _ hb
      exact this
    · exact hS.base.sm _ _ h
  rw [hn]
  refine ⟨φ2, ⟨⟨hrel, hn ▸ hS.base.lt, hS.base.gl, hn ▸ hS.base.gn, hsm, fun t v hv => ?_, fun t v hv => hS.base.sf t v (hf' t v hv).1⟩, hz ▸ hS.size, hm ▸ hS.defs, hm ▸ hS.marks⟩, hs.le, fun k hk => ?_, hrel, fun k x hk ho => ?_, fun k x hk ho => ?_, hs.frm⟩
  · obtain ⟨h1, h2⟩ := hf' t v hv
    rw [hS.base.ar t _ h1, den_nsp ha v h2]
  · have := hs.only k hk
    have hkb : k ≠ b := by omega
    exact ⟨this.1, by rw [ha.2 k hkb]; exact this.2⟩
  · obtain ⟨y, g1, g2⟩ := hold k x hk
    exact hs.new _ _ g1 (g2.trans ho)
  · rcases hh' k x hk with ⟨rfl, rfl, _⟩ | ⟨_, h, _⟩
    · cases ho
    · exact hs.inp _ _ h ho
end Go.Ab

namespace Go.Ab
open Go
/-- a block with room behind its end, as it may be read: its cells and their stride -/
def rowOf (H : Heap) (b : Nat) : Option (List Value × Nat) := match hget H b with
  | some (.ext cs _ sz) => some (cs, sz)
  | some (.row cs sz) => some (cs, sz)
  | _ => none
theorem rowOf_rel {P : Program} {p : Nat → Prop} {φ : Vl} {n : Nat} {H : Heap} {w : World} {fr : Fr} {a : Act} {b : Nat} {cs : List Value} {sz : Nat} (hB : Base P p φ n (hget H) w fr a) (h : rowOf H b = some (cs, sz)) :
    ∃ c t fz, w.heap[φ.loc b]? = some (.cells c t fz) ∧ c.toList.take cs.length = denL φ cs ∧ c.size = φ.cap b * sz ∧ 0 < sz := by
  unfold rowOf at h
  split at h
  · rename_i cs' t sz' hb
    injection h with h; injection h with h1 h2; subst h1 h2
    obtain ⟨c, h1, h2, h3, h4⟩ := hB.rel.blk b _ hb
    exact ⟨c, _, _, h1, h2, h3, h4⟩
  · rename_i cs' sz' hb
    injection h with h; injection h with h1 h2; subst h1 h2
    exact hB.rel.blk b _ hb
  · cases h
/-- one block with room is seen, read only -/
theorem Part.row {P : Program} {H : Heap} {n : Nat} {R : List Value → Heap → Nat → Prop} (mk : Value → List Value) (hmk : ∀ φ φ0 s s0, den φ0 s0 = den φ s → denL φ0 (mk s0) = denL φ (mk s)) (hms : ∀ (p : Nat → Prop) s, sc p s → scL p (mk s))
    {b len skip sz : Nat} {cs : List Value} (hb : rowOf H b = some (cs, sz)) (haf : afL cs = true) {N : Nat} (hN : P.globals.size = N) (h : R (mk (.slice (some ⟨N, 0, some 0⟩) len skip)) [(N, .row cs sz)] (N + 1)) : Part P (mk (.slice (some ⟨b, 0, some 0⟩) len skip)) H n R := by
  intro p φ w hB hsc
  let φ0 : Vl := ⟨fun k => if k < N then φ.loc k else φ.loc b, fun k => if k < N then φ.cap k else φ.cap b⟩
  have hN' : ∀ k, hget [(N, Blk.row cs sz)] k = some (.row cs sz) → k = N := fun k hk => by
    rw [hget_cons] at hk
    by_cases e : N = k
    · exact e.symm
    · rw [if_neg e] at hk; cases hk
  have hone : ∀ k x, hget [(N, Blk.row cs sz)] k = some x → k = N ∧ x = .row cs sz := fun k x hk => by
    rw [hget_cons] at hk
    by_cases e : N = k
    · rw [if_pos e] at hk; injection hk with hk; exact ⟨e.symm, hk.symm⟩
    · rw [if_neg e] at hk; cases hk
  have hlow : ∀ k, k < N → φ0.loc k = φ.loc k := fun k hk => by simp only [φ0]; rw [if_pos hk]
  have hden : den φ0 (.slice (some ⟨N, 0, some 0⟩) len skip) = den φ (.slice (some ⟨b, 0, some 0⟩) len skip) := by
    simp [den, φ0]
  refine ⟨mk (.slice (some ⟨N, 0, some 0⟩) len skip), [(N, .row cs sz)], N + 1, φ0, (· < N + 1), ⟨⟨fun k x hk => ?_, fun k x k' x' h1 _ _ ho => (by obtain ⟨_, rfl⟩ := hone k x h1; cases ho), fun g hg => ?_⟩, fun _ h => h, fun g hg => ?_, (by omega), fun k x hk => ?_, fun t v hv => by simp [lk] at hv, fun t v hv => by simp [lk] at hv⟩, hms _ _ (Nat.lt_succ_self _), hmk _ _ _ _ hden, fun k x hk => by obtain ⟨_, rfl⟩ := hone k x hk; rfl, h⟩
  · obtain ⟨rfl, rfl⟩ := hone k x hk
    obtain ⟨c, t, fz, h1, h2, h3, h4⟩ := rowOf_rel hB hb
    have hl : φ0.loc k = φ.loc b := by simp [φ0]
    have hc : φ0.cap k = φ.cap b := by simp [φ0]
    rw [hl]
    refine ⟨c, t, fz, h1, ?_, ?_, h4⟩
    · rw [h2, denL_af _ _ haf, denL_af _ _ haf]
    · rw [h3, hc]
  · rw [hlow g (hN ▸ hg)]; exact hB.rel.glob g hg
  · rw [← hN]; omega
  · obtain ⟨rfl, rfl⟩ := hone k x hk
    exact ⟨by omega, scL_af _ _ haf⟩
end Go.Ab
