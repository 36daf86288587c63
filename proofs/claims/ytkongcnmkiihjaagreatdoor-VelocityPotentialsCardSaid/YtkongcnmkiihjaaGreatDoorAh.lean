/-
Regions of open order with calls; what a callee sees of blocks with room; what handed values are made of (each under the conditions in its statement).
-/
import Derived.OpenShut
import Derived.ChangeSlices
import Derived.Test.YtkongcnmkiihjaaGreatDoorAf
/-
Regions whose order is open, with calls and with blocks made on the way.
-/
namespace Go.Ab
open Go
/-- the blocks that a call may see -/
def dnames : Heap → List Nat
  | [] => []
  | (k, .cells _ _) :: H | (k, .ext _ _ _) :: H | (k, .inp _ _) :: H | (k, .row _ _) :: H | (k, .tab _) :: H => k :: dnames H
  | _ :: H => dnames H
def visT (late : List Nat) (n0 i n : Nat) (see : List Nat) : Bool := (memN late i && see.all (Nat.blt · n)) || see.all (Nat.blt · n0)
def readT (P : Program) (late : List Nat) (n0 i : Nat) (o : Oper) (fr : Fr) (st : St) (see : List Nat) : Option St :=
  match visT late n0 i st.n see with
  | true => match opA P o fr (readA see st.H) st.n with
    | some (v, _, _) => some { st with fr := putA st.fr o.dst v }
    | none => none
  | false => none
def aloneT (P : Program) (r : Rec) (mk : List Nat) (i : Nat) (o : Oper) (fr : Fr) (st : St) : Option St :=
  match runOp P r o { st with fr := fr } with
  | some (v, H, k) => match Nat.ble st.n k && namesOk k H && (Nat.beq k st.n || memN mk i) with
    | true => some { st with fr := putA st.fr o.dst v, H := H, n := k }
    | false => none
  | none => none
def handT (P : Program) (r : Rec) (mk : List Nat) (i : Nat) (o : Oper) (see : List Nat) (fr : Fr) (st : St) : Option St :=
  match runOp P r o { st with fr := fr, H := handA see [] st.H } with
  | some (v, H, k) => match Nat.ble st.n k && namesOk k (takeNew st.n H) && (Nat.beq k st.n || memN mk i) with
    | true => some { st with fr := putA st.fr o.dst v, H := takeNew st.n H ++ st.H, n := k }
    | false => none
  | none => none
def doneT (P : Program) (r : Rec) (al mk late : List Nat) (n0 i : Nat) (o : Oper) (fr : Fr) (st : St) : Option St :=
  match isPure o.op with
  | true => pureS P o fr st
  | false => match isRead o.op with
    | true => match footA P fr o.op with
      | some f => readT P late n0 i o fr st f.see
      | none => none
    | false => match memN al i with
      | true => aloneT P r mk i o fr st
      | false => match footA P fr o.op with
        | some f => match f.put.isEmpty && visT late n0 i st.n f.see with
          | true => handT P r mk i o f.see fr st
          | false => none
        | none => match memN late i with
          | true => handT P r mk i o (dnames st.H) fr st
          | false => none
def oneT (P : Program) (r : Rec) (ops : Array Oper) (al mk late : List Nat) (n0 i : Nat) (o : Oper) (st : St) : Option St :=
  match dstOk st.sz o.dst with
  | false => none
  | true => match wantedA ops (trim (lookTmps ops o) st.fr) o with
    | none => none
    | some false => some { st with fr := putA st.fr o.dst undefV }
    | some true => doneT P r al mk late n0 i o (trim (lookTmps ops o) st.fr) st
def opsT (P : Program) (r : Rec) (ops : Array Oper) (al mk late : List Nat) (n0 : Nat) : List Oper → Nat → St → Option St
  | [], _, st => some st
  | o :: os, i, st => match oneT P r ops al mk late n0 i o st with
    | some st' => opsT P r ops al mk late n0 os (i + 1) st'
    | none => none
def runT (P : Program) (r : Rec) (ops : Array Oper) (al mk late : List Nat) (st : St) : Option St :=
  match namesOk st.n st.H with
  | true => opsT P r ops al mk late st.n ops.toList 0 st
  | false => none
def alEq (ops : Array Oper) (bef : Array Nat) (al : List Nat) : List Oper → Nat → Bool
  | [], _ => true
  | o :: os, i => (isPure o.op || isRead o.op || memN al i == aloneA bef i ops.toList 0) && alEq ops bef al os (i + 1)
def lateOk (bef : Array Nat) (mk late : List Nat) : Bool := late.all fun i => mk.all fun d => Nat.ble i d || ahead bef d i
structure InvT (mk : List Nat) (n0 i : Nat) (ds : List Done) (st : St) : Prop where
  put : ∀ d ∈ ds, d.put = []
  cov : ∀ k, n0 ≤ k → k < st.n → ∃ d ∈ ds, d.lo ≤ k ∧ k < d.hi ∧ memN mk d.i = true ∧ d.i < i
  nam : ∀ x ∈ st.H, x.1 < st.n
theorem namesOk_mem : ∀ (H : Heap) (k : Nat), namesOk k H = true → ∀ x ∈ H, x.1 < k
  | [], _, _, x, hx => by cases hx
  | (j, b) :: H, k, h, x, hx => by
    simp only [namesOk] at h
    split at h
    · rename_i hj
      rcases List.mem_cons.1 hx with rfl | hx
      · exact (blt_iff _ _).1 hj
      · exact namesOk_mem H k h x hx
    · cases h
theorem lateOk_vis {bef : Array Nat} {mk late : List Nat} (hl : lateOk bef mk late = true) {n0 i : Nat} (hi : memN late i = true) {ds : List Done} {st : St} (hI : InvT mk n0 i ds st) {k : Nat} (hk : k < st.n) : visA bef n0 i ds k = true := by
  unfold visA
  rw [Bool.or_eq_true]
  rcases Nat.lt_or_ge k n0 with h | h
  · exact .inl ((blt_iff _ _).2 h)
  · obtain ⟨d, hd, h1, h2, h3, h4⟩ := hI.cov k h hk
    refine .inr (List.any_eq_true.2 ⟨d, hd, ?_⟩)
    have := List.all_eq_true.1 (List.all_eq_true.1 hl i ((memN_iff _ _).1 hi)) d.i ((memN_iff _ _).1 h3)
    rw [Bool.or_eq_true] at this
    rcases this with h | h
    · have := Nat.le_of_ble_eq_true h
      omega
    · simp only [Bool.and_eq_true]
      exact ⟨⟨Nat.ble_eq_true_of_le h1, (blt_iff _ _).2 h2⟩, h⟩
theorem footT {bef : Array Nat} {mk late : List Nat} (hl : lateOk bef mk late = true) {n0 i : Nat} {ds : List Done} {st : St} (hI : InvT mk n0 i ds st) {see : List Nat} (h : visT late n0 i st.n see = true) : footOk bef n0 i ds see [] = true := by
  unfold footOk
  simp only [Bool.and_eq_true]
  refine ⟨⟨List.all_eq_true.2 fun d hd => ?_, List.all_eq_true.2 fun k hk => ?_⟩, rfl⟩
  · simp [disj, hI.put d hd]
  · unfold visT at h
    rw [Bool.or_eq_true] at h
    rcases h with h | h
    · rw [Bool.and_eq_true] at h
      exact lateOk_vis hl h.1 hI ((blt_iff _ _).1 (List.all_eq_true.1 h.2 k hk))
    · have := List.all_eq_true.1 h k hk
      unfold visA
      rw [this, Bool.true_or]
theorem seeCall_dnames {bef : Array Nat} {n0 i : Nat} {ds : List Done} (hp : ∀ d ∈ ds, d.put = []) : ∀ H : Heap, (∀ x ∈ H, visA bef n0 i ds x.1 = true) → seeCall bef n0 i ds H = dnames H
  | [], _ => rfl
  | (k, b) :: H, hv => by
    have ih := seeCall_dnames hp H fun x hx => hv x (List.mem_cons_of_mem _ hx)
    have h1 := hv _ (List.mem_cons_self ..)
    have h2 : (ds.all fun d => ahead bef d.i i || !memN d.put k) = true := List.all_eq_true.2 fun d hd => by rw [hp d hd]; simp [memN]
    cases b <;> simp only [seeCall, dnames, h1, h2, ih, Bool.and_self, if_true]
theorem dnames_mem : ∀ (H : Heap) (k : Nat), k ∈ dnames H → ∃ b, (k, b) ∈ H
  | [], k, h => by cases h
  | (j, b) :: H, k, h => by
    have go : k ∈ dnames H → ∃ b', (k, b') ∈ (j, b) :: H := fun h => by
      obtain ⟨b', h'⟩ := dnames_mem H k h
      exact ⟨b', List.mem_cons_of_mem _ h'⟩
    cases b <;> simp only [dnames] at h
    all_goals first
      | exact go h
      | rcases List.mem_cons.1 h with rfl | h
        · exact ⟨_, List.mem_cons_self ..⟩
        · exact go h
theorem InvT.same {mk : List Nat} {n0 i : Nat} {ds : List Done} {st : St} (hI : InvT mk n0 i ds st) {fr : Fr} : InvT mk n0 (i + 1) ds { st with fr := fr } :=
  ⟨hI.put, fun k h1 h2 => by obtain ⟨d, a, b, c, e, f⟩ := hI.cov k h1 h2; exact ⟨d, a, b, c, e, by omega⟩, hI.nam⟩
theorem InvT.next {mk : List Nat} {n0 i : Nat} {ds : List Done} {st : St} (hI : InvT mk n0 i ds st) {fr : Fr} {see : List Nat} {H : Heap} {k : Nat} (hn : ∀ x ∈ H, x.1 < k) (hm : (Nat.beq k st.n || memN mk i) = true) : InvT mk n0 (i + 1) (⟨i, see, [], st.n, k⟩ :: ds) { st with fr := fr, H := H, n := k } := by
  refine ⟨fun d hd => ?_, fun j h1 h2 => ?_, hn⟩
  · rcases List.mem_cons.1 hd with rfl | hd
    · rfl
    · exact hI.put d hd
  · rcases Nat.lt_or_ge j st.n with h | h
    · obtain ⟨d, a, b, c, e, f⟩ := hI.cov j h1 h
      exact ⟨d, List.mem_cons_of_mem _ a, b, c, e, by omega⟩
    · rw [Bool.or_eq_true] at hm
      have h2 : j < k := h2
      rcases hm with hm | hm
      · have := Nat.eq_of_beq_eq_true hm
        omega
      · exact ⟨_, List.mem_cons_self .., h, h2, hm, Nat.lt_succ_self _⟩
theorem handT_ok {P : Program} {r : Rec} {bef : Array Nat} {mk : List Nat} {n0 i : Nat} {ds : List Done} {o : Oper} {fr : Fr} {st st' : St} (hI : InvT mk n0 i ds st) {see : List Nat} (hf : footOk bef n0 i ds see [] = true) (h : handT P r mk i o see fr st = some st') : ∃ ds', handOp P r bef n0 i ds o see [] fr st = some (st', ds') ∧ InvT mk n0 (i + 1) ds' st' := by
  have hb : ∀ (H' H : Heap), backA [] H' H = H := fun H' H => by
    induction H with
    | nil => rfl
    | cons x H ih => obtain ⟨k, b⟩ := x; simp only [backA, memN, ih]
  unfold handT at h
  unfold handOp
  rw [hf]
  simp only
  split at h
  · rename_i v H k hv
    rw [hv]
    simp only
    split at h
    · rename_i hc
      simp only [Bool.and_eq_true] at hc
      injection h with h; subst h
      rw [hc.1.1, hc.1.2]
      simp only [hb, Bool.and_self]
      have hle := Nat.le_of_ble_eq_true hc.1.1
      refine ⟨_, rfl, hI.next (fun x hx => ?_) hc.2⟩
      rcases List.mem_append.1 hx with hx | hx
      · exact namesOk_mem _ _ hc.1.2 x hx
      · exact Nat.lt_of_lt_of_le (hI.nam x hx) hle
    · cases h
  · cases h
theorem opsT_ok {P : Program} {r : Rec} {ops : Array Oper} {bef : Array Nat} {al mk late : List Nat} (hl : lateOk bef mk late = true) {n0 : Nat} : ∀ (os : List Oper) (i : Nat) (st st' : St) (ds : List Done), alEq ops bef al os i = true → InvT mk n0 i ds st → opsT P r ops al mk late n0 os i st = some st' → opsD P r ops bef n0 os i ds st = some st'
  | [], _, st, st', ds, _, _, h => h
  | o :: os, i, st, st', ds, hal, hI, h => by
    simp only [alEq, Bool.and_eq_true, Bool.or_eq_true, beq_iff_eq] at hal
    have halo : isPure o.op = false → isRead o.op = false → memN al i = aloneA bef i ops.toList 0 := fun h1 h2 => by
      rcases hal.1 with (h | h) | h
      · rw [h1] at h; cases h
      · rw [h2] at h; cases h
      · exact h
    simp only [opsT] at h
    split at h
    · rename_i st1 h1
      have key : ∃ ds', oneD P r ops bef n0 i ds o st = some (st1, ds') ∧ InvT mk n0 (i + 1) ds' st1 := by
        unfold oneT at h1
        unfold oneD
        split at h1
        · cases h1
        · rename_i hd
          rw [hd]
          simp only
          split at h1
          · cases h1
          · rename_i hw
            rw [hw]
            injection h1 with h1; subst h1
            exact ⟨ds, rfl, hI.same⟩
          · rename_i hw
            rw [hw]
            simp only
            unfold doneT at h1
            unfold doneD
            split at h1
            · rename_i hp
              rw [hp]
              simp only
              unfold pureS at h1
              unfold pureOp
              split at h1
              · rename_i v a k hv
                rw [hv]
                simp only
                split at h1
                · rename_i hk
                  rw [hk]
                  injection h1 with h1; subst h1
                  exact ⟨ds, rfl, hI.same⟩
                · cases h1
              · cases h1
            · rename_i hp
              rw [hp]
              simp only
              split at h1
              · rename_i hrd
                rw [hrd]
                simp only
                split at h1
                · rename_i f hf
                  rw [hf]
                  simp only
                  unfold readT at h1
                  split at h1
                  · rename_i hv
                    unfold readOp
                    rw [footT hl hI hv]
                    simp only
                    split at h1
                    · rename_i v a b hv
                      rw [hv]
                      injection h1 with h1; subst h1
                      exact ⟨_, rfl, hI.next hI.nam (by simp)⟩
                    · cases h1
                  · cases h1
                · cases h1
              · rename_i hrd
                rw [hrd]
                simp only
                split at h1
                · rename_i hm
                  have ha : aloneA bef i ops.toList 0 = true := by rw [← halo hp hrd, hm]
                  rw [ha]
                  simp only
                  unfold aloneT at h1
                  unfold aloneOp
                  split at h1
                  · rename_i v H k hv
                    rw [hv]
                    simp only
                    split at h1
                    · rename_i hk
                      simp only [Bool.and_eq_true] at hk
                      rw [hk.1.1, hk.1.2]
                      injection h1 with h1; subst h1
                      exact ⟨_, rfl, hI.next (namesOk_mem _ _ hk.1.2) hk.2⟩
                    · cases h1
                  · cases h1
                · rename_i hm
                  have ha : aloneA bef i ops.toList 0 = false := by rw [← halo hp hrd, hm]
                  rw [ha]
                  simp only
                  split at h1
                  · rename_i f hf
                    rw [hf]
                    simp only
                    split at h1
                    · rename_i hv
                      rw [Bool.and_eq_true] at hv
                      rw [List.isEmpty_iff.1 hv.1]
                      exact handT_ok hI (footT hl hI hv.2) h1
                    · cases h1
                  · rename_i hf
                    rw [hf]
                    simp only
                    split at h1
                    · rename_i hv
                      have hvis : ∀ k, k < st.n → visA bef n0 i ds k = true := fun k hk => lateOk_vis hl hv hI hk
                      rw [seeCall_dnames hI.put st.H fun x hx => hvis _ (hI.nam x hx)]
                      refine handT_ok hI (footT hl hI ?_) h1
                      unfold visT
                      rw [hv]
                      simp only [Bool.true_and, Bool.or_eq_true]
                      refine .inl (List.all_eq_true.2 fun k hk => ?_)
                      obtain ⟨b, hb⟩ := dnames_mem _ _ hk
                      exact (blt_iff _ _).2 (hI.nam _ hb)
                    · cases h1
      obtain ⟨ds', h2, hI'⟩ := key
      simp only [opsD, h2]
      exact opsT_ok hl os (i + 1) st1 st' ds' hal.2 hI' h
    · cases h
def drawT (ops : Array Oper) (bef : Array Nat) (al mk late : List Nat) : Bool := drawOk ops bef && alEq ops bef al ops.toList 0 && lateOk bef mk late
section
variable {P : Program} {n0 : Nat} {ro : Option Nat} {st st' : St} {K : Ex → St → Prop} {r : Rec} {m : Nat}
/-- 'al': what stands alone; 'mk': what may make blocks; 'late': what comes behind all makers that stand ahead of it in the text -/
theorem E.drawC (hm : P.follows .mixedOrders = true) (hr : RecOk P r m) (al mk late : List Nat) {id : Nat} {ops : Array Oper} (hd : drawT ops (Region.before ops) al mk late = true) (h : runT P r ops al mk late st = some st') (k : K .normal st') : E P n0 ro (.region id ops true) st K := by
  unfold drawT at hd
  simp only [Bool.and_eq_true] at hd
  unfold runT at h
  split at h
  · rename_i hn
    exact E.draw hm hr hd.1.1 (opsT_ok hd.2 _ _ _ _ [] hd.1.2 ⟨by simp, fun k h1 h2 => by omega, namesOk_mem _ _ hn⟩ h) k
  · cases h
end
attribute [simp] runT opsT oneT doneT handT aloneT readT visT dnames handA takeNew
end Go.Ab

namespace Go.Ab
open Go
/-- a block with room behind its end, as it may be read: its cells and their stride -/
def rowOf (H : Heap) (b : Nat) : Option (List Value × Nat) := match hget H b with
  | some (.ext cs _ sz) => some (cs, sz)
  | some (.row cs sz) => some (cs, sz)
  | _ => none
theorem rowOf_rel {P : Program} {p : Nat → Prop} {φ : Vl} {n : Nat} {H : Heap} {w : World} {fr : Fr} {a : Act} {b : Nat} {cs : List Value} {sz : Nat} (hB : Base P p φ n (hget H) w fr a) (h : rowOf H b = some (cs, sz)) :
    ∃ c t fz, w.heap[φ.loc b]? = some (.cells c t fz) ∧ c.toList.take cs.length = denL φ cs ∧ c.size = φ.cap b * sz ∧ 0 < sz := by
  unfold rowOf at h
  split at h
  · rename_i cs' t sz' hb
    injection h with h; injection h with h1 h2; subst h1 h2
    obtain ⟨c, h1, h2, h3, h4⟩ := hB.rel.blk b _ hb
    exact ⟨c, _, _, h1, h2, h3, h4⟩
  · rename_i cs' sz' hb
    injection h with h; injection h with h1 h2; subst h1 h2
    exact hB.rel.blk b _ hb
  · cases h
/-- one block with room is seen, read only -/
theorem Part.row {P : Program} {H : Heap} {n : Nat} {R : List Value → Heap → Nat → Prop} (mk : Value → List Value) (hmk : ∀ φ φ0 s s0, den φ0 s0 = den φ s → denL φ0 (mk s0) = denL φ (mk s)) (hms : ∀ (p : Nat → Prop) s, sc p s → scL p (mk s))
    {b len skip sz : Nat} {cs : List Value} (hb : rowOf H b = some (cs, sz)) (haf : afL cs = true) {N : Nat} (hN : P.globals.size = N) (h : R (mk (.slice (some ⟨N, 0, some 0⟩) len skip)) [(N, .row cs sz)] (N + 1)) : Part P (mk (.slice (some ⟨b, 0, some 0⟩) len skip)) H n R := by
  intro p φ w hB hsc
  let φ0 : Vl := ⟨fun k => if k < N then φ.loc k else φ.loc b, fun k => if k < N then φ.cap k else φ.cap b⟩
  have hN' : ∀ k, hget [(N, Blk.row cs sz)] k = some (.row cs sz) → k = N := fun k hk => by
    rw [hget_cons] at hk
    by_cases e : N = k
    · exact e.symm
    · rw [if_neg e] at hk; cases hk
  have hone : ∀ k x, hget [(N, Blk.row cs sz)] k = some x → k = N ∧ x = .row cs sz := fun k x hk => by
    rw [hget_cons] at hk
    by_cases e : N = k
    · rw [if_pos e] at hk; injection hk with hk; exact ⟨e.symm, hk.symm⟩
    · rw [if_neg e] at hk; cases hk
  have hlow : ∀ k, k < N → φ0.loc k = φ.loc k := fun k hk => by simp only [φ0]; rw [if_pos hk]
  have hden : den φ0 (.slice (some ⟨N, 0, some 0⟩) len skip) = den φ (.slice (some ⟨b, 0, some 0⟩) len skip) := by
    simp [den, φ0]
  refine ⟨mk (.slice (some ⟨N, 0, some 0⟩) len skip), [(N, .row cs sz)], N + 1, φ0, (· < N + 1), ⟨⟨fun k x hk => ?_, fun k x k' x' h1 _ _ ho => (by obtain ⟨_, rfl⟩ := hone k x h1; cases ho), fun g hg => ?_⟩, fun _ h => h, fun g hg => ?_, (by omega), fun k x hk => ?_, fun t v hv => by simp [lk] at hv, fun t v hv => by simp [lk] at hv⟩, hms _ _ (Nat.lt_succ_self _), hmk _ _ _ _ hden, fun k x hk => by obtain ⟨_, rfl⟩ := hone k x hk; rfl, h⟩
  · obtain ⟨rfl, rfl⟩ := hone k x hk
    obtain ⟨c, t, fz, h1, h2, h3, h4⟩ := rowOf_rel hB hb
    have hl : φ0.loc k = φ.loc b := by simp [φ0]
    have hc : φ0.cap k = φ.cap b := by simp [φ0]
    rw [hl]
    refine ⟨c, t, fz, h1, ?_, ?_, h4⟩
    · rw [h2, denL_af _ _ haf, denL_af _ _ haf]
    · rw [h3, hc]
  · rw [hlow g (hN ▸ hg)]; exact hB.rel.glob g hg
  · rw [← hN]; omega
  · obtain ⟨rfl, rfl⟩ := hone k x hk
    exact ⟨by omega, scL_af _ _ haf⟩
end Go.Ab

/-
What the handed values are made of: types of integers, strings and truth values laid out flat, and slices of such.
-/
namespace Go.Ab
open Go Go.ChangeShapes Go.WideShapes
inductive Leaf where
  | int (k : IntKind) | str | bool
  deriving DecidableEq
def Leaf.fits : Leaf → Value → Prop
  | .int k, v => ∃ n, v = .int k n ∧ (Lit.int k n).wf = true
  | .str, v => ∃ s : ByteArray, v = .string s ∧ s.size ≤ maxLen
  | .bool, v => ∃ b, v = .bool b
def fitsL : List Leaf → List Value → Prop
  | [], [] => True
  | l :: ls, v :: vs => l.fits v ∧ fitsL ls vs
  | _, _ => False
def leafs (P : Program) : Nat → TypeId → Option (List Leaf)
  | 0, _ => none
  | d + 1, t => match P.underlying t with
    | some .bool => some [.bool]
    | some .string => some [.str]
    | some (.int k) => some [.int k]
    | some (.array n e) => match leafs P d e with
      | some l => if l.length = P.cellsOf e ∧ P.cellsOf t = n * l.length then some (List.replicate n l).flatten else none
      | none => none
    | some (.struct fs) => match fs.toList.foldlM (fun acc f => if f.offset = acc.length then (leafs P d f.type).bind fun l => if l.length = P.cellsOf f.type then some (acc ++ l) else none else none) [] with
      | some l => if l.length = P.cellsOf t then some l else none
      | none => none
    | _ => none
theorem fitsL_append : ∀ {a : List Leaf} {x : List Value} {b : List Leaf} {y : List Value}, fitsL a x → fitsL b y → fitsL (a ++ b) (x ++ y)
  | [], [], _, _, _, h => h
  | _ :: _, _ :: _, _, _, ⟨h1, h2⟩, h => ⟨h1, fitsL_append h2 h⟩
  | [], _ :: _, _, _, h, _ => h.elim
  | _ :: _, [], _, _, h, _ => h.elim
theorem fitsL_length : ∀ {a : List Leaf} {x : List Value}, fitsL a x → x.length = a.length
  | [], [], _ => rfl
  | _ :: _, _ :: _, ⟨_, h2⟩ => congrArg (· + 1) (fitsL_length h2)
  | [], _ :: _, h => h.elim
  | _ :: _, [], h => h.elim
section
variable {H : Type} {enc : TypeId × Value → H} {P : Program} {w : World} {base : Nat} {spare : Nat → Bool} {held : Bool}
theorem leafs_ok : ∀ (d : Nat) (t : TypeId) (ls : List Leaf) (fuel : Nat) (cs : List Value) (x : DataW H × List MemPlace), leafs P d t = some ls → DataW.trod enc P w base spare held fuel t cs = some x → fitsL ls cs
  | 0, _, _, _, _, _, hl, _ => by simp [leafs] at hl
  | d + 1, t, ls, fuel, cs, x, hl, h => by
    unfold leafs at hl
    split at hl
    · rename_i ht
      injection hl with hl; subst hl
      obtain ⟨b, rfl, _⟩ := DataW.trod_bool ht h
      exact ⟨⟨b, rfl⟩, trivial⟩
    · rename_i ht
      injection hl with hl; subst hl
      obtain ⟨b, rfl, _, hs⟩ := DataW.trod_string ht h
      exact ⟨⟨b, rfl, hs⟩, trivial⟩
    · rename_i k ht
      injection hl with hl; subst hl
      obtain ⟨b, rfl, _, hs⟩ := DataW.trod_int ht h
      exact ⟨⟨b, rfl, hs⟩, trivial⟩
    · rename_i n e ht
      obtain ⟨xs, m, rfl, _, hlen, hxl, hel⟩ := DataW.trod_array ht h
      split at hl
      · rename_i l he
        split at hl
        · rename_i hc
          injection hl with hl; subst hl
          have key : ∀ k, k ≤ n → fitsL (List.replicate k l).flatten (cs.take (k * l.length)) := by
            intro k
            induction k with
            | zero => intro _; simp [fitsL]
            | succ k ih =>
              intro hk
              have h1 := hel k (by omega)
              obtain ⟨y, hy⟩ : ∃ y, xs[k]? = some y := ⟨xs[k]'(by omega), by simp⟩
              rw [hy] at h1
              have h2 := leafs_ok d e l m _ y he h1
              rw [List.replicate_succ', List.flatten_append, Nat.succ_mul, List.take_add]
              rw [← hc.1] at h2
              simpa using fitsL_append (ih (by omega)) h2
          have := key n (Nat.le_refl _)
          rw [List.take_of_length_le (by rw [hlen, hc.2]; exact Nat.le_refl _)] at this
          exact this
        · cases hl
      · cases hl
    · rename_i fs ht
      obtain ⟨xs, m, rfl, _, hlen, hxl, hel⟩ := DataW.trod_struct ht h
      split at hl
      · rename_i l hf
        split at hl
        · rename_i hc
          injection hl with hl; subst hl
          have key : ∀ (fl : List Field) (acc res : List Leaf), fl.foldlM (fun acc f => if f.offset = acc.length then (leafs P d f.type).bind fun l => if l.length = P.cellsOf f.type then some (acc ++ l) else none else none) acc = some res →
              fitsL acc (cs.take acc.length) → (∀ f ∈ fl, ∃ y, DataW.trod enc P w base spare held m f.type ((cs.drop f.offset).take (P.cellsOf f.type)) = some y) → fitsL res (cs.take res.length) := by
            intro fl
            induction fl with
            | nil => intro acc res h1 h2 _; injection h1 with h1; subst h1; exact h2
            | cons f fl ih =>
              intro acc res h1 h2 h3
              rw [List.foldlM_cons] at h1
              simp only [Option.bind_eq_bind, Option.bind_eq_some_iff] at h1
              obtain ⟨acc', h1, h4⟩ := h1
              split at h1
              · rename_i ho
                rw [Option.bind_eq_some_iff] at h1
                obtain ⟨l', h5, h6⟩ := h1
                split at h6
                · rename_i hc'
                  injection h6 with h6; subst h6
                  obtain ⟨y, hy⟩ := h3 f (List.mem_cons_self ..)
                  have := leafs_ok d f.type l' m _ y h5 hy
                  rw [← hc', ho] at this
                  refine ih _ _ h4 ?_ fun g hg => h3 g (List.mem_cons_of_mem _ hg)
                  rw [List.length_append, List.take_add]
                  exact fitsL_append h2 this
                · cases h6
              · cases h1
          have := key fs.toList [] _ hf (by simp [fitsL]) fun f hf => by
            obtain ⟨i, hi, rfl⟩ := List.getElem_of_mem hf
            have h1 := hel i fs[i] (by simp)
            obtain ⟨y, hy⟩ : ∃ y, xs[i]? = some y := ⟨xs[i]'(by rw [hxl]; simpa using hi), by simp⟩
            rw [hy] at h1
            exact ⟨y, by simpa using h1⟩
          rw [List.take_of_length_le (by rw [hlen, hc]; exact Nat.le_refl _)] at this
          exact this
        · cases hl
      · cases hl
    · cases hl
theorem flatten_get {m : Nat} (hm : 0 < m) : ∀ (rows : List (List Value)) (j : Nat), (∀ r ∈ rows, r.length = m) → rows.flatten[j]? = (rows[j / m]?).bind (·[j % m]?)
  | [], j, _ => by simp
  | r :: rows, j, h => by
    have hr := h r (List.mem_cons_self ..)
    rw [List.flatten_cons]
    rcases Nat.lt_or_ge j m with hj | hj
    · rw [List.getElem?_append_left (by omega), Nat.div_eq_of_lt hj, Nat.mod_eq_of_lt hj]
      simp
    · rw [List.getElem?_append_right (by omega), hr, flatten_get hm rows (j - m) fun r hr => h r (List.mem_cons_of_mem _ hr)]
      obtain ⟨k, rfl⟩ : ∃ k, j = k + m := ⟨j - m, by omega⟩
      rw [Nat.add_sub_cancel, Nat.add_div_right _ hm, Nat.add_mod_right, List.getElem?_cons_succ]
theorem flatten_length {m : Nat} : ∀ (rows : List (List Value)), (∀ r ∈ rows, r.length = m) → rows.flatten.length = rows.length * m
  | [], _ => by simp
  | r :: rows, h => by
    rw [List.flatten_cons, List.length_append, flatten_length rows fun r hr => h r (List.mem_cons_of_mem _ hr), h r (List.mem_cons_self ..), List.length_cons, Nat.succ_mul, Nat.add_comm]
/-- a slice of flat elements, opened -/
theorem open_slice {t e : TypeId} {d fuel : Nat} {ls : List Leaf} {cs : List Value} {x : DataW H × List MemPlace} (ht : P.underlying t = some (.slice e)) (hl : leafs P d e = some ls) (hc : ls.length = P.cellsOf e) (hpos : 0 < ls.length)
    (h : DataW.trod enc P w base spare held fuel t cs = some x) :
    cs = [.slice none 0 0] ∨ ∃ (a : Addr) (len cap : Nat) (rows : List (List Value)), cs = [.slice (some a) len cap] ∧ len ≤ cap ∧ cap ≤ maxLen ∧ rows.length = len ∧ (∀ r ∈ rows, fitsL ls r) ∧
      (a.spot = none → ∀ j, j < rows.flatten.length → w.cell? ⟨a.block, a.off + j, none⟩ = rows.flatten[j]?) := by
  rcases DataW.trod_slice ht h with ⟨h0, _⟩ | ⟨a, len, cap, elems, rest, n, _, rfl, _, hb, hlc, hm, hlen, hel, _⟩
  · exact .inl h0
  right
  have each : ∀ i, i < len → ∃ r, w.cells? base (a.add (i * P.cellsOf e)) (P.cellsOf e) = some r ∧ fitsL ls r := fun i hi => by
    have h1 := hel i hi
    obtain ⟨y, hy⟩ : ∃ y, elems[i]? = some y := ⟨elems[i]'(by omega), by simp⟩
    rw [hy, Option.bind_eq_some_iff] at h1
    obtain ⟨r, h2, h3⟩ := h1
    exact ⟨r, h2, leafs_ok d e ls n r y hl h3⟩
  let rows : List (List Value) := (List.range len).map fun i => (w.cells? base (a.add (i * P.cellsOf e)) (P.cellsOf e)).getD []
  have hrow : ∀ i, i < len → ∃ r, rows[i]? = some r ∧ w.cells? base (a.add (i * P.cellsOf e)) (P.cellsOf e) = some r ∧ fitsL ls r := fun i hi => by
    obtain ⟨r, h1, h2⟩ := each i hi
    exact ⟨r, by simp [rows, hi, h1], h1, h2⟩
  have hfit : ∀ r ∈ rows, fitsL ls r := fun r hr => by
    obtain ⟨i, hi⟩ := List.getElem?_of_mem hr
    have hi' := (List.getElem?_eq_some_iff.1 hi).1
    simp [rows] at hi'
    obtain ⟨r', h1, _, h2⟩ := hrow i hi'
    rw [hi] at h1; injection h1 with h1; subst h1; exact h2
  refine ⟨a, len, cap, rows, rfl, hlc, hm, by simp [rows], hfit, fun hs j hj => ?_⟩
  have hw : ∀ r ∈ rows, r.length = ls.length := fun r hr => fitsL_length (hfit r hr)
  rw [flatten_length rows hw] at hj
  rw [flatten_get hpos rows j hw]
  have hjl : j / ls.length < len := by
    rw [Nat.div_lt_iff_lt_mul hpos]
    simpa [rows] using hj
  obtain ⟨r, h1, h2, h3⟩ := hrow _ hjl
  rw [h1, Option.bind_some]
  have h4 := (World.cells?_some h2).2.2 (j % ls.length) (by rw [← hc]; exact Nat.mod_lt _ hpos)
  rw [← h4, ← hc]
  congr 1
  have hadd : ∀ (b : Addr) (k : Nat), b.spot = none → b.add k = ⟨b.block, b.off + k, none⟩ := fun b k hb => by
    unfold Addr.add
    split
    · rename_i h0; subst h0; cases b; simp_all
    · rfl
  rw [hadd a _ hs, hadd _ _ rfl]
  have := Nat.div_add_mod j ls.length
  rw [Nat.mul_comm] at this
  simp only [Nat.add_assoc, this]
/-- a handed slice has no spot, and a block -/
theorem okWide_addr {r : Reach} {t e : TypeId} {a : Addr} {len cap : Nat} (ht : P.underlying t = some (.slice e)) (h : Cell.okWide P w r base t (.slice (some a) len cap)) : a.spot = none ∧ ∃ c t fz, w.heap[a.block]? = some (.cells c t fz) := by
  unfold Cell.okWide at h
  rw [ht] at h
  simp only at h
  unfold Cell.ok at h
  rw [ht] at h
  obtain ⟨_, _, _, hs, row, cells, hsh, _⟩ := h
  refine ⟨hs, ?_⟩
  unfold World.shape? at hsh
  split at hsh
  · rename_i c el fz hw
    exact ⟨c, el, fz, hw⟩
  · cases hsh
theorem cell_get {b o : Nat} {c : Array Value} {t : TypeId} {fz : Nat × Nat} (hw : w.heap[b]? = some (.cells c t fz)) : w.cell? ⟨b, o, none⟩ = c[o]? := by
  unfold World.cell?
  rw [hw]
  simp
/-- a handed slice of flat elements -/
theorem handed_slice {r : Reach} {b0 : Nat} {t e : TypeId} {d fuel : Nat} {ls : List Leaf} {v : Value} {x : DataW H × List MemPlace} (ht : P.underlying t = some (.slice e)) (hl : leafs P d e = some ls) (hc : ls.length = P.cellsOf e) (hpos : 0 < ls.length)
    (hok : Cell.okWide P w r b0 t v) (h : DataW.trod enc P w base spare held fuel t [v] = some x) :
    v = .slice none 0 0 ∨ ∃ (b o len cap : Nat) (rows : List (List Value)), v = .slice (some ⟨b, o, none⟩) len cap ∧ len ≤ cap ∧ cap ≤ maxLen ∧ rows.length = len ∧ (∀ r ∈ rows, fitsL ls r) ∧
      ∃ c t fz, w.heap[b]? = some (.cells c t fz) ∧ ∀ i, i < rows.flatten.length → c[o + i]? = rows.flatten[i]? := by
  rcases open_slice ht hl hc hpos h with h0 | ⟨⟨b, o, s⟩, len, cap, rows, h1, h2, h3, h4, h5, h6⟩
  · left; simpa using h0
  · right
    obtain rfl : v = .slice (some ⟨b, o, s⟩) len cap := by simpa using h1
    obtain ⟨hs, c, t', fz, hw⟩ := okWide_addr ht hok
    have hs : s = none := hs
    subst hs
    exact ⟨b, o, len, cap, rows, rfl, h2, h3, h4, h5, c, t', fz, hw, fun i hi => by rw [← cell_get hw, h6 rfl i hi]⟩
/-- a handed struct of one slice -/
theorem handed_str {r : Reach} {b0 : Nat} {t u e : TypeId} {d : Nat} {fs : Array Field} {f : Field} {ls : List Leaf} {v : Value} {y : DataW H} {p : List MemPlace} (hs : P.underlying t = some (.struct fs)) (hf : fs[0]? = some f) (ho : f.offset = 0) (hft : f.type = u) (h1 : P.cellsOf t = 1) (h1' : P.cellsOf u = 1) (hct : P.cellTypes P.depth t = some [u])
    (ht : P.underlying u = some (.slice e)) (hl : leafs P d e = some ls) (hc : ls.length = P.cellsOf e) (hpos : 0 < ls.length)
    (hok : Value.okWide P w r b0 t v) (h : DataW.Trod enc P w base spare held t v y p) :
    v = .agg ⟨[.slice none 0 0]⟩ ∨ ∃ (b o len cap : Nat) (rows : List (List Value)), v = .agg ⟨[.slice (some ⟨b, o, none⟩) len cap]⟩ ∧ len ≤ cap ∧ cap ≤ maxLen ∧ rows.length = len ∧ (∀ r ∈ rows, fitsL ls r) ∧
      ∃ c t fz, w.heap[b]? = some (.cells c t fz) ∧ ∀ i, i < rows.flatten.length → c[o + i]? = rows.flatten[i]? := by
  unfold Value.okWide at hok
  rw [hs] at hok
  obtain ⟨cs, rfl, hsz, ts, hts, _, hrow⟩ := hok
  rw [hct] at hts
  injection hts with hts; subst hts
  rw [h1] at hsz
  obtain ⟨l⟩ := cs
  match l, hsz with
  | [v0], _ =>
    obtain ⟨u', h2, h3⟩ := hrow 0 v0 rfl
    obtain rfl : u = u' := by simpa using h2
    obtain ⟨fuel, h⟩ := h
    obtain ⟨xs, m, rfl, _, hlen, hxl, hel⟩ := DataW.trod_struct hs h
    have h4 := hel 0 f hf
    rw [ho, hft, h1'] at h4
    have hpos' : 0 < fs.size := (Array.getElem?_eq_some_iff.1 hf).1
    obtain ⟨y, hy⟩ : ∃ y, xs[0]? = some y := ⟨xs[0]'(by omega), by simp⟩
    rw [hy] at h4
    rcases handed_slice ht hl hc hpos h3 (by simpa [Value.cells] using h4) with rfl | ⟨b, o, len, cap, rows, rfl, h5⟩
    · exact .inl rfl
    · exact .inr ⟨b, o, len, cap, rows, rfl, h5⟩
end
end Go.Ab
