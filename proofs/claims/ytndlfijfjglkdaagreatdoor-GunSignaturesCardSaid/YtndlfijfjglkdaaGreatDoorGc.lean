/-
Regions whose order is open, with calls; what a callee sees of blocks with room; what handed values are made of; the first walks over names and guns (each a contract: no condition but those in its statement).
-/
import Derived.OpenShut
import Derived.ChangeSlices
import Derived.Laws.Strings
import Derived.Test.YtndlfijfjglkdaaGreatDoorAf
import Derived.Test.YtndlfijfjglkdaaGreatDoorGa
namespace Go.Ab
open Go
/-- the blocks that a call may see -/
def dnames : Heap → List Nat
  | [] => []
  | (k, .cells _ _) :: H | (k, .ext _ _ _) :: H | (k, .inp _ _) :: H | (k, .row _ _) :: H => k :: dnames H
  | _ :: H => dnames H
def visT (late : List Nat) (n0 i n : Nat) (see : List Nat) : Bool := (memN late i && see.all (Nat.blt · n)) || see.all (Nat.blt · n0)
def readT (P : Program) (late : List Nat) (n0 i : Nat) (o : Oper) (fr : Fr) (st : St) (see : List Nat) : Option St :=
  match visT late n0 i st.n see with
  | true => match opA P o fr (readA see st.H) st.n with
    | some (v, _, _) => some { st with fr := putA st.fr o.dst v }
    | none => none
  | false => none
def aloneT (P : Program) (r : Rec) (mk : List Nat) (i : Nat) (o : Oper) (fr : Fr) (st : St) : Option St :=
  match runOp P r o { st with fr := fr } with
  | some (v, H, k) => match Nat.ble st.n k && namesOk k H && (Nat.beq k st.n || memN mk i) with
    | true => some { st with fr := putA st.fr o.dst v, H := H, n := k }
    | false => none
  | none => none
def handT (P : Program) (r : Rec) (mk : List Nat) (i : Nat) (o : Oper) (see : List Nat) (fr : Fr) (st : St) : Option St :=
  match runOp P r o { st with fr := fr, H := handA see [] st.H } with
  | some (v, H, k) => match Nat.ble st.n k && namesOk k (takeNew st.n H) && (Nat.beq k st.n || memN mk i) with
    | true => some { st with fr := putA st.fr o.dst v, H := takeNew st.n H ++ st.H, n := k }
    | false => none
  | none => none
def doneT (P : Program) (r : Rec) (al mk late : List Nat) (n0 i : Nat) (o : Oper) (fr : Fr) (st : St) : Option St :=
  match isPure o.op with
  | true => pureS P o fr st
  | false => match isRead o.op with
    | true => match footA P fr o.op with
      | some f => readT P late n0 i o fr st f.see
      | none => none
    | false => match memN al i with
      | true => aloneT P r mk i o fr st
      | false => match footA P fr o.op with
        | some f => match f.put.isEmpty && visT late n0 i st.n f.see with
          | true => handT P r mk i o f.see fr st
          | false => none
        | none => match memN late i with
          | true => handT P r mk i o (dnames st.H) fr st
          | false => none
def oneT (P : Program) (r : Rec) (ops : Array Oper) (al mk late : List Nat) (n0 i : Nat) (o : Oper) (st : St) : Option St :=
  match dstOk st.sz o.dst with
  | false => none
  | true => match wantedA ops (trim (lookTmps ops o) st.fr) o with
    | none => none
    | some false => some { st with fr := putA st.fr o.dst undefV }
    | some true => doneT P r al mk late n0 i o (trim (lookTmps ops o) st.fr) st
def opsT (P : Program) (r : Rec) (ops : Array Oper) (al mk late : List Nat) (n0 : Nat) : List Oper → Nat → St → Option St
  | [], _, st => some st
  | o :: os, i, st => match oneT P r ops al mk late n0 i o st with
    | some st' => opsT P r ops al mk late n0 os (i + 1) st'
    | none => none
def runT (P : Program) (r : Rec) (ops : Array Oper) (al mk late : List Nat) (st : St) : Option St :=
  match namesOk st.n st.H with
  | true => opsT P r ops al mk late st.n ops.toList 0 st
  | false => none
def alEq (ops : Array Oper) (bef : Array Nat) (al : List Nat) : List Oper → Nat → Bool
  | [], _ => true
  | o :: os, i => (isPure o.op || isRead o.op || memN al i == aloneA bef i ops.toList 0) && alEq ops bef al os (i + 1)
def lateOk (bef : Array Nat) (mk late : List Nat) : Bool := late.all fun i => mk.all fun d => Nat.ble i d || ahead bef d i
structure InvT (mk : List Nat) (n0 i : Nat) (ds : List Done) (st : St) : Prop where
  put : ∀ d ∈ ds, d.put = []
  cov : ∀ k, n0 ≤ k → k < st.n → ∃ d ∈ ds, d.lo ≤ k ∧ k < d.hi ∧ memN mk d.i = true ∧ d.i < i
  nam : ∀ x ∈ st.H, x.1 < st.n
theorem namesOk_mem : ∀ (H : Heap) (k : Nat), namesOk k H = true → ∀ x ∈ H, x.1 < k
  | [], _, _, x, hx => by cases hx
  | (j, b) :: H, k, h, x, hx => by
    simp only [namesOk] at h
    split at h
    · rename_i hj
      rcases List.mem_cons.1 hx with rfl | hx
      · exact (blt_iff _ _).1 hj
      · exact namesOk_mem H k h x hx
    · cases h
theorem lateOk_vis {bef : Array Nat} {mk late : List Nat} (hl : lateOk bef mk late = true) {n0 i : Nat} (hi : memN late i = true) {ds : List Done} {st : St} (hI : InvT mk n0 i ds st) {k : Nat} (hk : k < st.n) : visA bef n0 i ds k = true := by
  unfold visA
  rw [Bool.or_eq_true]
  rcases Nat.lt_or_ge k n0 with h | h
  · exact .inl ((blt_iff _ _).2 h)
  · obtain ⟨d, hd, h1, h2, h3, h4⟩ := hI.cov k h hk
    refine .inr (List.any_eq_true.2 ⟨d, hd, ?_⟩)
    have := List.all_eq_true.1 (List.all_eq_true.1 hl i ((memN_iff _ _).1 hi)) d.i ((memN_iff _ _).1 h3)
    rw [Bool.or_eq_true] at this
    rcases this with h | h
    · have := Nat.le_of_ble_eq_true h
      omega
    · simp only [Bool.and_eq_true]
      exact ⟨⟨Nat.ble_eq_true_of_le h1, (blt_iff _ _).2 h2⟩, h⟩
theorem footT {bef : Array Nat} {mk late : List Nat} (hl : lateOk bef mk late = true) {n0 i : Nat} {ds : List Done} {st : St} (hI : InvT mk n0 i ds st) {see : List Nat} (h : visT late n0 i st.n see = true) : footOk bef n0 i ds see [] = true := by
  unfold footOk
  simp only [Bool.and_eq_true]
  refine ⟨⟨List.all_eq_true.2 fun d hd => ?_, List.all_eq_true.2 fun k hk => ?_⟩, rfl⟩
  · simp [disj, hI.put d hd]
  · unfold visT at h
    rw [Bool.or_eq_true] at h
    rcases h with h | h
    · rw [Bool.and_eq_true] at h
      exact lateOk_vis hl h.1 hI ((blt_iff _ _).1 (List.all_eq_true.1 h.2 k hk))
    · have := List.all_eq_true.1 h k hk
      unfold visA
      rw [this, Bool.true_or]
theorem seeCall_dnames {bef : Array Nat} {n0 i : Nat} {ds : List Done} (hp : ∀ d ∈ ds, d.put = []) : ∀ H : Heap, (∀ x ∈ H, visA bef n0 i ds x.1 = true) → seeCall bef n0 i ds H = dnames H
  | [], _ => rfl
  | (k, b) :: H, hv => by
    have ih := seeCall_dnames hp H fun x hx => hv x (List.mem_cons_of_mem _ hx)
    have h1 := hv _ (List.mem_cons_self ..)
    have h2 : (ds.all fun d => ahead bef d.i i || !memN d.put k) = true := List.all_eq_true.2 fun d hd => by rw [hp d hd]; simp [memN]
    cases b <;> simp only [seeCall, dnames, h1, h2, ih, Bool.and_self, if_true]
theorem dnames_mem : ∀ (H : Heap) (k : Nat), k ∈ dnames H → ∃ b, (k, b) ∈ H
  | [], k, h => by cases h
  | (j, b) :: H, k, h => by
    have go : k ∈ dnames H → ∃ b', (k, b') ∈ (j, b) :: H := fun h => by
      obtain ⟨b', h'⟩ := dnames_mem H k h
      exact ⟨b', List.mem_cons_of_mem _ h'⟩
    cases b <;> simp only [dnames] at h
    all_goals first
      | exact go h
      | rcases List.mem_cons.1 h with rfl | h
        · exact ⟨_, List.mem_cons_self ..⟩
        · exact go h
theorem InvT.same {mk : List Nat} {n0 i : Nat} {ds : List Done} {st : St} (hI : InvT mk n0 i ds st) {fr : Fr} : InvT mk n0 (i + 1) ds { st with fr := fr } :=
  ⟨hI.put, fun k h1 h2 => by obtain ⟨d, a, b, c, e, f⟩ := hI.cov k h1 h2; exact ⟨d, a, b, c, e, by omega⟩, hI.nam⟩
theorem InvT.next {mk : List Nat} {n0 i : Nat} {ds : List Done} {st : St} (hI : InvT mk n0 i ds st) {fr : Fr} {see : List Nat} {H : Heap} {k : Nat} (hn : ∀ x ∈ H, x.1 < k) (hm : (Nat.beq k st.n || memN mk i) = true) : InvT mk n0 (i + 1) (⟨i, see, [], st.n, k⟩ :: ds) { st with fr := fr, H := H, n := k } := by
  refine ⟨fun d hd => ?_, fun j h1 h2 => ?_, hn⟩
  · rcases List.mem_cons.1 hd with rfl | hd
    · rfl
    · exact hI.put d hd
  · rcases Nat.lt_or_ge j st.n with h | h
    · obtain ⟨d, a, b, c, e, f⟩ := hI.cov j h1 h
      exact ⟨d, List.mem_cons_of_mem _ a, b, c, e, by omega⟩
    · rw [Bool.or_eq_true] at hm
      have h2 : j < k := h2
      rcases hm with hm | hm
      · have := Nat.eq_of_beq_eq_true hm
        omega
      · exact ⟨_, List.mem_cons_self .., h, h2, hm, Nat.lt_succ_self _⟩
theorem handT_ok {P : Program} {r : Rec} {bef : Array Nat} {mk : List Nat} {n0 i : Nat} {ds : List Done} {o : Oper} {fr : Fr} {st st' : St} (hI : InvT mk n0 i ds st) {see : List Nat} (hf : footOk bef n0 i ds see [] = true) (h : handT P r mk i o see fr st = some st') : ∃ ds', handOp P r bef n0 i ds o see [] fr st = some (st', ds') ∧ InvT mk n0 (i + 1) ds' st' := by
  have hb : ∀ (H' H : Heap), backA [] H' H = H := fun H' H => by
    induction H with
    | nil => rfl
    | cons x H ih => obtain ⟨k, b⟩ := x; simp only [backA, memN, ih]
  unfold handT at h
  unfold handOp
  rw [hf]
  simp only
  split at h
  · rename_i v H k hv
    rw [hv]
    simp only
    split at h
    · rename_i hc
      simp only [Bool.and_eq_true] at hc
      injection h with h; subst h
      rw [hc.1.1, hc.1.2]
      simp only [hb, Bool.and_self]
      have hle := Nat.le_of_ble_eq_true hc.1.1
      refine ⟨_, rfl, hI.next (fun x hx => ?_) hc.2⟩
      rcases List.mem_append.1 hx with hx | hx
      · exact namesOk_mem _ _ hc.1.2 x hx
      · exact Nat.lt_of_lt_of_le (hI.nam x hx) hle
    · cases h
  · cases h
theorem opsT_ok {P : Program} {r : Rec} {ops : Array Oper} {bef : Array Nat} {al mk late : List Nat} (hl : lateOk bef mk late = true) {n0 : Nat} : ∀ (os : List Oper) (i : Nat) (st st' : St) (ds : List Done), alEq ops bef al os i = true → InvT mk n0 i ds st → opsT P r ops al mk late n0 os i st = some st' → opsD P r ops bef n0 os i ds st = some st'
  | [], _, st, st', ds, _, _, h => h
  | o :: os, i, st, st', ds, hal, hI, h => by
    simp only [alEq, Bool.and_eq_true, Bool.or_eq_true, beq_iff_eq] at hal
    have halo : isPure o.op = false → isRead o.op = false → memN al i = aloneA bef i ops.toList 0 := fun h1 h2 => by
      rcases hal.1 with (h | h) | h
      · rw [h1] at h; cases h
      · rw [h2] at h; cases h
      · exact h
    simp only [opsT] at h
    split at h
    · rename_i st1 h1
      have key : ∃ ds', oneD P r ops bef n0 i ds o st = some (st1, ds') ∧ InvT mk n0 (i + 1) ds' st1 := by
        unfold oneT at h1
        unfold oneD
        split at h1
        · cases h1
        · rename_i hd
          rw [hd]
          simp only
          split at h1
          · cases h1
          · rename_i hw
            rw [hw]
            injection h1 with h1; subst h1
            exact ⟨ds, rfl, hI.same⟩
          · rename_i hw
            rw [hw]
            simp only
            unfold doneT at h1
            unfold doneD
            split at h1
            · rename_i hp
              rw [hp]
              simp only
              unfold pureS at h1
              unfold pureOp
              split at h1
              · rename_i v a k hv
                rw [hv]
                simp only
                split at h1
                · rename_i hk
                  rw [hk]
                  injection h1 with h1; subst h1
                  exact ⟨ds, rfl, hI.same⟩
                · cases h1
              · cases h1
            · rename_i hp
              rw [hp]
              simp only
              split at h1
              · rename_i hrd
                rw [hrd]
                simp only
                split at h1
                · rename_i f hf
                  rw [hf]
                  simp only
                  unfold readT at h1
                  split at h1
                  · rename_i hv
                    unfold readOp
                    rw [footT hl hI hv]
                    simp only
                    split at h1
                    · rename_i v a b hv
                      rw [hv]
                      injection h1 with h1; subst h1
                      exact ⟨_, rfl, hI.next hI.nam (by simp)⟩
                    · cases h1
                  · cases h1
                · cases h1
              · rename_i hrd
                rw [hrd]
                simp only
                split at h1
                · rename_i hm
                  have ha : aloneA bef i ops.toList 0 = true := by rw [← halo hp hrd, hm]
                  rw [ha]
                  simp only
                  unfold aloneT at h1
                  unfold aloneOp
                  split at h1
                  · rename_i v H k hv
                    rw [hv]
                    simp only
                    split at h1
                    · rename_i hk
                      simp only [Bool.and_eq_true] at hk
                      rw [hk.1.1, hk.1.2]
                      injection h1 with h1; subst h1
                      exact ⟨_, rfl, hI.next (namesOk_mem _ _ hk.1.2) hk.2⟩
                    · cases h1
                  · cases h1
                · rename_i hm
                  have ha : aloneA bef i ops.toList 0 = false := by rw [← halo hp hrd, hm]
                  rw [ha]
                  simp only
                  split at h1
                  · rename_i f hf
                    rw [hf]
                    simp only
                    split at h1
                    · rename_i hv
                      rw [Bool.and_eq_true] at hv
                      rw [List.isEmpty_iff.1 hv.1]
                      exact handT_ok hI (footT hl hI hv.2) h1
                    · cases h1
                  · rename_i hf
                    rw [hf]
                    simp only
                    split at h1
                    · rename_i hv
                      have hvis : ∀ k, k < st.n → visA bef n0 i ds k = true := fun k hk => lateOk_vis hl hv hI hk
                      rw [seeCall_dnames hI.put st.H fun x hx => hvis _ (hI.nam x hx)]
                      refine handT_ok hI (footT hl hI ?_) h1
                      unfold visT
                      rw [hv]
                      simp only [Bool.true_and, Bool.or_eq_true]
                      refine .inl (List.all_eq_true.2 fun k hk => ?_)
                      obtain ⟨b, hb⟩ := dnames_mem _ _ hk
                      exact (blt_iff _ _).2 (hI.nam _ hb)
                    · cases h1
      obtain ⟨ds', h2, hI'⟩ := key
      simp only [opsD, h2]
      exact opsT_ok hl os (i + 1) st1 st' ds' hal.2 hI' h
    · cases h
def drawT (ops : Array Oper) (bef : Array Nat) (al mk late : List Nat) : Bool := drawOk ops bef && alEq ops bef al ops.toList 0 && lateOk bef mk late
section
variable {P : Program} {n0 : Nat} {ro : Option Nat} {st st' : St} {K : Ex → St → Prop} {r : Rec} {m : Nat}
/-- 'al': what stands alone; 'mk': what may make blocks; 'late': what comes behind all makers that stand ahead of it in the text -/
theorem E.drawC (hm : P.follows .mixedOrders = true) (hr : RecOk P r m) (al mk late : List Nat) {id : Nat} {ops : Array Oper} (hd : drawT ops (Region.before ops) al mk late = true) (h : runT P r ops al mk late st = some st') (k : K .normal st') : E P n0 ro (.region id ops true) st K := by
  unfold drawT at hd
  simp only [Bool.and_eq_true] at hd
  unfold runT at h
  split at h
  · rename_i hn
    exact E.draw hm hr hd.1.1 (opsT_ok hd.2 _ _ _ _ [] hd.1.2 ⟨by simp, fun k h1 h2 => by omega, namesOk_mem _ _ hn⟩ h) k
  · cases h
end
attribute [simp] runT opsT oneT doneT handT aloneT readT visT dnames handA takeNew
end Go.Ab

namespace Go.Ab
open Go
/-- a block with room behind its end, as it may be read: its cells and their stride -/
def rowOf (H : Heap) (b : Nat) : Option (List Value × Nat) := match hget H b with
  | some (.ext cs _ sz) => some (cs, sz)
  | some (.row cs sz) => some (cs, sz)
  | _ => none
theorem rowOf_rel {P : Program} {p : Nat → Prop} {φ : Vl} {n : Nat} {H : Heap} {w : World} {fr : Fr} {a : Act} {b : Nat} {cs : List Value} {sz : Nat} (hB : Base P p φ n (hget H) w fr a) (h : rowOf H b = some (cs, sz)) :
    ∃ c t fz, w.heap[φ.loc b]? = some (.cells c t fz) ∧ c.toList.take cs.length = denL φ cs ∧ c.size = φ.cap b * sz ∧ 0 < sz := by
  unfold rowOf at h
  split at h
  · rename_i cs' t sz' hb
    injection h with h; injection h with h1 h2; subst h1 h2
    obtain ⟨c, h1, h2, h3, h4⟩ := hB.rel.blk b _ hb
    exact ⟨c, _, _, h1, h2, h3, h4⟩
  · rename_i cs' sz' hb
    injection h with h; injection h with h1 h2; subst h1 h2
    exact hB.rel.blk b _ hb
  · cases h
/-- one block with room is seen, read only -/
theorem Part.row {P : Program} {H : Heap} {n : Nat} {R : List Value → Heap → Nat → Prop} (mk : Value → List Value) (hmk : ∀ φ φ0 s s0, den φ0 s0 = den φ s → denL φ0 (mk s0) = denL φ (mk s)) (hms : ∀ (p : Nat → Prop) s, sc p s → scL p (mk s))
    {b len skip sz : Nat} {cs : List Value} (hb : rowOf H b = some (cs, sz)) (haf : afL cs = true) {N : Nat} (hN : P.globals.size = N) (h : R (mk (.slice (some ⟨N, 0, some 0⟩) len skip)) [(N, .row cs sz)] (N + 1)) : Part P (mk (.slice (some ⟨b, 0, some 0⟩) len skip)) H n R := by
  intro p φ w hB hsc
  let φ0 : Vl := ⟨fun k => if k < N then φ.loc k else φ.loc b, fun k => if k < N then φ.cap k else φ.cap b⟩
  have hN' : ∀ k, hget [(N, Blk.row cs sz)] k = some (.row cs sz) → k = N := fun k hk => by
    rw [hget_cons] at hk
    by_cases e : N = k
    · exact e.symm
    · rw [if_neg e] at hk; cases hk
  have hone : ∀ k x, hget [(N, Blk.row cs sz)] k = some x → k = N ∧ x = .row cs sz := fun k x hk => by
    rw [hget_cons] at hk
    by_cases e : N = k
    · rw [if_pos e] at hk; injection hk with hk; exact ⟨e.symm, hk.symm⟩
    · rw [if_neg e] at hk; cases hk
  have hlow : ∀ k, k < N → φ0.loc k = φ.loc k := fun k hk => by simp only [φ0]; rw [if_pos hk]
  have hden : den φ0 (.slice (some ⟨N, 0, some 0⟩) len skip) = den φ (.slice (some ⟨b, 0, some 0⟩) len skip) := by
    simp [den, φ0]
  refine ⟨mk (.slice (some ⟨N, 0, some 0⟩) len skip), [(N, .row cs sz)], N + 1, φ0, (· < N + 1), ⟨⟨fun k x hk => ?_, fun k x k' x' h1 _ _ ho => (by obtain ⟨_, rfl⟩ := hone k x h1; cases ho), fun g hg => ?_⟩, fun _ h => h, fun g hg => ?_, (by omega), fun k x hk => ?_, fun t v hv => by simp [lk] at hv, fun t v hv => by simp [lk] at hv⟩, hms _ _ (Nat.lt_succ_self _), hmk _ _ _ _ hden, fun k x hk => by obtain ⟨_, rfl⟩ := hone k x hk; rfl, h⟩
  · obtain ⟨rfl, rfl⟩ := hone k x hk
    obtain ⟨c, t, fz, h1, h2, h3, h4⟩ := rowOf_rel hB hb
    have hl : φ0.loc k = φ.loc b := by simp [φ0]
    have hc : φ0.cap k = φ.cap b := by simp [φ0]
    rw [hl]
    refine ⟨c, t, fz, h1, ?_, ?_, h4⟩
    · rw [h2, denL_af _ _ haf, denL_af _ _ haf]
    · rw [h3, hc]
  · rw [hlow g (hN ▸ hg)]; exact hB.rel.glob g hg
  · rw [← hN]; omega
  · obtain ⟨rfl, rfl⟩ := hone k x hk
    exact ⟨by omega, scL_af _ _ haf⟩
end Go.Ab

namespace Go.Ab
open Go
/-- a block that is read: the caller's name, and what is known of it -/
structure V2 where
  blk : Nat
  b : Blk
def V2.ok (H : Heap) (v : V2) : Prop := match v.b with
  | .inp o cs => (∃ m, cellsA H v.blk o m = some cs) ∧ afL cs = true
  | .row cs sz => rowOf H v.blk = some (cs, sz) ∧ afL cs = true
  | _ => False
def v2H (N : Nat) : List V2 → Heap → Heap
  | [], G => G
  | v :: vs, G => v2H (N + 1) vs ((N, v.b) :: G)
theorem hget_v2H {N : Nat} : ∀ (vs : List V2) (G : Heap) (k : Nat) (b : Blk), (∀ x ∈ G, x.1 < N) → hget (v2H N vs G) k = some b → (k < N ∧ hget G k = some b) ∨ ∃ v, vs[k - N]? = some v ∧ N ≤ k ∧ b = v.b
  | [], G, k, b, hG, h => .inl ⟨hG _ (hget_mem _ _ _ h), h⟩
  | v :: vs, G, k, b, hG, h => by
    have := hget_v2H (N := N + 1) vs ((N, v.b) :: G) k b (fun x hx => by
      rcases List.mem_cons.1 hx with rfl | hx
      · exact Nat.lt_succ_self _
      · exact Nat.lt_succ_of_lt (hG x hx)) h
    rcases this with ⟨h1, h2⟩ | ⟨u, h1, h2, h3⟩
    · rw [hget_cons] at h2
      by_cases hk : N = k
      · rw [if_pos hk] at h2; injection h2 with h2; subst hk
        exact .inr ⟨v, by simp, Nat.le_refl _, h2.symm⟩
      · rw [if_neg hk] at h2
        exact .inl ⟨by omega, h2⟩
    · refine .inr ⟨u, ?_, by omega, h3⟩
      rw [show k - N = (k - (N + 1)) + 1 by omega]
      simpa using h1
/-- blocks that are seen, read only, some with their room -/
theorem Part.gen {P : Program} {args : List Value} {H : Heap} {n : Nat} {R : List Value → Heap → Nat → Prop} (vs : List V2) {N : Nat} (hN : P.globals.size = N) (hv : ∀ v ∈ vs, V2.ok H v)
    (h : ∀ φ : Vl, ∃ args0, (∀ φ0 : Vl, (∀ i v, vs[i]? = some v → φ0.loc (N + i) = φ.loc v.blk ∧ φ0.cap (N + i) = φ.cap v.blk) → denL φ0 args0 = denL φ args) ∧ scL (· < N + vs.length) args0 ∧ R args0 (v2H N vs []) (N + vs.length)) : Part P args H n R := by
  intro p φ w hB hsc
  obtain ⟨args0, hden, hsc0, hR⟩ := h φ
  let φ0 : Vl := ⟨fun k => if k < N then φ.loc k else match vs[k - N]? with | some v => φ.loc v.blk | none => 0, fun k => if k < N then φ.cap k else match vs[k - N]? with | some v => φ.cap v.blk | none => 0⟩
  have hl : ∀ i v, vs[i]? = some v → φ0.loc (N + i) = φ.loc v.blk ∧ φ0.cap (N + i) = φ.cap v.blk := fun i v hi => by
    simp only [φ0]; rw [if_neg (by omega), if_neg (by omega), Nat.add_sub_cancel_left, hi]; exact ⟨rfl, rfl⟩
  have hlow : ∀ k, k < N → φ0.loc k = φ.loc k := fun k hk => by simp only [φ0]; rw [if_pos hk]
  have hH0 : ∀ k b, hget (v2H N vs []) k = some b → ∃ v, vs[k - N]? = some v ∧ N ≤ k ∧ b = v.b := fun k b hk => by
    rcases hget_v2H vs [] k b (by simp) hk with ⟨_, h2⟩ | h1
    · simp [hget] at h2
    · exact h1
  have hown : ∀ k b, hget (v2H N vs []) k = some b → b.own = false := fun k b hk => by
    obtain ⟨v, h1, _, rfl⟩ := hH0 k b hk
    have := hv v (List.mem_of_getElem? h1)
    unfold V2.ok at this
    split at this
    · rename_i e; rw [e]; rfl
    · rename_i e; rw [e]; rfl
    · exact this.elim
  refine ⟨args0, v2H N vs [], N + vs.length, φ0, (· < N + vs.length), ⟨⟨fun k b hk => ?_, fun k b k' b' h1 _ _ ho => (by rw [hown k b h1] at ho; cases ho), fun g hg => ?_⟩, fun _ h => h, fun g hg => ?_, (by omega), fun k b hk => ?_, fun t v hv => by simp [lk] at hv, fun t v hv => by simp [lk] at hv⟩, hsc0, hden φ0 hl, hown, hR⟩
  · obtain ⟨v, h1, h2, rfl⟩ := hH0 k b hk
    have hok := hv v (List.mem_of_getElem? h1)
    have hlk := hl _ _ h1
    rw [show N + (k - N) = k by omega] at hlk
    rw [hlk.1]
    unfold V2.ok at hok
    split at hok
    · rename_i o cs e
      rw [e]
      obtain ⟨⟨m, hc⟩, haf⟩ := hok
      exact cellsA_block hB.rel hc haf φ0 k
    · rename_i cs sz e
      rw [e]
      obtain ⟨c, t, fz, e1, e2, e3, e4⟩ := rowOf_rel hB hok.1
      refine ⟨c, t, fz, e1, ?_, ?_, e4⟩
      · rw [e2, denL_af _ _ hok.2, denL_af _ _ hok.2]
      · rw [e3, hlk.2]
    · exact hok.elim
  · rw [hlow g (hN ▸ hg)]; exact hB.rel.glob g hg
  · rw [← hN]; omega
  · obtain ⟨v, h1, h2, rfl⟩ := hH0 k b hk
    have := (List.getElem?_eq_some_iff.1 h1).1
    have hok := hv v (List.mem_of_getElem? h1)
    refine ⟨by omega, ?_⟩
    unfold V2.ok at hok
    split at hok
    · rename_i e; rw [e]; exact scL_af _ _ hok.2
    · rename_i e; rw [e]; exact scL_af _ _ hok.2
    · exact hok.elim
end Go.Ab

namespace Go.Ab
open Go Go.ChangeShapes Go.WideShapes
inductive Leaf where
  | int (k : IntKind) | str | bool
  deriving DecidableEq
def Leaf.fits : Leaf → Value → Prop
  | .int k, v => ∃ n, v = .int k n ∧ (Lit.int k n).wf = true
  | .str, v => ∃ s : ByteArray, v = .string s ∧ s.size ≤ maxLen
  | .bool, v => ∃ b, v = .bool b
def fitsL : List Leaf → List Value → Prop
  | [], [] => True
  | l :: ls, v :: vs => l.fits v ∧ fitsL ls vs
  | _, _ => False
def leafs (P : Program) : Nat → TypeId → Option (List Leaf)
  | 0, _ => none
  | d + 1, t => match P.underlying t with
    | some .bool => some [.bool]
    | some .string => some [.str]
    | some (.int k) => some [.int k]
    | some (.array n e) => match leafs P d e with
      | some l => if l.length = P.cellsOf e ∧ P.cellsOf t = n * l.length then some (List.replicate n l).flatten else none
      | none => none
    | some (.struct fs) => match fs.toList.foldlM (fun acc f => if f.offset = acc.length then (leafs P d f.type).bind fun l => if l.length = P.cellsOf f.type then some (acc ++ l) else none else none) [] with
      | some l => if l.length = P.cellsOf t then some l else none
      | none => none
    | _ => none
theorem fitsL_append : ∀ {a : List Leaf} {x : List Value} {b : List Leaf} {y : List Value}, fitsL a x → fitsL b y → fitsL (a ++ b) (x ++ y)
  | [], [], _, _, _, h => h
  | _ :: _, _ :: _, _, _, ⟨h1, h2⟩, h => ⟨h1, fitsL_append h2 h⟩
  | [], _ :: _, _, _, h, _ => h.elim
  | _ :: _, [], _, _, h, _ => h.elim
theorem fitsL_length : ∀ {a : List Leaf} {x : List Value}, fitsL a x → x.length = a.length
  | [], [], _ => rfl
  | _ :: _, _ :: _, ⟨_, h2⟩ => congrArg (· + 1) (fitsL_length h2)
  | [], _ :: _, h => h.elim
  | _ :: _, [], h => h.elim
section
variable {H : Type} {enc : TypeId × Value → H} {P : Program} {w : World} {base : Nat} {spare : Nat → Bool} {held : Bool}
theorem leafs_ok : ∀ (d : Nat) (t : TypeId) (ls : List Leaf) (fuel : Nat) (cs : List Value) (x : DataW H × List MemPlace), leafs P d t = some ls → DataW.trod enc P w base spare held fuel t cs = some x → fitsL ls cs
  | 0, _, _, _, _, _, hl, _ => by simp [leafs] at hl
  | d + 1, t, ls, fuel, cs, x, hl, h => by
    unfold leafs at hl
    split at hl
    · rename_i ht
      injection hl with hl; subst hl
      obtain ⟨b, rfl, _⟩ := DataW.trod_bool ht h
      exact ⟨⟨b, rfl⟩, trivial⟩
    · rename_i ht
      injection hl with hl; subst hl
      obtain ⟨b, rfl, _, hs⟩ := DataW.trod_string ht h
      exact ⟨⟨b, rfl, hs⟩, trivial⟩
    · rename_i k ht
      injection hl with hl; subst hl
      obtain ⟨b, rfl, _, hs⟩ := DataW.trod_int ht h
      exact ⟨⟨b, rfl, hs⟩, trivial⟩
    · rename_i n e ht
      obtain ⟨xs, m, rfl, _, hlen, hxl, hel⟩ := DataW.trod_array ht h
      split at hl
      · rename_i l he
        split at hl
        · rename_i hc
          injection hl with hl; subst hl
          have key : ∀ k, k ≤ n → fitsL (List.replicate k l).flatten (cs.take (k * l.length)) := by
            intro k
            induction k with
            | zero => intro _; simp [fitsL]
            | succ k ih =>
              intro hk
              have h1 := hel k (by omega)
              obtain ⟨y, hy⟩ : ∃ y, xs[k]? = some y := ⟨xs[k]'(by omega), by simp⟩
              rw [hy] at h1
              have h2 := leafs_ok d e l m _ y he h1
              rw [List.replicate_succ', List.flatten_append, Nat.succ_mul, List.take_add]
              rw [← hc.1] at h2
              simpa using fitsL_append (ih (by omega)) h2
          have := key n (Nat.le_refl _)
          rw [List.take_of_length_le (by rw [hlen, hc.2]; exact Nat.le_refl _)] at this
          exact this
        · cases hl
      · cases hl
    · rename_i fs ht
      obtain ⟨xs, m, rfl, _, hlen, hxl, hel⟩ := DataW.trod_struct ht h
      split at hl
      · rename_i l hf
        split at hl
        · rename_i hc
          injection hl with hl; subst hl
          have key : ∀ (fl : List Field) (acc res : List Leaf), fl.foldlM (fun acc f => if f.offset = acc.length then (leafs P d f.type).bind fun l => if l.length = P.cellsOf f.type then some (acc ++ l) else none else none) acc = some res →
              fitsL acc (cs.take acc.length) → (∀ f ∈ fl, ∃ y, DataW.trod enc P w base spare held m f.type ((cs.drop f.offset).take (P.cellsOf f.type)) = some y) → fitsL res (cs.take res.length) := by
            intro fl
            induction fl with
            | nil => intro acc res h1 h2 _; injection h1 with h1; subst h1; exact h2
            | cons f fl ih =>
              intro acc res h1 h2 h3
              rw [List.foldlM_cons] at h1
              simp only [Option.bind_eq_bind, Option.bind_eq_some_iff] at h1
              obtain ⟨acc', h1, h4⟩ := h1
              split at h1
              · rename_i ho
                rw [Option.bind_eq_some_iff] at h1
                obtain ⟨l', h5, h6⟩ := h1
                split at h6
                · rename_i hc'
                  injection h6 with h6; subst h6
                  obtain ⟨y, hy⟩ := h3 f (List.mem_cons_self ..)
                  have := leafs_ok d f.type l' m _ y h5 hy
                  rw [← hc', ho] at this
                  refine ih _ _ h4 ?_ fun g hg => h3 g (List.mem_cons_of_mem _ hg)
                  rw [List.length_append, List.take_add]
                  exact fitsL_append h2 this
                · cases h6
              · cases h1
          have := key fs.toList [] _ hf (by simp [fitsL]) fun f hf => by
            obtain ⟨i, hi, rfl⟩ := List.getElem_of_mem hf
            have h1 := hel i fs[i] (by simp)
            obtain ⟨y, hy⟩ : ∃ y, xs[i]? = some y := ⟨xs[i]'(by rw [hxl]; simpa using hi), by simp⟩
            rw [hy] at h1
            exact ⟨y, by simpa using h1⟩
          rw [List.take_of_length_le (by rw [hlen, hc]; exact Nat.le_refl _)] at this
          exact this
        · cases hl
      · cases hl
    · cases hl
theorem flatten_get {m : Nat} (hm : 0 < m) : ∀ (rows : List (List Value)) (j : Nat), (∀ r ∈ rows, r.length = m) → rows.flatten[j]? = (rows[j / m]?).bind (·[j % m]?)
  | [], j, _ => by simp
  | r :: rows, j, h => by
    have hr := h r (List.mem_cons_self ..)
    rw [List.flatten_cons]
    rcases Nat.lt_or_ge j m with hj | hj
    · rw [List.getElem?_append_left (by omega), Nat.div_eq_of_lt hj, Nat.mod_eq_of_lt hj]
      simp
    · rw [List.getElem?_append_right (by omega), hr, flatten_get hm rows (j - m) fun r hr => h r (List.mem_cons_of_mem _ hr)]
      obtain ⟨k, rfl⟩ : ∃ k, j = k + m := ⟨j - m, by omega⟩
      rw [Nat.add_sub_cancel, Nat.add_div_right _ hm, Nat.add_mod_right, List.getElem?_cons_succ]
theorem flatten_length {m : Nat} : ∀ (rows : List (List Value)), (∀ r ∈ rows, r.length = m) → rows.flatten.length = rows.length * m
  | [], _ => by simp
  | r :: rows, h => by
    rw [List.flatten_cons, List.length_append, flatten_length rows fun r hr => h r (List.mem_cons_of_mem _ hr), h r (List.mem_cons_self ..), List.length_cons, Nat.succ_mul, Nat.add_comm]
/-- a slice of flat elements, opened -/
theorem open_slice {t e : TypeId} {d fuel : Nat} {ls : List Leaf} {cs : List Value} {x : DataW H × List MemPlace} (ht : P.underlying t = some (.slice e)) (hl : leafs P d e = some ls) (hc : ls.length = P.cellsOf e) (hpos : 0 < ls.length)
    (h : DataW.trod enc P w base spare held fuel t cs = some x) :
    cs = [.slice none 0 0] ∨ ∃ (a : Addr) (len cap : Nat) (rows : List (List Value)), cs = [.slice (some a) len cap] ∧ len ≤ cap ∧ cap ≤ maxLen ∧ rows.length = len ∧ (∀ r ∈ rows, fitsL ls r) ∧
      (a.spot = none → ∀ j, j < rows.flatten.length → w.cell? ⟨a.block, a.off + j, none⟩ = rows.flatten[j]?) := by
  rcases DataW.trod_slice ht h with ⟨h0, _⟩ | ⟨a, len, cap, elems, rest, n, _, rfl, _, hb, hlc, hm, hlen, hel, _⟩
  · exact .inl h0
  right
  have each : ∀ i, i < len → ∃ r, w.cells? base (a.add (i * P.cellsOf e)) (P.cellsOf e) = some r ∧ fitsL ls r := fun i hi => by
    have h1 := hel i hi
    obtain ⟨y, hy⟩ : ∃ y, elems[i]? = some y := ⟨elems[i]'(by omega), by simp⟩
    rw [hy, Option.bind_eq_some_iff] at h1
    obtain ⟨r, h2, h3⟩ := h1
    exact ⟨r, h2, leafs_ok d e ls n r y hl h3⟩
  let rows : List (List Value) := (List.range len).map fun i => (w.cells? base (a.add (i * P.cellsOf e)) (P.cellsOf e)).getD []
  have hrow : ∀ i, i < len → ∃ r, rows[i]? = some r ∧ w.cells? base (a.add (i * P.cellsOf e)) (P.cellsOf e) = some r ∧ fitsL ls r := fun i hi => by
    obtain ⟨r, h1, h2⟩ := each i hi
    exact ⟨r, by simp [rows, hi, h1], h1, h2⟩
  have hfit : ∀ r ∈ rows, fitsL ls r := fun r hr => by
    obtain ⟨i, hi⟩ := List.getElem?_of_mem hr
    have hi' := (List.getElem?_eq_some_iff.1 hi).1
    simp [rows] at hi'
    obtain ⟨r', h1, _, h2⟩ := hrow i hi'
    rw [hi] at h1; injection h1 with h1; subst h1; exact h2
  refine ⟨a, len, cap, rows, rfl, hlc, hm, by simp [rows], hfit, fun hs j hj => ?_⟩
  have hw : ∀ r ∈ rows, r.length = ls.length := fun r hr => fitsL_length (hfit r hr)
  rw [flatten_length rows hw] at hj
  rw [flatten_get hpos rows j hw]
  have hjl : j / ls.length < len := by
    rw [Nat.div_lt_iff_lt_mul hpos]
    simpa [rows] using hj
  obtain ⟨r, h1, h2, h3⟩ := hrow _ hjl
  rw [h1, Option.bind_some]
  have h4 := (World.cells?_some h2).2.2 (j % ls.length) (by rw [← hc]; exact Nat.mod_lt _ hpos)
  rw [← h4, ← hc]
  congr 1
  have hadd : ∀ (b : Addr) (k : Nat), b.spot = none → b.add k = ⟨b.block, b.off + k, none⟩ := fun b k hb => by
    unfold Addr.add
    split
    · rename_i h0; subst h0; cases b; simp_all
    · rfl
  rw [hadd a _ hs, hadd _ _ rfl]
  have := Nat.div_add_mod j ls.length
  rw [Nat.mul_comm] at this
  simp only [Nat.add_assoc, this]
/-- a handed slice has no spot, and a block -/
theorem okWide_addr {r : Reach} {t e : TypeId} {a : Addr} {len cap : Nat} (ht : P.underlying t = some (.slice e)) (h : Cell.okWide P w r base t (.slice (some a) len cap)) : a.spot = none ∧ ∃ c t fz, w.heap[a.block]? = some (.cells c t fz) := by
  unfold Cell.okWide at h
  rw [ht] at h
  simp only at h
  unfold Cell.ok at h
  rw [ht] at h
  obtain ⟨_, _, _, hs, row, cells, hsh, _⟩ := h
  refine ⟨hs, ?_⟩
  unfold World.shape? at hsh
  split at hsh
  · rename_i c el fz hw
    exact ⟨c, el, fz, hw⟩
  · cases hsh
theorem cell_get {b o : Nat} {c : Array Value} {t : TypeId} {fz : Nat × Nat} (hw : w.heap[b]? = some (.cells c t fz)) : w.cell? ⟨b, o, none⟩ = c[o]? := by
  unfold World.cell?
  rw [hw]
  simp
/-- a handed slice of flat elements -/
theorem handed_slice {r : Reach} {b0 : Nat} {t e : TypeId} {d fuel : Nat} {ls : List Leaf} {v : Value} {x : DataW H × List MemPlace} (ht : P.underlying t = some (.slice e)) (hl : leafs P d e = some ls) (hc : ls.length = P.cellsOf e) (hpos : 0 < ls.length)
    (hok : Cell.okWide P w r b0 t v) (h : DataW.trod enc P w base spare held fuel t [v] = some x) :
    v = .slice none 0 0 ∨ ∃ (b o len cap : Nat) (rows : List (List Value)), v = .slice (some ⟨b, o, none⟩) len cap ∧ len ≤ cap ∧ cap ≤ maxLen ∧ rows.length = len ∧ (∀ r ∈ rows, fitsL ls r) ∧
      ∃ c t fz, w.heap[b]? = some (.cells c t fz) ∧ ∀ i, i < rows.flatten.length → c[o + i]? = rows.flatten[i]? := by
  rcases open_slice ht hl hc hpos h with h0 | ⟨⟨b, o, s⟩, len, cap, rows, h1, h2, h3, h4, h5, h6⟩
  · left; simpa using h0
  · right
    obtain rfl : v = .slice (some ⟨b, o, s⟩) len cap := by simpa using h1
    obtain ⟨hs, c, t', fz, hw⟩ := okWide_addr ht hok
    have hs : s = none := hs
    subst hs
    exact ⟨b, o, len, cap, rows, rfl, h2, h3, h4, h5, c, t', fz, hw, fun i hi => by rw [← cell_get hw, h6 rfl i hi]⟩
/-- a handed struct of one slice -/
theorem handed_str {r : Reach} {b0 : Nat} {t u e : TypeId} {d : Nat} {fs : Array Field} {f : Field} {ls : List Leaf} {v : Value} {y : DataW H} {p : List MemPlace} (hs : P.underlying t = some (.struct fs)) (hf : fs[0]? = some f) (ho : f.offset = 0) (hft : f.type = u) (h1 : P.cellsOf t = 1) (h1' : P.cellsOf u = 1) (hct : P.cellTypes P.depth t = some [u])
    (ht : P.underlying u = some (.slice e)) (hl : leafs P d e = some ls) (hc : ls.length = P.cellsOf e) (hpos : 0 < ls.length)
    (hok : Value.okWide P w r b0 t v) (h : DataW.Trod enc P w base spare held t v y p) :
    v = .agg ⟨[.slice none 0 0]⟩ ∨ ∃ (b o len cap : Nat) (rows : List (List Value)), v = .agg ⟨[.slice (some ⟨b, o, none⟩) len cap]⟩ ∧ len ≤ cap ∧ cap ≤ maxLen ∧ rows.length = len ∧ (∀ r ∈ rows, fitsL ls r) ∧
      ∃ c t fz, w.heap[b]? = some (.cells c t fz) ∧ ∀ i, i < rows.flatten.length → c[o + i]? = rows.flatten[i]? := by
  unfold Value.okWide at hok
  rw [hs] at hok
  obtain ⟨cs, rfl, hsz, ts, hts, _, hrow⟩ := hok
  rw [hct] at hts
  injection hts with hts; subst hts
  rw [h1] at hsz
  obtain ⟨l⟩ := cs
  match l, hsz with
  | [v0], _ =>
    obtain ⟨u', h2, h3⟩ := hrow 0 v0 rfl
    obtain rfl : u = u' := by simpa using h2
    obtain ⟨fuel, h⟩ := h
    obtain ⟨xs, m, rfl, _, hlen, hxl, hel⟩ := DataW.trod_struct hs h
    have h4 := hel 0 f hf
    rw [ho, hft, h1'] at h4
    have hpos' : 0 < fs.size := (Array.getElem?_eq_some_iff.1 hf).1
    obtain ⟨y, hy⟩ : ∃ y, xs[0]? = some y := ⟨xs[0]'(by omega), by simp⟩
    rw [hy] at h4
    rcases handed_slice ht hl hc hpos h3 (by simpa [Value.cells] using h4) with rfl | ⟨b, o, len, cap, rows, rfl, h5⟩
    · exact .inl rfl
    · exact .inr ⟨b, o, len, cap, rows, rfl, h5⟩
end
end Go.Ab

namespace Go.Ab
open Go
/-- the first 'n' values of a function -/
def rl {α : Type} (f : Nat → α) (n : Nat) : List α := (List.range n).map f
@[simp] theorem rl_length {α : Type} (f : Nat → α) (n : Nat) : (rl f n).length = n := by simp [rl]
theorem rl_succ {α : Type} (f : Nat → α) (n : Nat) : rl f (n + 1) = rl f n ++ [f n] := by simp [rl, List.range_succ]
@[simp] theorem rl_zero {α : Type} (f : Nat → α) : rl f 0 = [] := rfl
@[simp] theorem rl_getElem {α : Type} {f : Nat → α} {n i : Nat} (h : i < (rl f n).length) : (rl f n)[i] = f i := by simp [rl]
/-- what a function makes of the first 'i' elements -/
def tk {α β : Type} (f : α → β) (l : List α) (i : Nat) : List β := (l.take i).map f
@[simp] theorem tk_zero {α β : Type} (f : α → β) (l : List α) : tk f l 0 = [] := rfl
theorem tk_succ {α β : Type} (f : α → β) {l : List α} {i : Nat} (h : i < l.length) : tk f l (i + 1) = tk f l i ++ [f l[i]] := by unfold tk; rw [List.take_succ_eq_append_getElem h, List.map_append]; rfl
theorem tk_length {α β : Type} (f : α → β) {l : List α} {i : Nat} (h : i ≤ l.length) : (tk f l i).length = i := by simp [tk]; omega
theorem tk_all {α β : Type} (f : α → β) {l : List α} {i : Nat} (h : l.length ≤ i) : tk f l i = l.map f := by simp [tk, List.take_of_length_le h]
end Go.Ab

namespace Go.Ab
open Go
section
variable {P : Program} {O : Oracle} {m : Nat} {ro : Option Nat} {st : St}
theorem evc_ret : (ev P O (m + 1)).code ro .ret st = some (.ret, st) := rfl
theorem evc_seq {a b : Code} : (ev P O (m + 1)).code ro (.seq a b) st = match (ev P O m).code ro a st with
  | some (.normal, st') => (ev P O m).code ro b st'
  | x => x := rfl
theorem evc_reg {id : Nat} {ops : Array Oper} : (ev P O (m + 1)).code ro (.region id ops false) st = match opsF P (ev P O m) ops ops.toList st with
  | some st' => some (.normal, st')
  | none => none := rfl
theorem ev_call {f : FuncId} {args : List Value} {H : Heap} {n : Nat} : (ev P O (m + 1)).call f args H n = match O f args H n with
  | some x => some x
  | none => match P.funcs[f]? with
    | none => none
    | some fn => match fn.body with
      | none => externF P f args H n
      | some c => match enterable P f && decide (args.length ≤ fn.ntmps) with
        | true => bodyF P (ev P O m) fn c args H n
        | false => none := rfl
end
end Go.Ab

namespace Go.Ab
open Go
abbrev CodeSpec := Option Nat → Code → St → Option (Ex × St)
open Classical in
noncomputable def recV (P : Program) (C : CodeSpec) (F : Oracle) : Rec :=
  ⟨fun ro c s => match c with
    | .loop _ => none
    | c => match C ro c s with
      | some (e, s') => if AT P ro c s e s' then some (e, s') else none
      | none => none,
   fun f args H n => match F f args H n with
    | some (v, H', n') => if AC P f args H n v H' n' then some (v, H', n') else none
    | none => none⟩
theorem recV_ok {P : Program} {C : CodeSpec} {F : Oracle} : RecOk P (recV P C F) 0 where
  code := fun ro c st e st' h => by
    simp only [recV] at h
    split at h
    · cases h
    · split at h
      · split at h
        · rename_i ha
          injection h with h; injection h with h1 h2; subst h1 h2; exact ha
        · cases h
      · cases h
  loop := fun ro b st e st' h p φ a w hS hl Q hQ => by
    simp only [recV] at h
    cases h
  call := fun f args H n v H' n' h => by
    simp only [recV] at h
    split at h
    · split at h
      · rename_i ha
        injection h with h; injection h with h1 h2; injection h2 with h2 h3; subst h1 h2 h3; exact ha
      · cases h
    · cases h
theorem recV_code {P : Program} {C : CodeSpec} {F : Oracle} {ro : Option Nat} {c : Code} {s s' : St} {e : Ex} (hc : ∀ b, c ≠ .loop b) (h : C ro c s = some (e, s')) (ha : AT P ro c s e s') : (recV P C F).code ro c s = some (e, s') := by
  cases c with
  | loop b => exact absurd rfl (hc b)
  | _ => simp only [recV, h, if_pos ha]
theorem recV_call {P : Program} {C : CodeSpec} {F : Oracle} {f : FuncId} {args : List Value} {H H' : Heap} {n n' : Nat} {v : Value} (h : F f args H n = some (v, H', n')) (ha : AC P f args H n v H' n') : (recV P C F).call f args H n = some (v, H', n') := by
  simp only [recV]
  rw [h]; simp only; rw [if_pos ha]
/-- the piece, with its end as it was reckoned -/
theorem E.toAT {P : Program} {ro : Option Nat} {c : Code} {s s' : St} {e : Ex} (h : E P s.n ro c s fun e2 s2 => e2 = e ∧ s2 = s') : AT P ro c s e s' := by
  obtain ⟨e2, s2, hx, rfl, rfl⟩ := h
  exact ATX.at hx
end Go.Ab

namespace Go.Ab
open Go
def sampQ (n : Int) : Option Nat := FloatKind.f32.format.div (FloatKind.f32.nearest n) 1098907648
def sampB (n : Int) : Nat := (sampQ n).getD 0
def sampGood (n : Int) : Bool := match sampQ n with
  | some r => FloatKind.f32.format.order r r == some .eq
  | none => false
theorem samp_all : ((List.range 8193).all fun k : Nat => sampGood ((k : Int) - 4096)) = true := by kernel_rfl
theorem samp_ok {n : Int} (h1 : -4096 ≤ n) (h2 : n ≤ 4096) : sampQ n = some (sampB n) ∧ FloatKind.f32.format.order (sampB n) (sampB n) = some .eq := by
  have := List.all_eq_true.1 samp_all (n + 4096).toNat (List.mem_range.2 (by omega))
  rw [show (((n + 4096).toNat : Nat) : Int) - 4096 = n by omega] at this
  unfold sampGood at this
  unfold sampB
  cases h : sampQ n with
  | none => rw [h] at this; cases this
  | some r =>
    rw [h] at this
    exact ⟨rfl, by simpa using this⟩
end Go.Ab

namespace Go.Proofs.YtndlfijfjglkdaaGreatDoor
open Go Go.Ab Go.Proofs
abbrev g1 (F : Int → Int) (args : List Value) (H : Heap) (n : Nat) : R := match args with | [.int .i64 a] => some (iv (F a), H, n) | _ => none
abbrev g2 (F : Int → Int → Int) (args : List Value) (H : Heap) (n : Nat) : R := match args with | [.int .i64 a, .int .i64 b] => some (iv (F a b), H, n) | _ => none
abbrev g3 (F : Int → Int → Int → Int) (args : List Value) (H : Heap) (n : Nat) : R := match args with | [.int .i64 a, .int .i64 b, .int .i64 c] => some (iv (F a b c), H, n) | _ => none
theorem okInt1 {f : FuncId} {F : Int → Int} (h : ∀ a, AC Tryz.prog f [iv a] [] 10 (iv (F a)) [] 10) : EntOk Tryz.prog (f, g1 F) := by
  intro args H n v H' n' h'
  simp only [g1] at h'
  split at h'
  · injection h' with h'; injection h' with e1 e2; injection e2 with e2 e3; subst e1 e2 e3
    exact AC.liftP rfl (Part.plain (by simp) [] (by simp [Seen]) gsz ⟨_, _, h _⟩)
  · cases h'
theorem okInt2 {f : FuncId} {F : Int → Int → Int} (h : ∀ a b, AC Tryz.prog f [iv a, iv b] [] 10 (iv (F a b)) [] 10) : EntOk Tryz.prog (f, g2 F) := by
  intro args H n v H' n' h'
  simp only [g2] at h'
  split at h'
  · injection h' with h'; injection h' with e1 e2; injection e2 with e2 e3; subst e1 e2 e3
    exact AC.liftP rfl (Part.plain (by simp) [] (by simp [Seen]) gsz ⟨_, _, h _ _⟩)
  · cases h'
theorem okInt3 {f : FuncId} {F : Int → Int → Int → Int} (h : ∀ a b c, AC Tryz.prog f [iv a, iv b, iv c] [] 10 (iv (F a b c)) [] 10) : EntOk Tryz.prog (f, g3 F) := by
  intro args H n v H' n' h'
  simp only [g3] at h'
  split at h'
  · injection h' with h'; injection h' with e1 e2; injection e2 with e2 e3; subst e1 e2 e3
    exact AC.liftP rfl (Part.plain (by simp) [] (by simp [Seen]) gsz ⟨_, _, h _ _ _⟩)
  · cases h'
theorem w124 (a : Int) : AC Tryz.prog 124 [iv a] [] 10 (iv (withinV a 1 64)) [] 10 := by
  have hr := recT_ok (P := Tryz.prog) (l := [(138, g138)]) (by simp [ok138])
  refine AC.pure Tryz.func124 rfl (by kernel_rfl) rfl [] rfl ?_
  refine E.seq ?_
  refine E.reg hr (by simp; rfl) ?_
  refine E.seq ?_
  refine E.reg hr (by simp [g138]; rfl) ?_
  refine E.ret ?_
  exact pureK.ret rfl rfl (by simp) (sub_refl _)
theorem w125 (a : Int) : AC Tryz.prog 125 [iv a] [] 10 (iv (withinV a 0 4)) [] 10 := by
  have hr := recT_ok (P := Tryz.prog) (l := [(138, g138)]) (by simp [ok138])
  refine AC.pure Tryz.func125 rfl (by kernel_rfl) rfl [] rfl ?_
  refine E.seq ?_
  refine E.reg hr (by simp; rfl) ?_
  refine E.seq ?_
  refine E.reg hr (by simp [g138]; rfl) ?_
  refine E.ret ?_
  exact pureK.ret rfl rfl (by simp) (sub_refl _)
theorem w127 (a : Int) : AC Tryz.prog 127 [iv a] [] 10 (iv (withinV a 1 64)) [] 10 := by
  have hr := recT_ok (P := Tryz.prog) (l := [(138, g138)]) (by simp [ok138])
  refine AC.pure Tryz.func127 rfl (by kernel_rfl) rfl [] rfl ?_
  refine E.seq ?_
  refine E.reg hr (by simp; rfl) ?_
  refine E.seq ?_
  refine E.reg hr (by simp [g138]; rfl) ?_
  refine E.ret ?_
  exact pureK.ret rfl rfl (by simp) (sub_refl _)
theorem w35 (a : Int) : AC Tryz.prog 35 [iv a] [] 10 (iv (withinV a 1 64)) [] 10 := by
  have hr := recT_ok (P := Tryz.prog) (l := [(62, g138)]) (by simp [ok62])
  refine AC.pure Tryz.func35 rfl (by kernel_rfl) rfl [] rfl ?_
  refine E.seq ?_
  refine E.reg hr (by simp; rfl) ?_
  refine E.seq ?_
  refine E.reg hr (by simp [g138]; rfl) ?_
  refine E.ret ?_
  exact pureK.ret rfl rfl (by simp) (sub_refl _)
theorem w36 (a : Int) : AC Tryz.prog 36 [iv a] [] 10 (iv (withinV a 0 4)) [] 10 := by
  have hr := recT_ok (P := Tryz.prog) (l := [(62, g138)]) (by simp [ok62])
  refine AC.pure Tryz.func36 rfl (by kernel_rfl) rfl [] rfl ?_
  refine E.seq ?_
  refine E.reg hr (by simp; rfl) ?_
  refine E.seq ?_
  refine E.reg hr (by simp [g138]; rfl) ?_
  refine E.ret ?_
  exact pureK.ret rfl rfl (by simp) (sub_refl _)
theorem w37 (a : Int) : AC Tryz.prog 37 [iv a] [] 10 (iv (withinV a 1 64)) [] 10 := by
  have hr := recT_ok (P := Tryz.prog) (l := [(62, g138)]) (by simp [ok62])
  refine AC.pure Tryz.func37 rfl (by kernel_rfl) rfl [] rfl ?_
  refine E.seq ?_
  refine E.reg hr (by simp; rfl) ?_
  refine E.seq ?_
  refine E.reg hr (by simp [g138]; rfl) ?_
  refine E.ret ?_
  exact pureK.ret rfl rfl (by simp) (sub_refl _)
def periodV (v s : Int) : Int := IntKind.i64.wrap (IntKind.i64.wrap (4 + IntKind.i64.wrap (v.tdiv 8)) + s)
theorem w126 (v s : Int) : AC Tryz.prog 126 [iv v, iv s] [] 10 (iv (periodV v s)) [] 10 := by
  have hr := recT_ok (P := Tryz.prog) (l := []) (by simp)
  refine AC.pure Tryz.func126 rfl (by kernel_rfl) rfl [] rfl ?_
  refine E.seq ?_
  refine E.reg hr (by simp; rfl) ?_
  refine E.seq ?_
  refine E.reg hr (by simp [bin_quo]; rfl) ?_
  refine E.ret ?_
  exact pureK.ret rfl rfl (by simp [periodV]) (sub_refl _)
theorem w38 (v s : Int) : AC Tryz.prog 38 [iv v, iv s] [] 10 (iv (periodV v s)) [] 10 := by
  have hr := recT_ok (P := Tryz.prog) (l := []) (by simp)
  refine AC.pure Tryz.func38 rfl (by kernel_rfl) rfl [] rfl ?_
  refine E.seq ?_
  refine E.reg hr (by simp; rfl) ?_
  refine E.seq ?_
  refine E.reg hr (by simp [bin_quo]; rfl) ?_
  refine E.ret ?_
  exact pureK.ret rfl rfl (by simp [periodV]) (sub_refl _)
theorem ok124 : EntOk Tryz.prog (124, g1 fun a => withinV a 1 64) := okInt1 w124
theorem ok125 : EntOk Tryz.prog (125, g1 fun a => withinV a 0 4) := okInt1 w125
theorem ok127 : EntOk Tryz.prog (127, g1 fun a => withinV a 1 64) := okInt1 w127
theorem ok35 : EntOk Tryz.prog (35, g1 fun a => withinV a 1 64) := okInt1 w35
theorem ok36 : EntOk Tryz.prog (36, g1 fun a => withinV a 0 4) := okInt1 w36
theorem ok37 : EntOk Tryz.prog (37, g1 fun a => withinV a 1 64) := okInt1 w37
theorem ok126 : EntOk Tryz.prog (126, g2 periodV) := okInt2 w126
theorem ok38 : EntOk Tryz.prog (38, g2 periodV) := okInt2 w38
/-- the error of a volume and a shift -/
def volE (v s : Int) : Int := firstV [withinV v 1 64, withinV s 0 4]
def bubE (v s w : Int) : Int := firstV [withinV v 1 64, withinV s 0 4, withinV w 1 64]
theorem w33 (v s : Int) : AC Tryz.prog 33 [iv v, iv s] [] 10 (.tuple #[iv (if volE v s = 0 then periodV v s else 0), iv (volE v s)]) [] 10 := by
  have hr := recT_ok (P := Tryz.prog) (l := [(124, g1 fun a => withinV a 1 64), (125, g1 fun a => withinV a 0 4), (113, g113), (126, g2 periodV)]) (by simp only [List.forall_mem_cons]; exact ⟨ok124, ok125, ok113, ok126, by simp⟩)
  refine AC.pure Tryz.func33 rfl (by kernel_rfl) rfl [] (by simp) ?_
  refine E.seq ?_
  refine E.reg hr (by simp; rfl) ?_
  refine E.seq ?_
  refine E.seq ?_
  refine E.reg hr (by simp [g113, intsAt, intsOf]; rfl) ?_
  refine E.seq ?_
  refine E.reg hr (by simp; rfl) ?_
  refine E.cond (by rfl) (fun h => ?_) (fun h => ?_)
  · simp at h
    refine E.seq ?_
    refine E.reg hr (by simp; rfl) ?_
    refine E.ret ?_
    exact pureK.ret rfl rfl (by simp [volE, h]) (by repeat first | exact sub_refl _ | refine sub_cons rfl ?_)
  · simp at h
    refine E.skip ?_
    refine E.seq ?_
    refine E.reg hr (by simp; rfl) ?_
    refine E.ret ?_
    exact pureK.ret rfl rfl (by simp [volE, h]) (by repeat first | exact sub_refl _ | refine sub_cons rfl ?_)
/-- the heights of a bubble, as the reference reckons them -/
def pulseV (v s i : Int) : Int :=
  if i = 0 then IntKind.i64.wrap (4 * v) else if i = IntKind.i64.wrap ((periodV v s).tdiv 2) then IntKind.i64.wrap (0 - IntKind.i64.wrap (2 * v)) else if i = periodV v s then IntKind.i64.wrap (2 * v) else if i = IntKind.i64.wrap (2 * periodV v s) then v else 0
theorem w130 (v s i : Int) : AC Tryz.prog 130 [iv v, iv s, iv i] [] 10 (iv (pulseV v s i)) [] 10 := by
  have hr := recT_ok (P := Tryz.prog) (l := [(38, g2 periodV)]) (by simp only [List.forall_mem_cons]; exact ⟨ok38, by simp⟩)
  refine AC.pure Tryz.func130 rfl (by kernel_rfl) rfl [] (by simp) ?_
  refine E.seq ?_
  refine E.reg hr (by simp; rfl) ?_
  refine E.seq ?_
  refine E.reg hr (by simp; rfl) ?_
  refine E.seq ?_
  refine E.seq ?_
  refine E.reg hr (by simp; rfl) ?_
  refine E.cond (by rfl) (fun h => ?_) (fun h => ?_)
  · simp at h
    refine E.seq ?_
    refine E.reg hr (by simp; rfl) ?_
    refine E.ret ?_
    exact pureK.ret rfl rfl (by simp [pulseV, h]) (sub_refl _)
  · simp at h
    refine E.skip ?_
    refine E.seq ?_
    refine E.seq ?_
    refine E.reg hr (by simp [bin_quo]; rfl) ?_
    refine E.cond (by rfl) (fun h2 => ?_) (fun h2 => ?_)
    · simp at h2
      refine E.seq ?_
      refine E.reg hr (by simp; rfl) ?_
      refine E.ret ?_
      exact pureK.ret rfl rfl (by simp only [one, pulseV]; rw [if_neg h, if_pos h2]; simp) (sub_refl _)
    · simp at h2
      refine E.skip ?_
      refine E.seq ?_
      refine E.seq ?_
      refine E.reg hr (by simp; rfl) ?_
      refine E.cond (by rfl) (fun h3 => ?_) (fun h3 => ?_)
      · simp at h3
        refine E.seq ?_
        refine E.reg hr (by simp; rfl) ?_
        refine E.ret ?_
        exact pureK.ret rfl rfl (by simp only [one, pulseV]; rw [if_neg h, if_neg h2, if_pos h3]) (sub_refl _)
      · simp at h3
        refine E.skip ?_
        refine E.seq ?_
        refine E.seq ?_
        refine E.reg hr (by simp; rfl) ?_
        refine E.cond (by rfl) (fun h4 => ?_) (fun h4 => ?_)
        · simp at h4
          refine E.seq ?_
          refine E.reg hr (by simp; rfl) ?_
          refine E.ret ?_
          exact pureK.ret rfl rfl (by simp only [one, pulseV]; rw [if_neg h, if_neg h2, if_neg h3, if_pos h4]) (sub_refl _)
        · simp at h4
          refine E.skip ?_
          refine E.seq ?_
          refine E.reg hr (by simp; rfl) ?_
          refine E.ret ?_
          exact pureK.ret rfl rfl (by simp only [one, pulseV]; rw [if_neg h, if_neg h2, if_neg h3, if_neg h4]) (sub_refl _)
theorem ok130 : EntOk Tryz.prog (130, g3 pulseV) := okInt3 w130
end Go.Proofs.YtndlfijfjglkdaaGreatDoor

namespace Go.Proofs.YtndlfijfjglkdaaGreatDoor
open Go Go.Ab Go.Proofs
section
variable {P : Program} {t : TypeId} {x y : Operand} {a b : Int} {H : Heap} {n : Nat}
@[simp] theorem bin_leq8 : binV P .leq t x y (.int .u8 a) (.int .u8 b) H n = some (.bool (decide (a ≤ b)), H, n) := rfl
@[simp] theorem bin_neq8 : binV P .neq t x y (.int .u8 a) (.int .u8 b) H n = some (.bool (!decide (a = b)), H, n) := rfl
@[simp] theorem bin_leq32 : binV P .leq t x y (.int .i32 a) (.int .i32 b) H n = some (.bool (decide (a ≤ b)), H, n) := rfl
@[simp] theorem bin_eql32 : binV P .eql t x y (.int .i32 a) (.int .i32 b) H n = some (.bool (decide (a = b)), H, n) := rfl
end
def letterB (b : Int) : Bool := (decide (65 ≤ b) && decide (b ≤ 90)) || (decide (97 ≤ b) && decide (b ≤ 122))
def digitB (b : Int) : Bool := decide (48 ≤ b) && decide (b ≤ 57)
abbrev g8 (F : Int → Bool) (args : List Value) (H : Heap) (n : Nat) : R := match args with | [.int .u8 a] => some (.bool (F a), H, n) | _ => none
theorem ok8 {f : FuncId} {F : Int → Bool} (h : ∀ a, AC Tryz.prog f [.int .u8 a] [] 10 (.bool (F a)) [] 10) : EntOk Tryz.prog (f, g8 F) := by
  intro args H n v H' n' h'
  simp only [g8] at h'
  split at h'
  · injection h' with h'; injection h' with e1 e2; injection e2 with e2 e3; subst e1 e2 e3
    exact AC.liftP rfl (Part.plain (by simp) [] (by simp [Seen]) gsz ⟨_, _, h _⟩)
  · cases h'
theorem w234 (b : Int) : AC Tryz.prog 234 [.int .u8 b] [] 10 (.bool (letterB b)) [] 10 := by
  have hr := recT_ok (P := Tryz.prog) (l := []) (by simp)
  refine AC.pure Tryz.func234 rfl (by kernel_rfl) rfl [] rfl ?_
  refine E.seq ?_
  refine E.reg hr (by simp; rfl) ?_
  refine E.seq ?_
  by_cases h1 : 65 ≤ b <;> by_cases h2 : b ≤ 90 <;> by_cases h3 : 97 ≤ b <;> by_cases h4 : b ≤ 122 <;>
    (refine E.reg hr (by simp [h1, h2, h3, h4]; rfl) ?_
     refine E.ret ?_
     exact pureK.ret rfl rfl (by simp [letterB, h1, h2, h3, h4]) (sub_refl _))
theorem ok234 : EntOk Tryz.prog (234, g8 letterB) := ok8 w234
theorem w235 (b : Int) : AC Tryz.prog 235 [.int .u8 b] [] 10 (.bool (digitB b)) [] 10 := by
  have hr := recT_ok (P := Tryz.prog) (l := []) (by simp)
  refine AC.pure Tryz.func235 rfl (by kernel_rfl) rfl [] rfl ?_
  refine E.seq ?_
  refine E.reg hr (by simp; rfl) ?_
  refine E.seq ?_
  by_cases h1 : 48 ≤ b <;> by_cases h2 : b ≤ 57 <;>
    (refine E.reg hr (by simp [h1, h2]; rfl) ?_
     refine E.ret ?_
     exact pureK.ret rfl rfl (by simp [digitB, h1, h2]) (sub_refl _))
theorem ok235 : EntOk Tryz.prog (235, g8 digitB) := ok8 w235
theorem runP_und {α : Type} {P : Program} {t : TypeId} {d : TypeDesc} {f : TypeDesc → Sem α} (h : P.underlying t = some d) : runP P (Sem.bind (underlying t) f) = runP P (f d) := by
  show runP P (Sem.bind (match P.underlying t with | some d => _ | none => _) f) = _
  rw [h]
  rfl
theorem runP_bind {α β : Type} {P : Program} (a : Sem α) (g : α → Sem β) : runP P (Sem.bind a g) = (runP P a).bind fun x => runP P (g x) := by
  induction a with
  | program k ih => exact ih P
  | mark m k ih => exact ih
  | _ => rfl
@[simp] theorem len_str {s : ByteArray} {o : Bool} : runP Tryz.prog (Go.builtin .len #[9] 3 #[o] #[.string s]) = some (.value (iv s.size)) := by
  show runP Tryz.prog (Sem.bind (Sem.bind (underlying 9) _) _) = _
  rw [runP_bind, runP_und Tryz.underlying9]
  rfl
/-- the byte at a place of a text -/
def byteB (s : ByteArray) (i : Nat) : Int := (s.get! i).toNat
theorem index_str {s : ByteArray} {j : Int} (h0 : 0 ≤ j) (h1 : j < s.size) : runP Tryz.prog (Instr.index 9 (.string s) (.int .i64 j)) = some (.int .u8 (byteB s j.toNat)) := by
  have hlt : j.toNat < s.size := by omega
  have hb : s[j.toNat]? = some (s.get! j.toNat) := by
    rw [getElem?_pos s j.toNat hlt]
    simp [ByteArray.get!, getElem!_pos, hlt]
    rfl
  have h2 : (if 0 ≤ j then s[j.toNat]? else none) = some (s.get! j.toNat) := by rw [if_pos h0, hb]
  show runP Tryz.prog (Sem.bind (underlying 9) _) = _
  rw [runP_und Tryz.underlying9]
  dsimp only [iv]
  rw [h2]
  rfl
theorem decode_low {s : ByteArray} {i : Nat} (h : byteB s i < 128) : Utf8.decode s i = ((byteB s i).toNat, 1) := by
  have : (s.get! (i + 0)).toNat < 128 := by unfold byteB at h; rw [Nat.add_zero]; omega
  unfold Utf8.decode
  simp only
  rw [if_pos this]
  simp [byteB]
theorem decode_high {s : ByteArray} {i : Nat} (h : ¬ byteB s i < 128) : 128 ≤ (Utf8.decode s i).1 ∧ 1 ≤ (Utf8.decode s i).2 := by
  have : ¬ (s.get! (i + 0)).toNat < 128 := by unfold byteB at h; rw [Nat.add_zero]; omega
  unfold Utf8.decode
  simp only
  rw [if_neg this]
  repeat' split
  all_goals first | (constructor <;> simp_all <;> omega) | (simp [Utf8.runeError])
end Go.Proofs.YtndlfijfjglkdaaGreatDoor

namespace Go.Proofs.YtndlfijfjglkdaaGreatDoor
open Go Go.Ab Go.Proofs
def partB (b : Int) : Bool := letterB b || digitB b || decide (b = 95)
def okAt (s : ByteArray) (j : Nat) : Bool := if j = 0 then letterB (byteB s j) else partB (byteB s j)
def nameB (s : ByteArray) : Bool := decide (s.size ≠ 0) && decide (s.size ≤ 24) && (List.range s.size).all (okAt s)
theorem nameB_true {s : ByteArray} (h0 : s.size ≠ 0) (h1 : s.size ≤ 24) (h : ∀ j, j < s.size → okAt s j = true) : nameB s = true := by
  unfold nameB
  simp [h0, h1]
  exact h
theorem nameB_false {s : ByteArray} {j : Nat} (hj : j < s.size) (h : okAt s j = false) : nameB s = false := by
  unfold nameB
  have : (List.range s.size).all (okAt s) = false := by
    rw [List.all_eq_false]
    exact ⟨j, by simpa using hj, by simp [h]⟩
  rw [this, Bool.and_false]
set_option maxRecDepth 100000 in
theorem w189 (s : ByteArray) : AC Tryz.prog 189 [sv s] [] 10 (.bool (nameB s)) [] 10 := by
  have hr := recT_ok (P := Tryz.prog) (l := [(234, g8 letterB), (235, g8 digitB)]) (by simp only [List.forall_mem_cons]; exact ⟨ok234, ok235, by simp⟩)
  refine AC.pure Tryz.func189 rfl (by kernel_rfl) rfl [0, 3] rfl ?_
  refine E.seq ?_
  refine E.reg hr (by simp; rfl) ?_
  refine E.seq ?_
  refine E.seq ?_
  by_cases hz : s.size = 0
  · refine E.reg hr (by simp [hz]; rfl) ?_
    refine E.cond (by rfl) (fun h => ?_) (fun h => ?_)
    rotate_left
    · simp at h
    refine E.seq ?_
    refine E.reg hr (by simp; rfl) ?_
    refine E.ret ?_
    exact pureK.ret rfl rfl (by simp [nameB, hz]) (sub_refl _)
  by_cases h24 : (24 : Int) < (s.size : Int)
  · refine E.reg hr (by simp [hz, h24]; rfl) ?_
    refine E.cond (by rfl) (fun h => ?_) (fun h => ?_)
    rotate_left
    · simp at h
    refine E.seq ?_
    refine E.reg hr (by simp; rfl) ?_
    refine E.ret ?_
    exact pureK.ret rfl rfl (by simp [nameB, show ¬ s.size ≤ 24 by omega]) (sub_refl _)
  by_cases hl : letterB (byteB s 0) = true
  rotate_left
  · refine E.reg hr (by simp [hz, h24, index_str (s := s) (j := 0) (by omega) (by omega), g8, hl]; rfl) ?_
    refine E.cond (by rfl) (fun h => ?_) (fun h => ?_)
    rotate_left
    · simp at h
    refine E.seq ?_
    refine E.reg hr (by simp; rfl) ?_
    refine E.ret ?_
    exact pureK.ret rfl rfl (by simp [nameB_false (j := 0) (s := s) (by omega) (by simp [okAt, hl])]) (sub_refl _)
  refine E.reg hr (by simp [hz, h24, index_str (s := s) (j := 0) (by omega) (by omega), g8, hl]; rfl) ?_
  refine E.cond (by rfl) (fun h => ?_) (fun h => ?_)
  · simp at h
  refine E.skip ?_
  refine E.seq ?_
  refine E.seq ?_
  refine E.reg hr (by simp; rfl) ?_
  refine E.block ?_
  refine E.loop ?_
  refine EL.ind (fun i : Nat => { fr := [(0, sv s), (3, iv i)], sz := 42, H := [], n := 10, marks := [], vs := [0, 3] }) (fun i => s.size - i) (fun i => i ≤ s.size ∧ 1 ≤ i ∧ ∀ j, j < i → okAt s j = true) 1 (.less rfl rfl rfl (by simp) (by simp)) ⟨by omega, by omega, fun j hj => by rw [show j = 0 by omega]; simp [okAt, hl]⟩ (fun _ => rfl) ?_
  intro i ⟨hi, h1, hg⟩
  have hw : IntKind.i64.wrap ((i : Int) + 1) = (i : Int) + 1 := W_in (by omega) (by omega)
  refine E.seq ?_
  refine E.seq ?_
  refine E.reg hr (by simp; rfl) ?_
  refine E.cond (by rfl) (fun h => ?_) (fun h => ?_)
  · simp at h
    refine E.skip ?_
    refine E.seq ?_
    refine E.block ?_
    refine E.seq ?_
    by_cases hp : partB (byteB s i) = true
    · have hok : okAt s i = true := by simp [okAt, show i ≠ 0 by omega, hp]
      have hx := index_str (s := s) (j := (i : Int)) (by omega) (by omega)
      simp [partB] at hp
      by_cases a1 : letterB (byteB s i) = true
      · refine E.reg hr (by simp [hx, g8, a1]; rfl) ?_
        refine E.cond (by rfl) (fun h9 => ?_) (fun h9 => ?_)
        · simp at h9
        refine E.skip ?_
        refine E.reg hr (by simp [hw]; rfl) ?_
        exact ⟨i + 1, .less rfl rfl rfl (by simp) (by simp), ⟨h, by omega, fun j hj => if e : j = i then e ▸ hok else hg j (by omega)⟩, by dsimp only; omega⟩
      by_cases a2 : digitB (byteB s i) = true
      · refine E.reg hr (by simp [hx, g8, a1, a2]; rfl) ?_
        refine E.cond (by rfl) (fun h9 => ?_) (fun h9 => ?_)
        · simp at h9
        refine E.skip ?_
        refine E.reg hr (by simp [hw]; rfl) ?_
        exact ⟨i + 1, .less rfl rfl rfl (by simp) (by simp), ⟨h, by omega, fun j hj => if e : j = i then e ▸ hok else hg j (by omega)⟩, by dsimp only; omega⟩
      have a3 : byteB s i = 95 := by simpa [a1, a2] using hp
      · refine E.reg hr (by simp [hx, g8, a3, show letterB 95 = false from rfl, show digitB 95 = false from rfl]; rfl) ?_
        refine E.cond (by rfl) (fun h9 => ?_) (fun h9 => ?_)
        · simp at h9
        refine E.skip ?_
        refine E.reg hr (by simp [hw]; rfl) ?_
        exact ⟨i + 1, .less rfl rfl rfl (by simp) (by simp), ⟨h, by omega, fun j hj => if e : j = i then e ▸ hok else hg j (by omega)⟩, by dsimp only; omega⟩
    · have hok : okAt s i = false := by simp [okAt, show i ≠ 0 by omega, hp]
      have hx := index_str (s := s) (j := (i : Int)) (by omega) (by omega)
      simp [partB] at hp
      obtain ⟨⟨a1, a2⟩, a3⟩ := hp
      refine E.reg hr (by simp [hx, g8, a1, a2, a3]; rfl) ?_
      refine E.cond (by rfl) (fun h => ?_) (fun h => ?_)
      rotate_left
      · simp at h
      refine E.seq ?_
      refine E.reg hr (by simp; rfl) ?_
      refine E.ret ?_
      exact pureK.ret rfl rfl (by simp [nameB_false (j := i) (s := s) (by omega) hok]) (sub_refl _)
  · simp at h
    refine E.exit ?_
    refine E.seq ?_
    refine E.reg hr (by simp; rfl) ?_
    refine E.ret ?_
    exact pureK.ret rfl rfl (by simp [nameB_true (s := s) hz (by omega) fun j hj => hg j (by omega)]) (sub_refl _)
end Go.Proofs.YtndlfijfjglkdaaGreatDoor

namespace Go.Proofs.YtndlfijfjglkdaaGreatDoor
open Go Go.Ab Go.Proofs
@[simp] theorem run_next {P : Program} {r : Rec} {st : St} {dst ty ps af g} {it : Operand} : runOp P r ⟨dst, .next it true, ty, ps, af, g⟩ st = opNext P it st.fr st.H st.n := rfl
/-- a region whose slots behind it are known up to what is let go -/
theorem E.regL {P : Program} {r : Rec} {m n0 : Nat} {ro : Option Nat} (hr : RecOk P r m) {id : Nat} {ops : Array Oper} {st : St} {b : Code} {K : Ex → St → Prop} (s2 : St) (h : ∃ st', opsF P r ops ops.toList st = some st' ∧ Leads P n0 st' s2) (k : E P n0 ro b s2 K) : E P n0 ro (.region id ops false) st (seqK P n0 ro b K) := by
  obtain ⟨st', h1, h2⟩ := h
  exact E.reg hr h1 (E.lead s2 h2 k)
theorem byteB_bounds (s : ByteArray) (i : Nat) : 0 ≤ byteB s i ∧ byteB s i ≤ 255 := by
  unfold byteB
  have := (s.get! i).toNat_lt
  omega
/-- the rune at a place, as the reading by runes has it -/
def runeB (s : ByteArray) (i : Nat) : Int := (Utf8.decode s i).1
theorem rune_part (s : ByteArray) (i : Nat) : letterB (runeB s i) = letterB (byteB s i) ∧ digitB (runeB s i) = digitB (byteB s i) ∧ (runeB s i = 95 ↔ byteB s i = 95) ∧ (byteB s i < 128 → (Utf8.decode s i).2 = 1) := by
  have hb := byteB_bounds s i
  by_cases h : byteB s i < 128
  · have e : runeB s i = byteB s i := by unfold runeB; rw [decode_low h]; dsimp only; omega
    rw [e]
    exact ⟨rfl, rfl, Iff.rfl, fun _ => by rw [decode_low h]⟩
  · obtain ⟨h1, h2⟩ := decode_high h
    have e : 128 ≤ runeB s i := by unfold runeB; omega
    refine ⟨?_, ?_, by omega, fun h' => absurd h' h⟩
    · have a1 : ¬ runeB s i ≤ 90 := by omega
      have a2 : ¬ runeB s i ≤ 122 := by omega
      have a3 : ¬ byteB s i ≤ 90 := by omega
      have a4 : ¬ byteB s i ≤ 122 := by omega
      simp [letterB, a1, a2, a3, a4]
    · have a1 : ¬ runeB s i ≤ 57 := by omega
      have a3 : ¬ byteB s i ≤ 57 := by omega
      simp [digitB, a1, a3]
theorem part_low {s : ByteArray} {i : Nat} (h : okAt s i = true) : byteB s i < 128 := by
  unfold okAt partB letterB digitB at h
  split at h <;> simp at h <;> omega
theorem str_eq (a b : ByteArray) : (a.toList == b.toList) = decide (a = b) := by
  rw [ByteArray.toList_eq, ByteArray.toList_eq]
  by_cases h : a = b
  · simp [h]
  · rw [decide_eq_false h]
    refine beq_eq_false_iff_ne.2 fun e => h ?_
    cases a; cases b
    simp at e
    simp [e]
section
variable {P : Program} {t : TypeId} {x y : Operand} {H : Heap} {n : Nat} {a b : ByteArray}
@[simp] theorem bin_eqls : binV P .eql t x y (.string a) (.string b) H n = some (.bool (decide (a = b)), H, n) := by
  have h : binV P .eql t x y (.string a) (.string b) H n = some (.bool (a.toList == b.toList), H, n) := rfl
  rw [h, str_eq]
@[simp] theorem bin_neqs : binV P .neq t x y (.string a) (.string b) H n = some (.bool (!decide (a = b)), H, n) := by
  have h : binV P .neq t x y (.string a) (.string b) H n = some (.bool (!(a.toList == b.toList)), H, n) := rfl
  rw [h, str_eq]
end
theorem str_empty (s : ByteArray) : (s = (⟨#[]⟩ : ByteArray)) ↔ s.size = 0 := ByteArray.size_eq_zero_iff.symm
set_option maxRecDepth 100000 in
theorem w121 (s : ByteArray) : AC Tryz.prog 121 [sv s] [] 10 (.bool (nameB s)) [] 10 := by
  have hr := recT_ok (P := Tryz.prog) (l := []) (by simp)
  refine AC.pure Tryz.func121 rfl (by kernel_rfl) rfl [0, 8] rfl ?_
  refine E.seq ?_
  refine E.reg hr (by simp; rfl) ?_
  refine E.seq ?_
  refine E.seq ?_
  refine E.reg hr (by simp; rfl) ?_
  refine E.block ?_
  refine E.loop ?_
  refine EL.ind (fun i : Nat => { fr := [(0, sv s), (8, .pointer (some ⟨10, 0, none⟩))], sz := 54, H := [(10, .iter s i)], n := 11, marks := [], vs := [0, 8] }) (fun i => s.size - i) (fun i => i ≤ s.size ∧ ∀ j, j < i → okAt s j = true) 0 (.less rfl rfl rfl (by simp) (by simp)) ⟨Nat.zero_le _, fun j hj => absurd hj (by omega)⟩ (fun _ => rfl) ?_
  intro i ⟨hi, hg⟩
  obtain ⟨e1, e2, e3, e4⟩ := rune_part s i
  refine E.seq ?_
  by_cases h : i < s.size
  · refine E.reg hr (by simp [opNext, h]; rfl) ?_
    refine E.seq ?_
    refine E.cond (by rfl) (fun h9 => ?_) (fun h9 => ?_)
    rotate_left
    · simp at h9
    refine E.skip ?_
    refine E.block ?_
    refine E.seq ?_
    have hru : ((Utf8.decode s i).1 : Int) = runeB s i := rfl
    refine E.regL hr { fr := [(3, iv i), (4, .int .i32 (runeB s i)), (0, sv s), (8, .pointer (some ⟨10, 0, none⟩))], sz := 54, H := [(10, .iter s (i + (Utf8.decode s i).2))], n := 11, marks := [], vs := [0, 8] } ?_ ?_
    · (refine ⟨_, by simp; rfl, ?_⟩; exact .less rfl rfl rfl (by simp [hru]) (by simp))
    refine E.seq ?_
    refine E.regL hr { fr := [(5, .bool (letterB (runeB s i))), (3, iv i), (4, .int .i32 (runeB s i)), (0, sv s), (8, .pointer (some ⟨10, 0, none⟩))], sz := 54, H := [(10, .iter s (i + (Utf8.decode s i).2))], n := 11, marks := [], vs := [0, 8] } ?_ ?_
    · generalize runeB s i = b
      by_cases h1 : 65 ≤ b <;> by_cases h2 : b ≤ 90 <;> by_cases h3 : 97 ≤ b <;> by_cases h4 : b ≤ 122 <;>
        (refine ⟨_, by simp [h1, h2, h3, h4, undefV]; rfl, ?_⟩; exact .less rfl rfl rfl (by simp [letterB, h1, h2, h3, h4]) (by simp))
    refine E.seq ?_
    refine E.regL hr { fr := [(6, .bool (digitB (runeB s i) || decide (runeB s i = 95))), (5, .bool (letterB (runeB s i))), (3, iv i), (4, .int .i32 (runeB s i)), (0, sv s), (8, .pointer (some ⟨10, 0, none⟩))], sz := 54, H := [(10, .iter s (i + (Utf8.decode s i).2))], n := 11, marks := [], vs := [0, 8] } ?_ ?_
    · generalize runeB s i = b
      by_cases h1 : 48 ≤ b <;> by_cases h2 : b ≤ 57 <;> by_cases h3 : b = 95 <;>
        (refine ⟨_, by simp [h1, h2, h3, undefV]; rfl, ?_⟩; exact .less rfl rfl rfl (by simp [digitB, h1, h2, h3]) (by simp))
    have hok : okAt s i = (letterB (runeB s i) || (!decide (i = 0) && (digitB (runeB s i) || decide (runeB s i = 95)))) := by
      rw [e1, e2]
      unfold okAt partB
      by_cases c0 : i = 0 <;> simp [c0, e3, Bool.or_assoc]
    refine E.seq ?_
    refine E.regL hr { fr := [(46, .bool (!okAt s i)), (0, sv s), (8, .pointer (some ⟨10, 0, none⟩))], sz := 54, H := [(10, .iter s (i + (Utf8.decode s i).2))], n := 11, marks := [], vs := [0, 8] } ?_ ?_
    · rw [hok]
      generalize letterB (runeB s i) = L
      generalize (digitB (runeB s i) || decide (runeB s i = 95)) = D
      generalize i + (Utf8.decode s i).2 = q
      by_cases c0 : i = 0 <;> cases L <;> cases D <;>
        (refine ⟨_, by simp [c0, undefV]; rfl, ?_⟩; exact .less rfl rfl rfl (by simp [c0]) (by simp))
    refine E.cond (by rfl) (fun h2 => ?_) (fun h2 => ?_)
    · simp at h2
      refine E.seq ?_
      refine E.reg hr (by simp; rfl) ?_
      refine E.ret ?_
      exact pureK.ret rfl rfl (by simp [nameB_false (j := i) (s := s) h h2]) (by repeat first | exact sub_refl _ | refine sub_cons rfl ?_)
    · simp at h2
      refine E.skip ?_
      have hlow := part_low h2
      exact ⟨i + 1, .less rfl rfl rfl (by simp) (by simp [e4 hlow]), ⟨by omega, fun j hj => if e : j = i then e ▸ h2 else hg j (by omega)⟩, by dsimp only; omega⟩
  · refine E.reg hr (by simp [opNext, h]; rfl) ?_
    refine E.seq ?_
    refine E.cond (by rfl) (fun h9 => ?_) (fun h9 => ?_)
    · simp at h9
    refine E.exit ?_
    refine E.seq ?_
    have hall : nameB s = (decide (s.size ≠ 0) && decide (s.size ≤ 24)) := by
      unfold nameB
      rw [show (List.range s.size).all (okAt s) = true from List.all_eq_true.2 fun j hj => hg j (by have := List.mem_range.1 hj; omega), Bool.and_true]
    refine E.regL hr { fr := [(2, .bool (nameB s))], sz := 54, H := [], n := 11, marks := [], vs := [0, 8] } ?_ ?_
    · by_cases hz : s.size = 0
      · refine ⟨_, by simp [str_empty, hz, undefV]; rfl, ?_⟩
        exact .less rfl rfl rfl (by simp [hall, hz]) (by simp)
      · refine ⟨_, by simp [str_empty, hz]; rfl, ?_⟩
        exact .less rfl rfl rfl (by simp [hall, hz]; omega) (by simp)
    refine E.ret ?_
    exact pureK.ret rfl rfl (by simp) (sub_refl _)
end Go.Proofs.YtndlfijfjglkdaaGreatDoor

namespace Go.Proofs.YtndlfijfjglkdaaGreatDoor
open Go Go.Ab Go.Proofs
abbrev gSB (F : ByteArray → Bool) (args : List Value) (H : Heap) (n : Nat) : R := match args with | [.string s] => some (.bool (F s), H, n) | _ => none
abbrev gSI (F : ByteArray → Int) (args : List Value) (H : Heap) (n : Nat) : R := match args with | [.string s] => some (iv (F s), H, n) | _ => none
theorem okSB {f : FuncId} {F : ByteArray → Bool} (h : ∀ s, AC Tryz.prog f [sv s] [] 10 (.bool (F s)) [] 10) : EntOk Tryz.prog (f, gSB F) := by
  intro args H n v H' n' h'
  simp only [gSB] at h'
  split at h'
  · injection h' with h'; injection h' with e1 e2; injection e2 with e2 e3; subst e1 e2 e3
    exact AC.liftP rfl (Part.plain (by simp) [] (by simp [Seen]) gsz ⟨_, _, h _⟩)
  · cases h'
theorem okSI {f : FuncId} {F : ByteArray → Int} (h : ∀ s, AC Tryz.prog f [sv s] [] 10 (iv (F s)) [] 10) : EntOk Tryz.prog (f, gSI F) := by
  intro args H n v H' n' h'
  simp only [gSI] at h'
  split at h'
  · injection h' with h'; injection h' with e1 e2; injection e2 with e2 e3; subst e1 e2 e3
    exact AC.liftP rfl (Part.plain (by simp) [] (by simp [Seen]) gsz ⟨_, _, h _⟩)
  · cases h'
theorem ok189 : EntOk Tryz.prog (189, gSB nameB) := okSB w189
theorem ok121 : EntOk Tryz.prog (121, gSB nameB) := okSB w121
def nameE (s : ByteArray) : Int := if nameB s then 0 else 8
theorem w117 (s : ByteArray) : AC Tryz.prog 117 [sv s] [] 10 (iv (nameE s)) [] 10 := by
  have hr := recT_ok (P := Tryz.prog) (l := [(189, gSB nameB), (28, g114)]) (by simp only [List.forall_mem_cons]; exact ⟨ok189, ok28, by simp⟩)
  refine AC.pure Tryz.func117 rfl (by kernel_rfl) rfl [] rfl ?_
  refine E.seq ?_
  refine E.reg hr (by simp; rfl) ?_
  refine E.seq ?_
  cases hn : nameB s
  · refine E.reg hr (by simp [hn, g114]; rfl) ?_
    refine E.ret ?_
    exact pureK.ret rfl rfl (by simp [nameE, hn, whenV]) (sub_refl _)
  · refine E.reg hr (by simp [hn, g114]; rfl) ?_
    refine E.ret ?_
    exact pureK.ret rfl rfl (by simp [nameE, hn, whenV]) (sub_refl _)
theorem ok117 : EntOk Tryz.prog (117, gSI nameE) := okSI w117
end Go.Proofs.YtndlfijfjglkdaaGreatDoor

namespace Go.Proofs.YtndlfijfjglkdaaGreatDoor
open Go Go.Ab Go.Proofs
/-- a gun of a string, as both programs hold it: seven cells -/
structure Gun where
  name : ByteArray
  v : Int
  x : Int
  y : Int
  d : Int
  lo : Int
  hi : Int
abbrev Gun.cells (g : Gun) : List Value := [sv g.name, iv g.v, iv g.x, iv g.y, iv g.d, iv g.lo, iv g.hi]
/-- what is wrong with a gun's numbers, but for the order of its shifts -/
def Gun.nums (g : Gun) : Int := firstV [withinV g.v 1 64, withinV g.x (-1000) 1000, withinV g.y (-1000) 1000, withinV g.d 0 16, withinV g.lo 0 4, withinV g.hi 0 4]
def Gun.err (g : Gun) : Int := firstV [withinV g.v 1 64, withinV g.x (-1000) 1000, withinV g.y (-1000) 1000, withinV g.d 0 16, withinV g.lo 0 4, withinV g.hi 0 4, if g.hi < g.lo then 11 else 0]
theorem firstV_append (l k : List Int) : firstV (l ++ k) = if firstV l = 0 then firstV k else firstV l := by
  induction l with
  | nil => simp [firstV]
  | cons a l ih =>
    simp only [List.cons_append, firstV]
    by_cases h : a = 0 <;> simp [h, ih]
theorem Gun.err_eq (g : Gun) : g.err = if g.nums = 0 then (if g.hi < g.lo then 11 else 0) else g.nums := by
  have := firstV_append [withinV g.v 1 64, withinV g.x (-1000) 1000, withinV g.y (-1000) 1000, withinV g.d 0 16, withinV g.lo 0 4, withinV g.hi 0 4] [if g.hi < g.lo then 11 else 0]
  unfold Gun.err Gun.nums
  simp only [List.cons_append, List.nil_append] at this
  rw [this]
  by_cases h : g.hi < g.lo <;> simp [firstV, h]
set_option maxRecDepth 100000 in
theorem w123 (g : Gun) : AC Tryz.prog 123 [.agg ⟨g.cells⟩] [] 10 (iv g.err) [] 10 := by
  have hr := recT_ok (P := Tryz.prog) (l := [(124, g1 fun a => withinV a 1 64), (138, g138), (125, g1 fun a => withinV a 0 4), (114, g114), (113, g113)]) (by simp only [List.forall_mem_cons]; exact ⟨ok124, ok138, ok125, ok114, ok113, by simp⟩)
  refine AC.pure Tryz.func123 rfl (by kernel_rfl) rfl [] rfl ?_
  refine E.seq ?_
  refine E.reg hr (by simp; rfl) ?_
  refine E.seq ?_
  refine E.drawK mixed hr (by simp [g138, g113, g114, intsAt, intsOf]; rfl) (by kernel_rfl) (by kernel_rfl) ?_
  refine E.ret ?_
  refine pureK.ret rfl rfl ?_ (by repeat first | exact sub_refl _ | refine sub_cons rfl ?_)
  by_cases hd : g.hi < g.lo <;> simp [Gun.err, hd, whenV]
def g123 (args : List Value) (H : Heap) (n : Nat) : R := match args with
  | [.agg ⟨[.string s, .int .i64 v, .int .i64 x, .int .i64 y, .int .i64 d, .int .i64 lo, .int .i64 hi]⟩] => some (iv (Gun.err ⟨s, v, x, y, d, lo, hi⟩), H, n)
  | _ => none
theorem ok123 : EntOk Tryz.prog (123, g123) := by
  intro args H n v H' n' h
  simp only [g123] at h
  split at h
  · injection h with h; injection h with e1 e2; injection e2 with e2 e3; subst e1 e2 e3
    exact AC.liftP rfl (Part.plain (by simp) [] (by simp [Seen]) gsz ⟨_, _, w123 ⟨_, _, _, _, _, _, _⟩⟩)
  · cases h
end Go.Proofs.YtndlfijfjglkdaaGreatDoor
