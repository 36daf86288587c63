/-
A library contract that makes a block; a whole run below a contract; what is carried through calls (each under the conditions in its statement).
-/
import Derived.Test.YtkongcnmkiihjaaGreatDoorAf
import Derived.Test.YtkongcnmkiihjaaGreatDoorAh
namespace Go.Ab
open Go Go.RowKit
theorem AC.of_new {P : Program} {f : FuncId} {args : List Value} {H : Heap} {n : Nat} {cs : List Value} {t : TypeId} {k c : Nat} (he : enterable P f = true) (haf : afL cs = true)
    (h : ∀ p φ w, Base P p φ n (hget H) w [] act0 → scL p args → Calls P f (denL φ args).toArray w fun e w' => e = .returned (.slice (some ⟨w.heap.size, 0, none⟩) k c) ∧ w' = w.alloc (.cells cs.toArray t)) : AC P f args H n (.slice (some ⟨n, 0, none⟩) k c) ((n, .cells cs t) :: H) (n + 1) := by
  intro p φ w hB hsc
  refine .inl ⟨enter_run he _ w, callsIn_wide.2 ((h p φ w hB hsc).mono fun e w' hh => ?_)⟩
  obtain ⟨h1, rfl⟩ := hh
  have hb : BRel P (φ.at n w.heap.size 0) n (.cells cs t) (some (.cells cs.toArray t)) := by
    simp only [BRel]
    rw [denL_af _ _ haf]
  have hS := Step.alloc hB.rel hB.lt hB.gn hB.sm (b := .cells cs t) rfl 0 hb
  rw [← hget_addM] at hS
  refine ⟨φ.at n w.heap.size 0, ?_, fun j x hx => ?_, ?_, hS⟩
  · rw [h1]; simp [den, Vl.at]
  · rw [hget_cons] at hx
    by_cases hj : n = j
    · rw [if_pos hj] at hx; injection hx with hx; subst hx hj
      exact ⟨.inr (by omega), scL_af _ _ haf⟩
    · rw [if_neg hj] at hx
      exact ⟨.inl (hB.sm j x hx).1, scB_mono (fun _ h => .inl h) _ (hB.sm j x hx).2⟩
  · exact .inr ⟨Nat.le_refl n, Nat.lt_succ_self n⟩
/-- the body's end, as far as something holds of it -/
theorem AC.bodyX {P : Program} {f : FuncId} {fn : Func} {c : Code} {args : List Value} {H : Heap} {n : Nat} {Q : Value → Heap → Nat → Prop} (hf : P.funcs[f]? = some fn) (hb : fn.body = some c) (he : enterable P f = true) (hlen : Nat.ble args.length fn.ntmps = true) (vs : List Nat)
    (h : E P n none c { fr := argsFr args 0, sz := fn.ntmps, H, n, marks := [], vs } fun e st => (e = .normal ∨ e = .ret) ∧ ∃ v H' n', leaveF P fn args n st = some (v, H', n') ∧ Q v H' n') : ∃ v H' n', AC P f args H n v H' n' ∧ Q v H' n' := by
  obtain ⟨e, st, hA, hen, v, H', n', hl, hq⟩ := h
  exact ⟨v, H', n', bodyAT_ok hf hb he (Nat.le_of_ble_eq_true hlen) hen (ATX.at hA) hl, hq⟩
end Go.Ab

namespace Go.Ab
open Go
def footT' (P : Program) (ops : Array Oper) (o : Oper) (st : St) (sn : List Nat) : List Nat := match footA P (trim (lookTmps ops o) st.fr) o.op with
  | some f => f.see ++ sn
  | none => sn
def handW (P : Program) (r : Rec) (mk : List Nat) (w : Nat) (o : Oper) (see put : List Nat) (fr : Fr) (st : St) : Option St :=
  match runOp P r o { st with fr := fr, H := handA see put st.H } with
  | some (v, H, k) => match Nat.ble st.n k && namesOk k (takeNew st.n H) && (Nat.beq k st.n || memN mk w) with
    | true => some { st with fr := putA st.fr o.dst v, H := takeNew st.n H ++ backA put H st.H, n := k }
    | false => none
  | none => none
def writeT (P : Program) (r : Rec) (ops : Array Oper) (al mk late : List Nat) (n0 w : Nat) (o : Oper) (sn : List Nat) (st : St) : Option St :=
  match dstOk st.sz o.dst with
  | false => none
  | true => match wantedA ops (trim (lookTmps ops o) st.fr) o with
    | some true => match isPure o.op || isRead o.op || memN al w with
      | true => none
      | false => match footA P (trim (lookTmps ops o) st.fr) o.op with
        | some f => match visT late n0 w st.n f.see && f.put.all (memN f.see) && disj f.put sn with
          | true => handW P r mk w o f.see f.put (trim (lookTmps ops o) st.fr) st
          | false => none
        | none => none
    | _ => none
def opsW (P : Program) (r : Rec) (ops : Array Oper) (al mk late q : List Nat) (w n0 : Nat) : List Oper → Nat → List Nat → St → Option St
  | [], _, _, st => some st
  | o :: os, i, sn, st => match Nat.beq i w with
    | true => match writeT P r ops al mk late n0 i o sn st with
      | some st' => opsW P r ops al mk late q w n0 os (i + 1) sn st'
      | none => none
    | false => match oneT P r ops al mk late n0 i o st with
      | some st' => match memN q i with
        | true => opsW P r ops al mk late q w n0 os (i + 1) (footT' P ops o st sn) st'
        | false => opsW P r ops al mk late q w n0 os (i + 1) sn st'
      | none => none
def runW (P : Program) (r : Rec) (ops : Array Oper) (al mk late q : List Nat) (w : Nat) (st : St) : Option St :=
  match namesOk st.n st.H with
  | true => opsW P r ops al mk late q w st.n ops.toList 0 [] st
  | false => none
def wOk (bef : Array Nat) (q : List Nat) (w : Nat) : List Oper → Nat → Bool
  | [], _ => true
  | o :: os, i => (if i < w then ahead bef i w || (memN q i && (isPure o.op || isRead o.op)) else Nat.beq i w || isPure o.op || ahead bef w i) && wOk bef q w os (i + 1)
structure InvW (mk : List Nat) (n0 i : Nat) (ds : List Done) (st : St) : Prop where
  lt : ∀ d ∈ ds, d.i < i
  cov : ∀ k, n0 ≤ k → k < st.n → ∃ d ∈ ds, d.lo ≤ k ∧ k < d.hi ∧ memN mk d.i = true ∧ d.i < i
  nam : ∀ x ∈ st.H, x.1 < st.n
theorem InvW.same {mk : List Nat} {n0 i : Nat} {ds : List Done} {st : St} (hI : InvW mk n0 i ds st) {fr : Fr} : InvW mk n0 (i + 1) ds { st with fr := fr } :=
  ⟨fun d hd => Nat.lt_succ_of_lt (hI.lt d hd), fun k h1 h2 => by obtain ⟨d, a, b, c, e, f⟩ := hI.cov k h1 h2; exact ⟨d, a, b, c, e, by omega⟩, hI.nam⟩
theorem InvW.next {mk : List Nat} {n0 i : Nat} {ds : List Done} {st : St} (hI : InvW mk n0 i ds st) {fr : Fr} {see put : List Nat} {H : Heap} {k : Nat} (hn : ∀ x ∈ H, x.1 < k) (hm : (Nat.beq k st.n || memN mk i) = true) : InvW mk n0 (i + 1) (⟨i, see, put, st.n, k⟩ :: ds) { st with fr := fr, H := H, n := k } := by
  refine ⟨fun d hd => ?_, fun j h1 h2 => ?_, hn⟩
  · rcases List.mem_cons.1 hd with rfl | hd
    · exact Nat.lt_succ_self _
    · exact Nat.lt_succ_of_lt (hI.lt d hd)
  · rcases Nat.lt_or_ge j st.n with h | h
    · obtain ⟨d, a, b, c, e, f⟩ := hI.cov j h1 h
      exact ⟨d, List.mem_cons_of_mem _ a, b, c, e, by omega⟩
    · rw [Bool.or_eq_true] at hm
      have h2 : j < k := h2
      rcases hm with hm | hm
      · have := Nat.eq_of_beq_eq_true hm
        omega
      · exact ⟨_, List.mem_cons_self .., h, h2, hm, Nat.lt_succ_self _⟩
theorem lateOk_visW {bef : Array Nat} {mk late : List Nat} (hl : lateOk bef mk late = true) {n0 i : Nat} (hi : memN late i = true) {ds : List Done} {st : St} (hI : InvW mk n0 i ds st) {k : Nat} (hk : k < st.n) : visA bef n0 i ds k = true := by
  unfold visA
  rw [Bool.or_eq_true]
  rcases Nat.lt_or_ge k n0 with h | h
  · exact .inl ((blt_iff _ _).2 h)
  · obtain ⟨d, hd, h1, h2, h3, h4⟩ := hI.cov k h hk
    refine .inr (List.any_eq_true.2 ⟨d, hd, ?_⟩)
    have := List.all_eq_true.1 (List.all_eq_true.1 hl i ((memN_iff _ _).1 hi)) d.i ((memN_iff _ _).1 h3)
    rw [Bool.or_eq_true] at this
    rcases this with h | h
    · have := Nat.le_of_ble_eq_true h
      omega
    · simp only [Bool.and_eq_true]
      exact ⟨⟨Nat.ble_eq_true_of_le h1, (blt_iff _ _).2 h2⟩, h⟩
theorem visW {bef : Array Nat} {mk late : List Nat} (hl : lateOk bef mk late = true) {n0 i : Nat} {ds : List Done} {st : St} (hI : InvW mk n0 i ds st) {see : List Nat} (h : visT late n0 i st.n see = true) : see.all (visA bef n0 i ds) = true := by
  refine List.all_eq_true.2 fun k hk => ?_
  unfold visT at h
  rw [Bool.or_eq_true] at h
  rcases h with h | h
  · rw [Bool.and_eq_true] at h
    exact lateOk_visW hl h.1 hI ((blt_iff _ _).1 (List.all_eq_true.1 h.2 k hk))
  · have := List.all_eq_true.1 h k hk
    unfold visA
    rw [this, Bool.true_or]
abbrev Calm (bef : Array Nat) (i : Nat) (ds : List Done) : Prop := ∀ d ∈ ds, d.put = [] ∨ ahead bef d.i i = true
theorem footW {bef : Array Nat} {mk late : List Nat} (hl : lateOk bef mk late = true) {n0 i : Nat} {ds : List Done} {st : St} (hI : InvW mk n0 i ds st) (hp : Calm bef i ds) {see : List Nat} (h : visT late n0 i st.n see = true) : footOk bef n0 i ds see [] = true := by
  unfold footOk
  simp only [Bool.and_eq_true]
  refine ⟨⟨List.all_eq_true.2 fun d hd => ?_, visW hl hI h⟩, rfl⟩
  rcases hp d hd with h | h <;> simp [disj, h]
theorem seeCall_calm {bef : Array Nat} {n0 i : Nat} {ds : List Done} (hp : Calm bef i ds) : ∀ H : Heap, (∀ x ∈ H, visA bef n0 i ds x.1 = true) → seeCall bef n0 i ds H = dnames H
  | [], _ => rfl
  | (k, b) :: H, hv => by
    have ih := seeCall_calm hp H fun x hx => hv x (List.mem_cons_of_mem _ hx)
    have h1 := hv _ (List.mem_cons_self ..)
    have h2 : (ds.all fun d => ahead bef d.i i || !memN d.put k) = true := List.all_eq_true.2 fun d hd => by rcases hp d hd with h | h <;> simp [h, memN]
    cases b <;> simp only [seeCall, dnames, h1, h2, ih, Bool.and_self, if_true]
theorem backA_mem (put : List Nat) (H' : Heap) : ∀ (H : Heap) (x : Nat × Blk), x ∈ backA put H' H → ∃ b, (x.1, b) ∈ H
  | [], _, h => by cases h
  | (k, b) :: H, x, h => by
    simp only [backA] at h
    split at h
    · rcases List.mem_cons.1 h with rfl | h
      · exact ⟨b, List.mem_cons_self ..⟩
      · obtain ⟨c, hc⟩ := backA_mem put H' H x h
        exact ⟨c, List.mem_cons_of_mem _ hc⟩
    · split at h
      · rcases List.mem_cons.1 h with rfl | h
        · exact ⟨b, List.mem_cons_self ..⟩
        · obtain ⟨c, hc⟩ := backA_mem put H' H x h
          exact ⟨c, List.mem_cons_of_mem _ hc⟩
      · obtain ⟨c, hc⟩ := backA_mem put H' H x h
        exact ⟨c, List.mem_cons_of_mem _ hc⟩
theorem handW_ok {P : Program} {r : Rec} {bef : Array Nat} {mk : List Nat} {n0 i : Nat} {ds : List Done} {o : Oper} {fr : Fr} {st st' : St} (hI : InvW mk n0 i ds st) {see put : List Nat} (hf : footOk bef n0 i ds see put = true) (h : handW P r mk i o see put fr st = some st') :
    ∃ lo hi, handOp P r bef n0 i ds o see put fr st = some (st', ⟨i, see, put, lo, hi⟩ :: ds) ∧ InvW mk n0 (i + 1) (⟨i, see, put, lo, hi⟩ :: ds) st' := by
  unfold handW at h
  unfold handOp
  rw [hf]
  simp only
  split at h
  · rename_i v H k hv
    rw [hv]
    simp only
    split at h
    · rename_i hc
      simp only [Bool.and_eq_true] at hc
      injection h with h; subst h
      rw [hc.1.1, hc.1.2]
      simp only [Bool.and_self]
      have hle := Nat.le_of_ble_eq_true hc.1.1
      refine ⟨_, _, rfl, hI.next (fun x hx => ?_) hc.2⟩
      rcases List.mem_append.1 hx with hx | hx
      · exact namesOk_mem _ _ hc.1.2 x hx
      · obtain ⟨b, hb⟩ := backA_mem _ _ _ _ hx
        exact Nat.lt_of_lt_of_le (hI.nam (x.1, b) hb) hle
    · cases h
  · cases h
theorem handT_W {P : Program} {r : Rec} {mk : List Nat} {i : Nat} {o : Oper} {see : List Nat} {fr : Fr} {st : St} : handT P r mk i o see fr st = handW P r mk i o see [] fr st := by
  have hb : ∀ (H' H : Heap), backA [] H' H = H := fun H' H => by
    induction H with
    | nil => rfl
    | cons x H ih => obtain ⟨k, b⟩ := x; simp only [backA, memN, ih]
  unfold handT handW
  simp only [hb]
  generalize runOp P r o { st with fr := fr, H := handA see [] st.H } = z
  cases z with
  | none => rfl
  | some y =>
    obtain ⟨v, H, k⟩ := y
    simp only
    cases (Nat.ble st.n k && namesOk k (takeNew st.n H) && (Nat.beq k st.n || memN mk i)) <;> rfl
theorem oneT_ok {P : Program} {r : Rec} {ops : Array Oper} {bef : Array Nat} {al mk late : List Nat} (hl : lateOk bef mk late = true) {n0 i : Nat} {o : Oper} {st st1 : St} {ds : List Done} (hal : (isPure o.op || isRead o.op || memN al i == aloneA bef i ops.toList 0) = true)
    (hI : InvW mk n0 i ds st) (hp : Calm bef i ds) (h1 : oneT P r ops al mk late n0 i o st = some st1) :
    ∃ ds', oneD P r ops bef n0 i ds o st = some (st1, ds') ∧ InvW mk n0 (i + 1) ds' st1 ∧ (ds' = ds ∨ isPure o.op = false ∧ ∃ see lo hi, ds' = ⟨i, see, [], lo, hi⟩ :: ds ∧ (isRead o.op = true → ∃ f, footA P (trim (lookTmps ops o) st.fr) o.op = some f ∧ see = f.see)) := by
  simp only [Bool.or_eq_true, beq_iff_eq] at hal
  have halo : isPure o.op = false → isRead o.op = false → memN al i = aloneA bef i ops.toList 0 := fun h1 h2 => by
    rcases hal with (h | h) | h
    · rw [h1] at h; cases h
    · rw [h2] at h; cases h
    · exact h
  unfold oneT at h1
  unfold oneD
  split at h1
  · cases h1
  · rename_i hd
    rw [hd]
    simp only
    split at h1
    · cases h1
    · rename_i hw
      rw [hw]
      injection h1 with h1; subst h1
      exact ⟨ds, rfl, hI.same, .inl rfl⟩
    · rename_i hw
      rw [hw]
      simp only
      unfold doneT at h1
      unfold doneD
      split at h1
      · rename_i hp
        rw [hp]
        simp only
        unfold pureS at h1
        unfold pureOp
        split at h1
        · rename_i v a k hv
          rw [hv]
          simp only
          split at h1
          · rename_i hk
            rw [hk]
            injection h1 with h1; subst h1
            exact ⟨ds, rfl, hI.same, .inl rfl⟩
          · cases h1
        · cases h1
      · rename_i hpu
        rw [hpu]
        simp only
        split at h1
        · rename_i hrd
          rw [hrd]
          simp only
          split at h1
          · rename_i f hf
            rw [hf]
            simp only
            unfold readT at h1
            split at h1
            · rename_i hv
              unfold readOp
              rw [footW hl hI hp hv]
              simp only
              split at h1
              · rename_i v a b hv
                rw [hv]
                injection h1 with h1; subst h1
                exact ⟨_, rfl, hI.next hI.nam (by simp), .inr ⟨trivial, _, _, _, rfl, fun _ => ⟨f, rfl, rfl⟩⟩⟩
              · cases h1
            · cases h1
          · cases h1
        · rename_i hrd
          rw [hrd]
          simp only
          split at h1
          · rename_i hm
            have ha : aloneA bef i ops.toList 0 = true := by rw [← halo hpu hrd, hm]
            rw [ha]
            simp only
            unfold aloneT at h1
            unfold aloneOp
            split at h1
            · rename_i v H k hv
              rw [hv]
              simp only
              split at h1
              · rename_i hk
                simp only [Bool.and_eq_true] at hk
                rw [hk.1.1, hk.1.2]
                injection h1 with h1; subst h1
                exact ⟨_, rfl, hI.next (namesOk_mem _ _ hk.1.2) hk.2, .inr ⟨trivial, _, _, _, rfl, fun h => by cases h⟩⟩
              · cases h1
            · cases h1
          · rename_i hm
            have ha : aloneA bef i ops.toList 0 = false := by rw [← halo hpu hrd, hm]
            rw [ha]
            simp only
            split at h1
            · rename_i f hf
              rw [hf]
              simp only
              split at h1
              · rename_i hv
                rw [Bool.and_eq_true] at hv
                rw [List.isEmpty_iff.1 hv.1]
                rw [handT_W] at h1
                obtain ⟨lo, hi, e1, e2⟩ := handW_ok hI (footW hl hI hp hv.2) h1
                exact ⟨_, e1, e2, .inr ⟨trivial, _, _, _, rfl, fun h => by cases h⟩⟩
              · cases h1
            · rename_i hf
              rw [hf]
              simp only
              split at h1
              · rename_i hv
                have hvis : ∀ k, k < st.n → visA bef n0 i ds k = true := fun k hk => lateOk_visW hl hv hI hk
                rw [seeCall_calm hp st.H fun x hx => hvis _ (hI.nam x hx)]
                rw [handT_W] at h1
                obtain ⟨lo, hi, e1, e2⟩ := handW_ok hI (footW hl hI hp (by
                  unfold visT
                  rw [hv]
                  simp only [Bool.true_and, Bool.or_eq_true]
                  refine .inl (List.all_eq_true.2 fun k hk => ?_)
                  obtain ⟨b, hb⟩ := dnames_mem _ _ hk
                  exact (blt_iff _ _).2 (hI.nam _ hb))) h1
                exact ⟨_, e1, e2, .inr ⟨trivial, _, _, _, rfl, fun h => by cases h⟩⟩
              · cases h1
theorem opsW_ok {P : Program} {r : Rec} {ops : Array Oper} {bef : Array Nat} {al mk late q : List Nat} {w : Nat} (hl : lateOk bef mk late = true) {n0 : Nat} : ∀ (os : List Oper) (i : Nat) (sn : List Nat) (st st' : St) (ds : List Done), alEq ops bef al os i = true → wOk bef q w os i = true → InvW mk n0 i ds st →
    (i ≤ w → ∀ d ∈ ds, d.put = [] ∧ (ahead bef d.i w = true ∨ ∀ k ∈ d.see, k ∈ sn)) → (w < i → ∀ d ∈ ds, d.put = [] ∨ d.i = w) → opsW P r ops al mk late q w n0 os i sn st = some st' → opsD P r ops bef n0 os i ds st = some st'
  | [], _, _, st, st', ds, _, _, _, _, _, h => h
  | o :: os, i, sn, st, st', ds, hal, hw, hI, hc1, hc2, h => by
    simp only [alEq, Bool.and_eq_true] at hal
    simp only [wOk, Bool.and_eq_true] at hw
    simp only [opsW] at h
    split at h
    · rename_i hiw
      have hiw := Nat.eq_of_beq_eq_true hiw
      subst hiw
      split at h
      · rename_i st1 h1
        have key : ∃ ds', oneD P r ops bef n0 i ds o st = some (st1, ds') ∧ InvW mk n0 (i + 1) ds' st1 ∧ ∃ see put lo hi, ds' = ⟨i, see, put, lo, hi⟩ :: ds := by
          unfold writeT at h1
          unfold oneD
          split at h1
          · cases h1
          · rename_i hd
            rw [hd]
            simp only
            split at h1
            · rename_i hwa
              rw [hwa]
              simp only
              split at h1
              · cases h1
              · rename_i hk
                simp only [Bool.or_eq_false_iff] at hk
                unfold doneD
                rw [hk.1.1, hk.1.2]
                simp only
                have ha : aloneA bef i ops.toList 0 = false := by
                  have := hal.1
                  rw [hk.1.1, hk.1.2, hk.2] at this
                  simpa using this
                rw [ha]
                simp only
                split at h1
                · rename_i f hf
                  rw [hf]
                  simp only
                  split at h1
                  · rename_i hv
                    simp only [Bool.and_eq_true] at hv
                    obtain ⟨⟨hv1, hv2⟩, hv3⟩ := hv
                    have hfo : footOk bef n0 i ds f.see f.put = true := by
                      unfold footOk
                      simp only [Bool.and_eq_true]
                      refine ⟨⟨List.all_eq_true.2 fun d hd => ?_, visW hl hI hv1⟩, hv2⟩
                      obtain ⟨e1, e2⟩ := hc1 (Nat.le_refl _) d hd
                      rw [Bool.or_eq_true]
                      rcases e2 with e2 | e2
                      · exact .inl e2
                      · refine .inr ?_
                        rw [e1, Bool.and_eq_true]
                        refine ⟨List.all_eq_true.2 fun k hk => ?_, rfl⟩
                        have := List.all_eq_true.1 hv3 k hk
                        cases hm : memN d.see k with
                        | false => rfl
                        | true =>
                          have h3 := (memN_iff _ _).2 (e2 k ((memN_iff _ _).1 hm))
                          rw [h3] at this
                          cases this
                    obtain ⟨lo, hi, g1, g2⟩ := handW_ok hI hfo h1
                    exact ⟨_, g1, g2, _, _, _, _, rfl⟩
                  · cases h1
                · cases h1
            · cases h1
        obtain ⟨ds', h2, hI', see, put, lo, hi, rfl⟩ := key
        simp only [opsD, h2]
        refine opsW_ok hl os (i + 1) sn st1 st' _ hal.2 hw.2 hI' (fun hle => by omega) (fun _ d hd => ?_) h
        rcases List.mem_cons.1 hd with rfl | hd
        · exact .inr rfl
        · exact .inl (hc1 (Nat.le_refl _) d hd).1
      · cases h
    · rename_i hiw
      have hne : i ≠ w := fun e => by rw [e, Nat.beq_refl] at hiw; cases hiw
      split at h
      · rename_i st1 h1
        by_cases hpu : isPure o.op = true
        · have hone : ∃ ds', oneD P r ops bef n0 i ds o st = some (st1, ds') ∧ InvW mk n0 (i + 1) ds' st1 ∧ ds' = ds := by
            unfold oneT at h1
            unfold oneD
            split at h1
            · cases h1
            · rename_i hd
              rw [hd]
              simp only
              split at h1
              · cases h1
              · rename_i hw
                rw [hw]
                injection h1 with h1; subst h1
                exact ⟨ds, rfl, hI.same, rfl⟩
              · rename_i hw
                rw [hw]
                simp only
                unfold doneT at h1
                unfold doneD
                rw [hpu] at h1 ⊢
                simp only at h1 ⊢
                unfold pureS at h1
                unfold pureOp
                split at h1
                · rename_i v a k hv
                  rw [hv]
                  simp only
                  split at h1
                  · rename_i hk
                    rw [hk]
                    injection h1 with h1; subst h1
                    exact ⟨ds, rfl, hI.same, rfl⟩
                  · cases h1
                · cases h1
          obtain ⟨ds', h2, hI', rfl⟩ := hone
          simp only [opsD, h2]
          split at h
          · refine opsW_ok hl os (i + 1) _ st1 st' _ hal.2 hw.2 hI' (fun hle d hd => ?_) (fun hlt d hd => hc2 (by omega) d hd) h
            obtain ⟨e1, e2⟩ := hc1 (by omega) d hd
            refine ⟨e1, e2.imp_right fun e2 k hk => ?_⟩
            unfold footT'
            split
            · exact List.mem_append_right _ (e2 k hk)
            · exact e2 k hk
          · exact opsW_ok hl os (i + 1) sn st1 st' _ hal.2 hw.2 hI' (fun hle d hd => hc1 (by omega) d hd) (fun hlt d hd => hc2 (by omega) d hd) h
        · have hpu : isPure o.op = false := by simpa using hpu
          have hcalm : Calm bef i ds := fun d hd => by
            rcases Nat.lt_or_ge w i with hlt | hle
            · rcases hc2 hlt d hd with e | e
              · exact .inl e
              · refine .inr ?_
                have := hw.1
                rw [if_neg (by omega), hpu, hiw] at this
                rw [e]
                simpa using this
            · exact .inl (hc1 hle d hd).1
          obtain ⟨ds', h2, hI', hds⟩ := oneT_ok hl hal.1 hI hcalm h1
          simp only [opsD, h2]
          have hsub : ∀ (sn' : List Nat), (∀ k ∈ sn, k ∈ sn') → (i < w → ahead bef i w = true ∨ (isRead o.op = true ∧ ∀ f, footA P (trim (lookTmps ops o) st.fr) o.op = some f → ∀ k ∈ f.see, k ∈ sn')) → i + 1 ≤ w → ∀ d ∈ ds', d.put = [] ∧ (ahead bef d.i w = true ∨ ∀ k ∈ d.see, k ∈ sn') := fun sn' hs ho hle d hd => by
            have old : ∀ d ∈ ds, d.put = [] ∧ (ahead bef d.i w = true ∨ ∀ k ∈ d.see, k ∈ sn') := fun d hd => by
              obtain ⟨e1, e2⟩ := hc1 (by omega) d hd
              exact ⟨e1, e2.imp_right fun e2 k hk => hs k (e2 k hk)⟩
            rcases hds with rfl | ⟨_, see, lo, hi, rfl, hf⟩
            · exact old d hd
            · rcases List.mem_cons.1 hd with rfl | hd
              · refine ⟨rfl, (ho (by omega)).imp_right fun h => ?_⟩
                obtain ⟨f, e1, e2⟩ := hf h.1
                intro k hk
                exact h.2 f e1 k (e2 ▸ hk)
              · exact old d hd
          have hput : w < i + 1 → ∀ d ∈ ds', d.put = [] ∨ d.i = w := fun hlt d hd => by
            rcases hds with rfl | ⟨_, see, lo, hi, rfl, _⟩
            · exact hc2 (by omega) d hd
            · rcases List.mem_cons.1 hd with rfl | hd
              · exact .inl rfl
              · exact hc2 (by omega) d hd
          have hst : i < w → ahead bef i w = true ∨ (memN q i = true ∧ isRead o.op = true) := fun hlt => by
            have := hw.1
            rw [if_pos hlt, hpu] at this
            simpa using this
          split at h
          · rename_i hq
            refine opsW_ok hl os (i + 1) _ st1 st' _ hal.2 hw.2 hI' (hsub _ (fun k hk => ?_) fun hlt => ?_) hput h
            · unfold footT'
              split
              · exact List.mem_append_right _ hk
              · exact hk
            · refine (hst hlt).imp_right fun e => ⟨e.2, fun f hf k hk => ?_⟩
              unfold footT'
              rw [hf]
              exact List.mem_append_left _ hk
          · rename_i hq
            refine opsW_ok hl os (i + 1) sn st1 st' _ hal.2 hw.2 hI' (hsub sn (fun k hk => hk) fun hlt => ?_) hput h
            refine (hst hlt).imp_right fun e => ?_
            rw [e.1] at hq
            cases hq
      · cases h
def drawTW (ops : Array Oper) (bef : Array Nat) (al mk late q : List Nat) (w : Nat) : Bool := drawT ops bef al mk late && wOk bef q w ops.toList 0
section
variable {P : Program} {n0 : Nat} {ro : Option Nat} {st st' : St} {K : Ex → St → Prop} {r : Rec} {m : Nat}
/-- as 'E.drawC'; 'w' writes, beside the reads 'q' -/
theorem E.drawW (hm : P.follows .mixedOrders = true) (hr : RecOk P r m) (al mk late q : List Nat) (w : Nat) {id : Nat} {ops : Array Oper} (hd : drawTW ops (Region.before ops) al mk late q w = true) (h : runW P r ops al mk late q w st = some st') (k : K .normal st') : E P n0 ro (.region id ops true) st K := by
  unfold drawTW drawT at hd
  simp only [Bool.and_eq_true] at hd
  obtain ⟨⟨⟨h1, h2⟩, h3⟩, h4⟩ := hd
  unfold runW at h
  split at h
  · rename_i hn
    exact E.draw hm hr h1 (opsW_ok h3 _ 0 [] st st' [] h2 h4 ⟨fun d hd => (by simp at hd), fun k h1 h2 => (by omega), namesOk_mem _ _ hn⟩ (fun _ d hd => (by simp at hd)) (fun _ d hd => (by simp at hd)) h) k
  · cases h
end
attribute [simp] runW opsW writeT handW footT' disj backA
end Go.Ab

namespace Go.Ab
open Go
theorem rangeF_of {P : Program} {r : Rec} {f : Operand} {ps : Array Tmp} {x y : Code} {st : St} {g : FuncId} {first captured : Array Value} {v : Value} {H' : Heap} {k : Nat} {fr : Fr} {sz : Nat} {vs : List Nat} {d : Nat} {a b : Code}
    (hf : evO P st.fr f = some (.func (.func g) first captured)) (he : enterable P g = true)
    (hc : r.call g (first.toList ++ [.func (.yield (st.n + 1)) #[] #[]] ++ captured.toList) ((st.n + 1, .loop .ready none st.fr st.sz st.vs ps x y st.n) :: (st.n, .defd) :: st.H) (st.n + 2) = some (v, H', k))
    (hl : hget H' (st.n + 1) = some (.loop .ready none fr sz vs ps a b d)) :
    rangeF P r none f ps x y st = some (.normal, { st with H := hset H' (st.n + 1) (.loop .exhausted none fr sz vs ps a b d), n := k, marks := st.n :: st.marks }) := by
  unfold rangeF
  rw [hf]
  simp only [he, hc, hl]
  rfl
theorem E.range {P : Program} {n0 : Nat} {r : Rec} {m : Nat} (hr : RecOk P r m) {ro : Option Nat} {f : Operand} {ps : Array Tmp} {x y : Code} {st st' : St} {e : Ex} {K : Ex → St → Prop} (h : rangeF P r ro f ps x y st = some (e, st')) (k : K e st') : E P n0 ro (.rangeFunc f ps x y) st K := .at (rangeF_ok hr h) k
end Go.Ab
