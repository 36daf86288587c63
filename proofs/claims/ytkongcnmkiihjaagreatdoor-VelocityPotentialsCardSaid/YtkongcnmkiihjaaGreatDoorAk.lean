/-
Walks at a heap that is not named: what is old stays, what is new is let go or comes back renamed; lists as they are seen in a heap (each under the conditions in its statement).
-/
import Derived.Test.YtkongcnmkiihjaaGreatDoorAh
import Derived.Test.YtkongcnmkiihjaaGreatDoorAf
/-
Walks at any heap: what is known of an unnamed heap, names put anew above it, a contract told of a part of memory, and regions of open order over it.
-/
namespace Go.Ab
open Go
/-! ### contracts at any heap -/
theorem AC.given {P : Program} {f : FuncId} {args : List Value} {H : Heap} {n : Nat} {v : Value} {H' : Heap} {n' : Nat} (h : (∀ k b, hget H k = some b → k < n ∧ scB (· < n) b) → scL (· < n) args → P.globals.size ≤ n → AC P f args H n v H' n') : AC P f args H n v H' n' :=
  fun p φ w hB hsc => h (fun k b hk => ⟨hB.lt k (hB.sm k b hk).1, scB_mono hB.lt _ (hB.sm k b hk).2⟩) (scL_mono hB.lt _ hsc) hB.gn p φ w hB hsc
/-- what is true of a part of memory, told of the whole -/
theorem AC.frame {P : Program} {f : FuncId} {args : List Value} {H H0 H1 H2 : Heap} {n n' : Nat} {v : Value} (h : AC P f args H0 n v H1 n') (hsub : ∀ k b, hget H0 k = some b → hget H k = some b)
    (h2 : ∀ k b, hget H2 k = some b → hget H1 k = some b ∨ (hget H k = some b ∧ hget H0 k = none)) : AC P f args H n v H2 n' := by
  intro p φ w hB hsc
  have hB0 : Base P p φ n (hget H0) w [] act0 := ⟨hB.rel.sub hsub, hB.lt, hB.gl, hB.gn, fun k b hk => hB.sm k b (hsub k b hk), fun t v hv => by simp [lk] at hv, fun t v hv => by simp [lk] at hv⟩
  have key : ∀ φ' w', Dn P p φ n (hget H0) w v n' (hget H1) φ' w' → Dn P p φ n (hget H) w v n' (hget H2) φ' w' := by
    intro φ' w' hd
    obtain ⟨hsm, hscv, hst⟩ := hd
    have hagr : Agr p φ φ' := fun k hk => hst.only k (.inl (hB.lt k hk))
    have hloc : ∀ k b, hget H k = some b → φ'.loc k = φ.loc k := fun k b hk => (hagr k (hB.sm k b hk).1).1
    have hkeep : ∀ k b, hget H k = some b → hget H0 k = none → w'.heap[φ.loc k]? = w.heap[φ.loc k]? := fun k b hk hn => hst.frm.keep _ (hB.rel.lt hk) fun j x hj ho => hB.rel.apart j x k b (hsub j x hj) hk (fun e => by subst e; rw [hn] at hj; cases hj) ho
    refine ⟨fun k b hk => ?_, hscv, hst.le, hst.only, ⟨fun k b hk => ?_, fun k b k' b' g1 g2 hne ho => ?_, hst.rel.glob⟩, fun k b hk ho => ?_, fun k b hk ho => ?_, ⟨hst.frm.os, hst.frm.tape, hst.frm.output, hst.frm.size, fun b hb hx => hst.frm.keep b hb fun k x hk ho => hx k x (hsub k x hk) ho⟩⟩
    · rcases h2 k b hk with h | ⟨h, _⟩
      · exact hsm k b h
      · exact ⟨.inl (hB.sm k b h).1, scB_mono (fun _ h => .inl h) _ (hB.sm k b h).2⟩
    · rcases h2 k b hk with h | ⟨h, hn⟩
      · exact hst.rel.blk k b h
      · rw [hloc k b h, hkeep k b h hn]
        exact (hB.rel.blk k b h).congr hagr (hB.sm k b h).1 (hB.sm k b h).2
    · rcases h2 k b g1 with h | ⟨h, hn⟩ <;> rcases h2 k' b' g2 with h' | ⟨h', hn'⟩
      · exact hst.rel.apart k b k' b' h h' hne ho
      · rw [hloc k' b' h']
        rcases hst.new k b h ho with g | ⟨k0, b0, e1, e2, e3⟩
        · have := hB.rel.lt h'
          omega
        · rw [← e3]
          exact hB.rel.apart k0 b0 k' b' (hsub _ _ e1) h' (fun e => by subst e; rw [hn'] at e1; cases e1) e2
      · rw [hloc k b h]
        cases hb : b'.own with
        | true =>
          rcases hst.new k' b' h' hb with g | ⟨k0, b0, e1, e2, e3⟩
          · have := hB.rel.lt h
            omega
          · rw [← e3]
            exact hB.rel.apart k b k0 b0 h (hsub _ _ e1) (fun e => by subst e; rw [hn] at e1; cases e1) ho
        | false =>
          have e1 := hst.inp k' b' h' hb
          rw [hloc k' b' (hsub _ _ e1)]
          exact hB.rel.apart k b k' b' h (hsub _ _ e1) hne ho
      · rw [hloc k b h, hloc k' b' h']
        exact hB.rel.apart k b k' b' h h' hne ho
    · rcases h2 k b hk with h | ⟨h, _⟩
      · rcases hst.new k b h ho with g | ⟨k0, b0, e1, e2, e3⟩
        · exact .inl g
        · exact .inr ⟨k0, b0, hsub _ _ e1, e2, e3⟩
      · exact .inr ⟨k, b, h, ho, (hloc k b h).symm⟩
    · rcases h2 k b hk with h | ⟨h, _⟩
      · exact hsub _ _ (hst.inp k b h ho)
      · exact h
  rcases h p φ w hB0 hsc with ⟨h1, h3⟩ | ⟨φ', w', h1, h3⟩
  · refine .inl ⟨h1, CallsIn.mono h3 fun e w' hh => ?_⟩
    obtain ⟨φ', he, hd⟩ := hh
    exact ⟨φ', he, key φ' w' hd⟩
  · exact .inr ⟨φ', w', h1, key φ' w' h3⟩
/-- the result and its blocks under other names -/
theorem AC.ren {P : Program} {f : FuncId} {args : List Value} {H H1 H2 : Heap} {n n1 n2 : Nat} {u v : Value} (ρ : Nat → Nat) (h : AC P f args H n u H1 n1) (hlow : ∀ k, k < n → ρ k = k) (hle : n ≤ n2) (hv : u = Ab.ren ρ v) (hsv : sc (· < n2) v)
    (hH : ∀ k b, hget H2 k = some b → (hget H k = some b ∧ hget H1 k = some b) ∨ (n ≤ k ∧ k < n2 ∧ n ≤ ρ k ∧ hget H1 (ρ k) = some (renB ρ b) ∧ scB (· < n2) b ∧ carried b ∧ b.own = true))
    (hinj : ∀ j b k c, n ≤ j → n ≤ k → hget H2 j = some b → hget H2 k = some c → ρ j = ρ k → j = k) : AC P f args H n v H2 n2 := by
  intro p φ w hB hsc
  have key : ∀ φ' w', Dn P p φ n (hget H) w u n1 (hget H1) φ' w' → ∃ φ2, den φ' u = den φ2 v ∧ Dn P p φ n (hget H) w v n2 (hget H2) φ2 w' := by
    intro φ' w' hd
    obtain ⟨hsm, hscu, hst⟩ := hd
    let φ2 : Vl := ⟨fun k => if n ≤ k ∧ k < n2 then φ'.loc (ρ k) else φ.loc k, fun k => if n ≤ k ∧ k < n2 then φ'.cap (ρ k) else φ.cap k⟩
    have hoth : ∀ k, ¬ (n ≤ k ∧ k < n2) → φ2.loc k = φ.loc k ∧ φ2.cap k = φ.cap k := fun k hk => by simp only [φ2]; rw [if_neg hk, if_neg hk]; exact ⟨rfl, rfl⟩
    have hmid : ∀ k, n ≤ k ∧ k < n2 → φ2.loc k = φ'.loc (ρ k) ∧ φ2.cap k = φ'.cap (ρ k) := fun k hk => by simp only [φ2]; rw [if_pos hk, if_pos hk]; exact ⟨rfl, rfl⟩
    have hrn : Rn (Nx p n n2) ρ φ' φ2 := fun k hk => by
      rcases hk with hk | hk
      · have hk0 := hB.lt k hk
        rw [(hoth k (by omega)).1, (hoth k (by omega)).2, hlow k hk0, (hst.only k (.inl hk0)).1, (hst.only k (.inl hk0)).2]
        exact ⟨rfl, rfl⟩
      · exact hmid k hk
    have hnx : ∀ k, Nx p n n1 (ρ k) ∧ k < n2 → Nx p n n2 k := fun k hk => by
      by_cases h0 : k < n
      · have := hk.1
        rw [hlow k h0] at this
        rcases this with h1 | h1
        · exact .inl h1
        · omega
      · exact .inr ⟨by omega, hk.2⟩
    have hscv : sc (Nx p n n2) v := sc_mono hnx v (sc_ren v (hv ▸ hscu) hsv)
    have hagr : Agr p φ φ2 := fun k hk => hoth k (by have := hB.lt k hk; omega)
    have hagr' : Agr p φ' φ2 := fun k hk => by
      have h1 := hagr k hk
      have h2 := hst.only k (.inl (hB.lt k hk))
      exact ⟨h1.1.trans h2.1.symm, h1.2.trans h2.2.symm⟩
    have hone : ∀ k b, hget H2 k = some b → (∃ b', hget H1 (ρ k) = some b' ∧ b'.own = b.own) ∧ φ2.loc k = φ'.loc (ρ k) := fun k b hk => by
      rcases hH k b hk with ⟨h1, h2⟩ | ⟨h1, h2, h3, h4, h5, h6, h7⟩
      · have hp := (hB.sm k b h1).1
        have hk0 := hB.lt k hp
        rw [hlow k hk0]
        exact ⟨⟨b, h2, rfl⟩, (hagr' k hp).1⟩
      · exact ⟨⟨_, h4, renB_own _ _⟩, (hmid k ⟨h1, h2⟩).1⟩
    refine ⟨φ2, by rw [hv]; exact den_ren hrn v hscv, fun k b hk => ?_, hscv, hle, fun k hk => hoth k (by omega), ⟨fun k b hk => ?_, fun k b k' b' g1 g2 hne ho => ?_, fun g hg => ?_⟩, fun k b hk ho => ?_, fun k b hk ho => ?_, hst.frm⟩
    · rcases hH k b hk with ⟨h1, h2⟩ | ⟨h1, h2, h3, h4, h5, h6, h7⟩
      · exact ⟨.inl (hB.sm k b h1).1, scB_mono (fun _ h => .inl h) _ (hB.sm k b h1).2⟩
      · exact ⟨.inr ⟨h1, h2⟩, scB_mono hnx _ (scB_ren b h6 (hsm _ _ h4).2 h5)⟩
    · rw [(hone k b hk).2]
      rcases hH k b hk with ⟨h1, h2⟩ | ⟨h1, h2, h3, h4, h5, h6, h7⟩
      · have hp := hB.sm k b h1
        rw [hlow k (hB.lt k hp.1)]
        exact (hst.rel.blk k b h2).congr hagr' hp.1 hp.2
      · exact BRel.ren hrn (.inr ⟨h1, h2⟩) h6 (scB_mono hnx _ (scB_ren b h6 (hsm _ _ h4).2 h5)) (hst.rel.blk _ _ h4)
    · obtain ⟨⟨c, c1, c2⟩, c3⟩ := hone k b g1
      obtain ⟨⟨d, d1, d2⟩, d3⟩ := hone k' b' g2
      rw [c3, d3]
      refine hst.rel.apart _ _ _ _ c1 d1 (fun e => hne ?_) (c2.trans ho)
      rcases hH k b g1 with ⟨h1, _⟩ | ⟨h1, _, h3, _⟩ <;> rcases hH k' b' g2 with ⟨h1', _⟩ | ⟨h1', _, h3', _⟩
      · have hk0 := hB.lt k (hB.sm k b h1).1
        have hk1 := hB.lt k' (hB.sm k' b' h1').1
        rwa [hlow k hk0, hlow k' hk1] at e
      · have hk0 := hB.lt k (hB.sm k b h1).1
        rw [hlow k hk0] at e
        omega
      · have hk1 := hB.lt k' (hB.sm k' b' h1').1
        rw [hlow k' hk1] at e
        omega
      · exact hinj k b k' b' h1 h1' g1 g2 e
    · rw [(hoth g (by have := hB.gn; omega)).1]; exact hB.rel.glob g hg
    · obtain ⟨⟨c, c1, c2⟩, c3⟩ := hone k b hk
      rw [c3]
      exact hst.new _ _ c1 (c2.trans ho)
    · rcases hH k b hk with ⟨h1, _⟩ | ⟨_, _, _, _, _, _, h7⟩
      · exact h1
      · rw [h7] at ho; cases ho
  rcases h p φ w hB hsc with ⟨h1, h3⟩ | ⟨φ', w', h1, h3⟩
  · refine .inl ⟨h1, CallsIn.mono h3 fun e w' hh => ?_⟩
    obtain ⟨φ', he, hd⟩ := hh
    obtain ⟨φ2, e2, hd2⟩ := key φ' w' hd
    exact ⟨φ2, by rw [he, e2], hd2⟩
  · obtain ⟨φ2, e2, hd2⟩ := key φ' w' h3
    exact .inr ⟨φ2, w', by rw [h1, e2], hd2⟩
/-- behind the body: a result 'v' with new blocks 'B', whatever names they now have -/
def Fresh (n n2 : Nat) (H : Heap) (v : Value) (B : Heap) (u : Value) (H1 : Heap) : Prop :=
  ∃ ρ : Nat → Nat, (∀ k, k < n → ρ k = k) ∧ u = ren ρ v ∧ (∀ k b, hget B k = some b → n ≤ k ∧ k < n2 ∧ n ≤ ρ k ∧ hget H1 (ρ k) = some (renB ρ b) ∧ scB (· < n2) b ∧ carried b ∧ b.own = true) ∧
    (∀ j b k c, hget B j = some b → hget B k = some c → ρ j = ρ k → j = k) ∧ ∀ k b, hget H k = some b → hget H1 k = some b
theorem AC.fresh {P : Program} {f : FuncId} {fn : Func} {c : Code} {args : List Value} {H B : Heap} {n n2 : Nat} {v : Value} (hf : P.funcs[f]? = some fn) (hb : fn.body = some c) (he : enterable P f = true) (hlen : Nat.ble args.length fn.ntmps = true) (vs : List Nat) (hle : n ≤ n2) (hsv : sc (· < n2) v) (hnf : ∀ ρ, af (Ab.ren ρ v) = false)
    (h : E P n none c { fr := argsFr args 0, sz := fn.ntmps, H, n, marks := [], vs } (outK P fn (Fresh n n2 H v B))) : AC P f args H n v (B ++ H) n2 := by
  refine AC.given fun hlt _ _ => ?_
  obtain ⟨u, H1, n1, H3, hAC, ⟨ρ, h1, h2, h3, h4, h5⟩, hh⟩ := AC.out hf hb he hlen vs h
  obtain rfl := hh (by rw [h2]; exact hnf ρ)
  have happ : ∀ k b, hget (B ++ H) k = some b → hget B k = some b ∨ (hget B k = none ∧ hget H k = some b) := by
    clear h3 h4 h
    induction B with
    | nil => intro k b hk; exact .inr ⟨rfl, hk⟩
    | cons x B ih =>
      intro k b hk
      obtain ⟨j, y⟩ := x
      rw [List.cons_append, hget_cons] at hk
      rw [hget_cons]
      by_cases e : j = k
      · rw [if_pos e] at hk ⊢; exact .inl hk
      · rw [if_neg e] at hk ⊢; exact ih k b hk
  refine hAC.ren ρ h1 hle h2 hsv (fun k b hk => ?_) fun j b k c hj hk hb hc e => ?_
  · rcases happ k b hk with h | ⟨_, h⟩
    · exact .inr (h3 k b h)
    · exact .inl ⟨h, h5 k b h⟩
  · rcases happ j b hb with g | ⟨_, g⟩
    · rcases happ k c hc with g' | ⟨_, g'⟩
      · exact h4 j b k c g g' e
      · have := (hlt k c g').1
        omega
    · have := (hlt j b g).1
      omega
/-! ### loops at any heap -/
/-- names above 'n0' put anew; the heap below is carried along as it is -/
theorem Leads.renR {P : Program} {n0 : Nat} {s s2 : St} {A H : Heap} (ρ : Nat → Nat) (hs2 : s2.H = A ++ H) (hold : ∀ k b, hget H k = some b → k < n0 ∧ scB (· < n0) b) (hkeep : ∀ k b, hget H k = some b → hget s.H k = some b) (hlow : ∀ k, k < n0 → ρ k = k) (hle : n0 ≤ s2.n) (hz : s2.sz = s.sz) (hm : s.marks = [] ∧ s2.marks = [])
    (hf : ∀ t v, lk s2.fr t = some v → (lk s.fr t = some v ∧ sc (· < n0) v) ∨ (lk s.fr t = some (Ab.ren ρ v) ∧ sc (· < s2.n) v))
    (hA : ∀ x ∈ A, n0 ≤ x.1 ∧ x.1 < s2.n ∧ n0 ≤ ρ x.1 ∧ hget s.H (ρ x.1) = some (renB ρ x.2) ∧ scB (· < s2.n) x.2 ∧ carried x.2 ∧ x.2.own = true) (hinj : ∀ x ∈ A, ∀ y ∈ A, ρ x.1 = ρ y.1 → x.1 = y.1) : Leads P n0 s s2 := by
  intro p φ M w0 hg hp a w φ1 hS hs
  let φ2 : Vl := ⟨fun k => if n0 ≤ k ∧ k < s2.n then φ1.loc (ρ k) else φ.loc k, fun k => if n0 ≤ k ∧ k < s2.n then φ1.cap (ρ k) else φ.cap k⟩
  have hl2 : ∀ k, k < n0 → φ2.loc k = φ.loc k ∧ φ2.cap k = φ.cap k := fun k hk => by simp only [φ2]; rw [if_neg (by omega), if_neg (by omega)]; exact ⟨rfl, rfl⟩
  have hmid : ∀ k, n0 ≤ k → k < s2.n → φ2.loc k = φ1.loc (ρ k) ∧ φ2.cap k = φ1.cap (ρ k) := fun k h1 h2 => by simp only [φ2]; rw [if_pos ⟨h1, h2⟩, if_pos ⟨h1, h2⟩]; exact ⟨rfl, rfl⟩
  have hrn : Rn (Nx p n0 s2.n) ρ φ1 φ2 := fun k hk => by
    rcases hk with hk | hk
    · have hk0 := hp k hk
      rw [(hl2 k hk0).1, (hl2 k hk0).2, hlow k hk0, (hs.only k (.inl hk0)).1, (hs.only k (.inl hk0)).2]
      exact ⟨rfl, rfl⟩
    · exact hmid k hk.1 hk.2
  have hnx : ∀ k, Nx p n0 s.n (ρ k) ∧ k < s2.n → Nx p n0 s2.n k := fun k hk => by
    by_cases h0 : k < n0
    · have := hk.1
      rw [hlow k h0] at this
      rcases this with h1 | h1
      · exact .inl h1
      · omega
    · exact .inr ⟨by omega, hk.2⟩
  have hpl : ∀ k, Nx p n0 s.n k ∧ k < n0 → p k := fun k hk => by
    rcases hk.1 with h1 | h1
    · exact h1
    · omega
  have hagr : Agr p φ1 φ2 := fun k hk => by
    have hk0 := hp k hk
    rw [(hl2 k hk0).1, (hl2 k hk0).2, (hs.only k (.inl hk0)).1, (hs.only k (.inl hk0)).2]
    exact ⟨rfl, rfl⟩
  have hM : ∀ k b, hget s2.H k = some b → ((k, b) ∈ A) ∨ hget H k = some b := by
    rw [hs2]
    clear hA hs2 hinj
    induction A with
    | nil => intro k b hk; exact .inr hk
    | cons x A ih =>
      intro k b hk
      obtain ⟨j, y⟩ := x
      rw [List.cons_append, hget_cons] at hk
      by_cases e : j = k
      · rw [if_pos e] at hk; injection hk with hk; subst e hk; exact .inl (List.mem_cons_self ..)
      · rw [if_neg e] at hk
        rcases ih k b hk with h | h
        · exact .inl (List.mem_cons_of_mem _ h)
        · exact .inr h
  have old : ∀ k b, hget H k = some b → p k ∧ scB p b ∧ hget s.H k = some b ∧ k < n0 := fun k b hk => by
    obtain ⟨h1, h2⟩ := hold k b hk
    have h3 := hkeep k b hk
    have h4 := hS.base.sm k b h3
    exact ⟨hpl k ⟨h4.1, h1⟩, scB_mono hpl _ (scB_and b h4.2 h2), h3, h1⟩
  have hone : ∀ k b, hget s2.H k = some b → Nx p n0 s2.n k ∧ scB (Nx p n0 s2.n) b ∧ (∃ b', hget s.H (ρ k) = some b' ∧ b'.own = b.own) ∧ φ2.loc k = φ1.loc (ρ k) ∧ BRel P φ2 k b w.heap[φ1.loc (ρ k)]? := fun k b hk => by
    rcases hM k b hk with h | h
    · obtain ⟨h1, h2, _, h3, h4, h5, h6⟩ := hA (k, b) h
      have hn' : Nx p n0 s2.n k := .inr ⟨h1, h2⟩
      have hsc := scB_mono hnx _ (scB_ren b h5 (hS.base.sm _ _ h3).2 h4)
      exact ⟨hn', hsc, ⟨_, h3, renB_own _ _⟩, (hrn k hn').1, BRel.ren hrn hn' h5 hsc (hS.base.rel.blk _ _ h3)⟩
    · obtain ⟨h1, h2, h3, h4⟩ := old k b h
      have e : ρ k = k := hlow k h4
      rw [e]
      exact ⟨.inl h1, scB_mono (fun _ h => .inl h) _ h2, ⟨b, h3, rfl⟩, (hagr k h1).1, (hS.base.rel.blk k b h3).congr hagr h1 h2⟩
  have hlt : ∀ k, Nx p n0 s2.n k → k < s2.n := fun k hk => Nx.lt hp hle hk
  have hrinj : ∀ k b k' b', hget s2.H k = some b → hget s2.H k' = some b' → ρ k = ρ k' → k = k' := fun k b k' b' g1 g2 e => by
    rcases hM k b g1 with h | h <;> rcases hM k' b' g2 with h' | h'
    · exact hinj (k, b) h (k', b') h' e
    · have h1 := (hA (k, b) h).2.2.1
      have h3 := (old k' b' h').2.2.2
      rw [hlow k' h3] at e
      dsimp only at h1
      omega
    · have h1 := (hA (k', b') h').2.2.1
      have h3 := (old k b h).2.2.2
      rw [hlow k h3] at e
      dsimp only at h1
      omega
    · have h3 := (old k b h).2.2.2
      have h4 := (old k' b' h').2.2.2
      rwa [hlow k h3, hlow k' h4] at e
  have hrel : HRel P φ2 (hget s2.H) w := by
    refine ⟨fun k b hk => ?_, fun k b k' b' h1 h2 hne ho => ?_, fun g hg' => ?_⟩
    · obtain ⟨_, _, _, h4, h5⟩ := hone k b hk
      rw [h4]; exact h5
    · obtain ⟨_, _, ⟨c, c1, c2⟩, c3, _⟩ := hone k b h1
      obtain ⟨_, _, ⟨d, d1, _⟩, d3, _⟩ := hone k' b' h2
      rw [c3, d3]
      exact hS.base.rel.apart _ _ _ _ c1 d1 (fun e => hne (hrinj k b k' b' h1 h2 e)) (c2.trans ho)
    · have := hp g (hg g hg')
      rw [(hl2 g this).1, ← (hs.only g (.inl this)).1]
      exact hS.base.rel.glob g hg'
  have hfr : ∀ t v, lk s2.fr t = some v → ∃ u, lk s.fr t = some u ∧ den φ1 u = den φ2 v ∧ sc (Nx p n0 s2.n) v := fun t v hv => by
    rcases hf t v hv with ⟨h1, h2⟩ | ⟨h1, h2⟩
    · have hsf := hS.base.sf t _ h1
      have hsp : sc p v := sc_mono hpl v (sc_and v hsf h2)
      exact ⟨v, h1, (den_congr hagr v hsp).symm, sc_mono (fun _ h => .inl h) v hsp⟩
    · have hsf := hS.base.sf t _ h1
      have hsv : sc (Nx p n0 s2.n) v := sc_mono hnx v (sc_ren v hsf h2)
      exact ⟨_, h1, den_ren hrn v hsv, hsv⟩
  refine ⟨φ2, ⟨⟨hrel, hlt, fun g hg' => .inl (hg g hg'), ?_, fun k b hk => ⟨(hone k b hk).1, (hone k b hk).2.1⟩, fun t v hv => ?_, fun t v hv => ?_⟩, ?_, ?_, ?_⟩, hle, fun k hk => ?_, hrel, fun k b hk ho => ?_, fun k b hk ho => ?_, hs.frm⟩
  · refine Nat.le_of_not_lt fun hc => ?_
    have := hp _ (hg _ hc)
    omega
  · obtain ⟨u, h1, h2, _⟩ := hfr t v hv
    rw [hS.base.ar t _ h1, h2]
  · exact (hfr t v hv).choose_spec.2.2
  · rw [hz]; exact hS.size
  · rw [hm.2, hS.defs, hm.1]; rfl
  · rw [hm.2]; simp
  · rcases hk with hk | hk
    · exact hl2 k hk
    · simp only [φ2]; rw [if_neg (by omega), if_neg (by omega)]; exact ⟨rfl, rfl⟩
  · obtain ⟨_, _, ⟨c, c1, c2⟩, c3, _⟩ := hone k b hk
    rw [c3]
    exact hs.new _ _ c1 (c2.trans ho)
  · rcases hM k b hk with h | h
    · rw [(hA (k, b) h).2.2.2.2.2.2] at ho; cases ho
    · exact hs.inp k b (hkeep k b h) ho
/-- the same by a list of names -/
theorem Leads.renN {P : Program} {n0 : Nat} {s s2 : St} {A H : Heap} (olds : List Nat) (hs2 : s2.H = A ++ H) (hold : ∀ k b, hget H k = some b → k < n0 ∧ scB (· < n0) b) (hkeep : ∀ k b, hget H k = some b → hget s.H k = some b) (ho : oldsOk n0 s.n olds = true) (hn : s2.n = n0 + olds.length) (hz : s2.sz = s.sz) (hm : s.marks = [] ∧ s2.marks = [])
    (hf : ∀ x ∈ s2.fr, (lk s.fr x.1 = some x.2 ∧ sc (· < n0) x.2) ∨ (lk s.fr x.1 = some (Ab.ren (rnm n0 olds) x.2) ∧ sc (· < s2.n) x.2))
    (hA : ∀ x ∈ A, n0 ≤ x.1 ∧ x.1 < s2.n ∧ hget s.H (rnm n0 olds x.1) = some (renB (rnm n0 olds) x.2) ∧ scB (· < s2.n) x.2 ∧ carried x.2 ∧ x.2.own = true) : Leads P n0 s s2 := by
  obtain ⟨hk, hd⟩ := oldsOk_spec olds ho
  have hlow : ∀ k, k < n0 → rnm n0 olds k = k := fun k h => by unfold rnm; rw [if_pos h]
  have hget' : ∀ k, n0 ≤ k → k < s2.n → ∃ h : k - n0 < olds.length, rnm n0 olds k = olds[k - n0] := fun k h1 h2 => by
    refine ⟨by omega, ?_⟩
    unfold rnm
    rw [if_neg (by omega), List.getD_eq_getElem?_getD, List.getElem?_eq_getElem (by omega)]
    rfl
  have hhigh : ∀ k, n0 ≤ k → k < s2.n → n0 ≤ rnm n0 olds k ∧ rnm n0 olds k < s.n := fun k h1 h2 => by
    obtain ⟨h, e⟩ := hget' k h1 h2
    rw [e]; exact hk _ (List.getElem_mem h)
  have hinj : ∀ j k, n0 ≤ j → j < s2.n → n0 ≤ k → k < s2.n → rnm n0 olds j = rnm n0 olds k → j = k := fun j k a1 a2 b1 b2 he => by
    obtain ⟨h, e⟩ := hget' j a1 a2
    obtain ⟨h', e'⟩ := hget' k b1 b2
    rw [e, e'] at he
    have hne : ∀ (x y : Nat) (hx : x < olds.length) (hy : y < olds.length), x < y → olds[x] ≠ olds[y] := fun x y hx hy hlt => List.pairwise_iff_getElem.1 hd x y hx hy hlt
    rcases Nat.lt_trichotomy (j - n0) (k - n0) with hlt | heq | hlt
    · exact absurd he (hne _ _ _ _ hlt)
    · omega
    · exact absurd he.symm (hne _ _ _ _ hlt)
  refine Leads.renR (rnm n0 olds) hs2 hold hkeep hlow (by omega) hz hm (fun t v hv => hf (t, v) (lk_mem _ _ _ hv)) (fun x hx => ?_) fun x hx y hy e => ?_
  · obtain ⟨h1, h2, h3, h4, h5, h6⟩ := hA x hx
    exact ⟨h1, h2, (hhigh _ h1 h2).1, h3, h4, h5, h6⟩
  · obtain ⟨h1, h2, _⟩ := hA x hx
    obtain ⟨h1', h2', _⟩ := hA y hy
    exact hinj _ _ h1 h2 h1' h2' e
end Go.Ab

/-
What an unnamed heap is known to hold: cells, rows; the same with blocks above it, and frozen. Regions of open order over it.
-/
namespace Go.Ab
open Go
/-! ### cells of a heap with blocks above -/
def cellB (o : Nat) : Blk → Option Value
  | .cells cs _ => cs[o]?
  | .ext cs _ _ => cs[o]?
  | .row cs _ => cs[o]?
  | .inp o' cs => if o' ≤ o then cs[o - o']? else none
  | _ => none
theorem cellA_eq (H : Heap) (k o : Nat) : cellA H k o = (hget H k).bind (cellB o) := by
  unfold cellA
  cases hget H k with
  | none => rfl
  | some b => cases b <;> rfl
theorem cellA_cons {H : Heap} {j k o : Nat} {b : Blk} : cellA ((j, b) :: H) k o = if j = k then cellB o b else cellA H k o := by
  rw [cellA_eq, hget_cons]
  by_cases h : j = k
  · rw [if_pos h, if_pos h]; rfl
  · rw [if_neg h, if_neg h, cellA_eq]
def cellsB (o n : Nat) : Blk → Option (List Value)
  | .cells cs _ => if o + n ≤ cs.length then some ((cs.drop o).take n) else none
  | .ext cs _ _ => if o + n ≤ cs.length then some ((cs.drop o).take n) else none
  | .row cs _ => if o + n ≤ cs.length then some ((cs.drop o).take n) else none
  | .inp o' cs => if o' ≤ o ∧ o - o' + n ≤ cs.length then some ((cs.drop (o - o')).take n) else none
  | _ => none
theorem cellsA_eq (H : Heap) (k o n : Nat) : cellsA H k o n = (hget H k).bind (cellsB o n) := by
  unfold cellsA
  cases hget H k with
  | none => rfl
  | some b => cases b <;> rfl
theorem cellsA_cons {H : Heap} {j k o n : Nat} {b : Blk} : cellsA ((j, b) :: H) k o n = if j = k then cellsB o n b else cellsA H k o n := by
  rw [cellsA_eq, hget_cons]
  by_cases h : j = k
  · rw [if_pos h, if_pos h]; rfl
  · rw [if_neg h, if_neg h, cellsA_eq]
theorem cellsA_cell {H : Heap} {k o n : Nat} {cs : List Value} (h : cellsA H k o n = some cs) {i : Nat} (hi : i < n) : cellA H k (o + i) = cs[i]? ∧ cs.length = n := by
  rw [cellsA_eq] at h
  rw [cellA_eq]
  cases hb : hget H k with
  | none => rw [hb] at h; cases h
  | some b =>
    rw [hb] at h
    simp only [Option.bind_some] at h ⊢
    cases b <;> simp only [cellsB, cellB] at h ⊢
    all_goals first
      | (split at h
         · rename_i hc
           injection h with h; subst h
           refine ⟨?_, by simp; omega⟩
           first
             | (rw [if_pos (by omega), List.getElem?_take, if_pos hi, List.getElem?_drop]; congr 1; omega)
             | (rw [List.getElem?_take, if_pos hi, List.getElem?_drop])
         · cases h)
      | cases h
theorem cellA_lt {H : Heap} {n k o : Nat} {v : Value} (hl : ∀ k b, hget H k = some b → k < n) (h : cellA H k o = some v) : k < n := by
  rw [cellA_eq] at h
  cases hb : hget H k with
  | none => rw [hb] at h; cases h
  | some b => exact hl k b hb
theorem cellsA_lt {H : Heap} {n k o m : Nat} {v : List Value} (hl : ∀ k b, hget H k = some b → k < n) (h : cellsA H k o m = some v) : k < n := by
  rw [cellsA_eq] at h
  cases hb : hget H k with
  | none => rw [hb] at h; cases h
  | some b => exact hl k b hb
/-- a name below is none of the new ones -/
theorem old_ne {n k : Nat} (h : k < n) : (n = k) = False ∧ ∀ c, (n + c = k) = False := ⟨eq_false (by omega), fun c => eq_false (by omega)⟩
/-! ### the same blocks, and more -/
def Sub (H H' : Heap) : Prop := ∀ k b, hget H k = some b → hget H' k = some b
theorem Sub.refl (H : Heap) : Sub H H := fun _ _ h => h
theorem Sub.cons {H H' : Heap} {j : Nat} {b : Blk} (hj : hget H j = none) (h : Sub H H') : Sub H ((j, b) :: H') := fun k c hk => by
  rw [hget_cons, if_neg]
  · exact h k c hk
  · intro e; subst e; rw [hj] at hk; cases hk
theorem Sub.app {H H' A : Heap} (hA : ∀ x ∈ A, hget H x.1 = none) (h : Sub H H') : Sub H (A ++ H') := by
  induction A with
  | nil => exact h
  | cons x A ih => exact Sub.cons (hA x (List.mem_cons_self ..)) (ih fun y hy => hA y (List.mem_cons_of_mem _ hy))
theorem Sub.trans {H H1 H2 : Heap} (h1 : Sub H H1) (h2 : Sub H1 H2) : Sub H H2 := fun k b h => h2 k b (h1 k b h)
theorem Sub.cell {H H' : Heap} (h : Sub H H') {k o : Nat} {v : Value} (hc : cellA H k o = some v) : cellA H' k o = some v := by
  rw [cellA_eq] at hc ⊢
  cases hb : hget H k with
  | none => rw [hb] at hc; cases hc
  | some b => rw [hb] at hc; rw [h k b hb]; exact hc
theorem Sub.cells {H H' : Heap} (h : Sub H H') {k o n : Nat} {v : List Value} (hc : cellsA H k o n = some v) : cellsA H' k o n = some v := by
  rw [cellsA_eq] at hc ⊢
  cases hb : hget H k with
  | none => rw [hb] at hc; cases hc
  | some b => rw [hb] at hc; rw [h k b hb]; exact hc
theorem no_new {H : Heap} {n : Nat} (hl : ∀ k b, hget H k = some b → k < n) : hget H n = none ∧ ∀ c, hget H (n + c) = none := by
  have go : ∀ c, hget H (n + c) = none := fun c => by
    cases hb : hget H (n + c) with
    | none => rfl
    | some b => have := hl _ _ hb; omega
  exact ⟨go 0, go⟩
/-! ### the plain part of a heap, in order -/
def plainB2 : Blk → Bool
  | .cells _ _ | .ext _ _ _ | .inp _ _ | .row _ _ | .tab _ => true
  | _ => false
def plainH : Heap → Bool
  | [] => true
  | (_, b) :: H => plainB2 b && plainH H
def tidyL (H : Heap) (n : Nat) : List Nat → Heap
  | [] => []
  | k :: ks => match hget H k with
    | some b => if k < n ∧ plainB2 b = true then (k, b) :: tidyL H n ks else tidyL H n ks
    | none => tidyL H n ks
/-- the plain blocks below 'n' -/
def tidy (n : Nat) (H : Heap) : Heap := tidyL H n (H.map (·.1))
theorem hget_tidyL {H : Heap} {n : Nat} : ∀ (ks : List Nat) (k : Nat) (b : Blk), hget (tidyL H n ks) k = some b ↔ k ∈ ks ∧ hget H k = some b ∧ k < n ∧ plainB2 b = true
  | [], k, b => by simp [tidyL]
  | j :: ks, k, b => by
    have ih := hget_tidyL (H := H) (n := n) ks k b
    unfold tidyL
    cases hj : hget H j with
    | none =>
      simp only
      rw [ih]
      constructor
      · rintro ⟨h1, h2⟩; exact ⟨List.mem_cons_of_mem _ h1, h2⟩
      · rintro ⟨h1, h2, h3⟩
        rcases List.mem_cons.1 h1 with rfl | h1
        · rw [hj] at h2; cases h2
        · exact ⟨h1, h2, h3⟩
    | some c =>
      simp only
      by_cases hc : j < n ∧ plainB2 c = true
      · rw [if_pos hc, hget_cons]
        by_cases e : j = k
        · subst e
          rw [if_pos rfl]
          constructor
          · intro h; injection h with h; subst h; exact ⟨List.mem_cons_self .., hj, hc⟩
          · rintro ⟨_, h2, _⟩; rw [hj] at h2; exact h2
        · rw [if_neg e, ih]
          constructor
          · rintro ⟨h1, h2⟩; exact ⟨List.mem_cons_of_mem _ h1, h2⟩
          · rintro ⟨h1, h2⟩
            rcases List.mem_cons.1 h1 with rfl | h1
            · exact absurd rfl e
            · exact ⟨h1, h2⟩
      · rw [if_neg hc, ih]
        constructor
        · rintro ⟨h1, h2⟩; exact ⟨List.mem_cons_of_mem _ h1, h2⟩
        · rintro ⟨h1, h2, h3⟩
          rcases List.mem_cons.1 h1 with rfl | h1
          · rw [hj] at h2; injection h2 with h2; subst h2; exact absurd h3 hc
          · exact ⟨h1, h2, h3⟩
theorem hget_tidy {H : Heap} {n k : Nat} {b : Blk} : hget (tidy n H) k = some b ↔ hget H k = some b ∧ k < n ∧ plainB2 b = true := by
  rw [tidy, hget_tidyL]
  constructor
  · exact fun h => h.2
  · exact fun h => ⟨List.mem_map.2 ⟨(k, b), hget_mem _ _ _ h.1, rfl⟩, h⟩
theorem namesOk_tidyL {H : Heap} {n : Nat} : ∀ (ks : List Nat), namesOk n (tidyL H n ks) = true ∧ plainH (tidyL H n ks) = true
  | [] => ⟨rfl, rfl⟩
  | k :: ks => by
    have ih := namesOk_tidyL (H := H) (n := n) ks
    unfold tidyL
    cases hget H k with
    | none => exact ih
    | some b =>
      simp only
      split
      · rename_i hc
        refine ⟨?_, by simp [plainH, hc.2, ih.2]⟩
        simp only [namesOk]
        rw [(blt_iff _ _).2 hc.1]
        exact ih.1
      · exact ih
theorem namesOk_mono {m n : Nat} (h : n ≤ m) : ∀ H : Heap, namesOk n H = true → namesOk m H = true
  | [], _ => rfl
  | (k, b) :: H, hk => by
    simp only [namesOk] at hk ⊢
    split at hk
    · rename_i hb
      have := (blt_iff _ _).1 hb
      rw [(blt_iff _ _).2 (by omega : k < m)]
      exact namesOk_mono h H hk
    · cases hk
/-- for a contract that looks at plain blocks alone: names in order, plain kinds -/
theorem AC.tidied {P : Program} {f : FuncId} {args : List Value} {H B : Heap} {n : Nat} {v : Value} {n' : Nat} (hB : ∀ x ∈ B, n ≤ x.1) (h : AC P f args (Ab.tidy n H) n v (B ++ Ab.tidy n H) n') : AC P f args H n v (B ++ H) n' := by
  refine AC.given fun hlt _ _ => ?_
  refine h.frame (fun k b hk => (hget_tidy.1 hk).1) fun k b hk => ?_
  have go : ∀ (B : Heap), (∀ x ∈ B, n ≤ x.1) → hget (B ++ H) k = some b → hget (B ++ Ab.tidy n H) k = some b ∨ (hget H k = some b ∧ hget (Ab.tidy n H) k = none) := by
    intro B
    induction B with
    | nil =>
      intro _ hk
      cases ht : hget (Ab.tidy n H) k with
      | none => exact .inr ⟨hk, rfl⟩
      | some c =>
        have h1 := (hget_tidy.1 ht).1
        rw [show hget H k = some b from hk] at h1
        injection h1 with h1; subst h1
        exact .inl ht
    | cons x B ih =>
      intro hB hk
      obtain ⟨j, y⟩ := x
      rw [List.cons_append, hget_cons] at hk ⊢
      by_cases e : j = k
      · rw [if_pos e] at hk ⊢; exact .inl hk
      · rw [if_neg e] at hk ⊢
        exact ih (fun x hx => hB x (List.mem_cons_of_mem _ hx)) hk
  exact go B hB hk
theorem cellsA_tidy {H : Heap} {n k o m : Nat} (hl : ∀ k b, hget H k = some b → k < n) {cs : List Value} (h : cellsA H k o m = some cs) : cellsA (tidy n H) k o m = some cs := by
  rw [cellsA_eq] at h ⊢
  cases hb : hget H k with
  | none => rw [hb] at h; cases h
  | some b =>
    rw [hb] at h
    have hp : plainB2 b = true := by
      cases b <;> first | rfl | cases h
    rw [hget_tidy.2 ⟨hb, hl k b hb, hp⟩]
    exact h
/-! ### frozen -/
def frz : Blk → Blk
  | .cells cs _ => .inp 0 cs
  | .ext cs _ sz => .row cs sz
  | b => b
def frzH : Heap → Heap
  | [] => []
  | (k, b) :: H => (k, frz b) :: frzH H
theorem hget_frz : ∀ (H : Heap) (k : Nat), hget (frzH H) k = (hget H k).map frz
  | [], _ => rfl
  | (j, b) :: H, k => by
    rw [frzH, hget_cons, hget_cons, hget_frz H k]
    by_cases h : j = k
    · rw [if_pos h, if_pos h]; rfl
    · rw [if_neg h, if_neg h]
theorem cellsA_frz (H : Heap) (k o n : Nat) : cellsA (frzH H) k o n = cellsA H k o n := by
  rw [cellsA_eq, cellsA_eq, hget_frz]
  cases hget H k with
  | none => rfl
  | some b => cases b <;> simp [frz, cellsB]
theorem cellA_frz (H : Heap) (k o : Nat) : cellA (frzH H) k o = cellA H k o := by
  rw [cellA_eq, cellA_eq, hget_frz]
  cases hget H k with
  | none => rfl
  | some b => cases b <;> simp [frz, cellB]
theorem rowOf_frz (H : Heap) (k : Nat) : rowOf (frzH H) k = rowOf H k := by
  unfold rowOf
  rw [hget_frz]
  cases hget H k with
  | none => rfl
  | some b => cases b <;> rfl
theorem handA_frz : ∀ (H : Heap) (L : List Nat), (∀ x ∈ H, memN L x.1 = true) → plainH H = true → handA L [] H = frzH H
  | [], _, _, _ => rfl
  | (k, b) :: H, L, hL, hp => by
    simp only [plainH, Bool.and_eq_true] at hp
    have ih := handA_frz H L (fun x hx => hL x (List.mem_cons_of_mem _ hx)) hp.2
    have hk := hL (k, b) (List.mem_cons_self ..)
    have hp1 := hp.1
    cases b <;> first | (simp only [handA, memN, hk, ih, frzH, frz]; done) | cases hp1
theorem dnames_plain : ∀ (H : Heap), plainH H = true → dnames H = H.map (·.1)
  | [], _ => rfl
  | (k, b) :: H, hp => by
    simp only [plainH, Bool.and_eq_true] at hp
    have ih := dnames_plain H hp.2
    have hp1 := hp.1
    cases b <;> first | (simp only [dnames, ih, List.map_cons]; done) | cases hp1
theorem handA_dnames {H : Heap} (h : plainH H = true) : handA (dnames H) [] H = frzH H :=
  handA_frz H _ (fun x hx => (memN_iff _ _).2 (by rw [dnames_plain H h]; exact List.mem_map_of_mem hx)) h
theorem takeNew_frz {H : Heap} {n : Nat} (h : namesOk n H = true) : takeNew n (frzH H) = [] := by
  cases H with
  | nil => rfl
  | cons x H =>
    obtain ⟨k, b⟩ := x
    have := namesOk_mem _ _ h (k, b) (List.mem_cons_self ..)
    rw [frzH, takeNew, ble_dec]
    rw [decide_eq_false (by omega)]
/-! ### regions of open order, calls at the frozen heap -/
def handU (P : Program) (r : Rec) (mk : List Nat) (i : Nat) (o : Oper) (fr : Fr) (st : St) : Option St :=
  match runOp P r o { st with fr := fr, H := frzH st.H } with
  | some (v, H, k) => match Nat.ble st.n k && namesOk k (takeNew st.n H) && (Nat.beq k st.n || memN mk i) with
    | true => some { st with fr := putA st.fr o.dst v, H := takeNew st.n H ++ st.H, n := k }
    | false => none
  | none => none
def doneU (P : Program) (r : Rec) (al mk late : List Nat) (n0 i : Nat) (o : Oper) (fr : Fr) (st : St) : Option St :=
  match isPure o.op with
  | true => pureS P o fr st
  | false => match isRead o.op with
    | true => match footA P fr o.op with
      | some f => readT P late n0 i o fr st f.see
      | none => none
    | false => match memN al i with
      | true => aloneT P r mk i o fr st
      | false => match footA P fr o.op with
        | some f => match f.put.isEmpty && visT late n0 i st.n f.see with
          | true => handT P r mk i o f.see fr st
          | false => none
        | none => match memN late i && plainH st.H with
          | true => handU P r mk i o fr st
          | false => none
def oneU (P : Program) (r : Rec) (ops : Array Oper) (al mk late : List Nat) (n0 i : Nat) (o : Oper) (st : St) : Option St :=
  match dstOk st.sz o.dst with
  | false => none
  | true => match wantedA ops (trim (lookTmps ops o) st.fr) o with
    | none => none
    | some false => some { st with fr := putA st.fr o.dst undefV }
    | some true => doneU P r al mk late n0 i o (trim (lookTmps ops o) st.fr) st
def opsU (P : Program) (r : Rec) (ops : Array Oper) (al mk late : List Nat) (n0 : Nat) : List Oper → Nat → St → Option St
  | [], _, st => some st
  | o :: os, i, st => match oneU P r ops al mk late n0 i o st with
    | some st' => opsU P r ops al mk late n0 os (i + 1) st'
    | none => none
def runU (P : Program) (r : Rec) (ops : Array Oper) (al mk late : List Nat) (st : St) : Option St :=
  match namesOk st.n st.H with
  | true => opsU P r ops al mk late st.n ops.toList 0 st
  | false => none
theorem opsU_ok {P : Program} {r : Rec} {ops : Array Oper} {al mk late : List Nat} {n0 : Nat} : ∀ (os : List Oper) (i : Nat) (st st' : St), opsU P r ops al mk late n0 os i st = some st' → opsT P r ops al mk late n0 os i st = some st'
  | [], _, _, _, h => h
  | o :: os, i, st, st', h => by
    simp only [opsU] at h
    split at h
    · rename_i st1 h1
      have key : oneT P r ops al mk late n0 i o st = some st1 := by
        unfold oneU at h1
        unfold oneT
        split at h1
        · cases h1
        · rename_i hd
          rw [hd]
          simp only
          split at h1
          · cases h1
          · rename_i hw; rw [hw]; exact h1
          · rename_i hw
            rw [hw]
            simp only
            unfold doneU at h1
            unfold doneT
            split at h1
            · rename_i hp; rw [hp]; exact h1
            · rename_i hp
              rw [hp]
              simp only
              split at h1
              · rename_i hrd; rw [hrd]; exact h1
              · rename_i hrd
                rw [hrd]
                simp only
                split at h1
                · rename_i hm; rw [hm]; exact h1
                · rename_i hm
                  rw [hm]
                  simp only
                  split at h1
                  · rename_i f hf; rw [hf]; exact h1
                  · rename_i hf
                    rw [hf]
                    simp only
                    split at h1
                    · rename_i hc
                      rw [Bool.and_eq_true] at hc
                      rw [hc.1]
                      simp only
                      unfold handT
                      rw [handA_dnames hc.2]
                      exact h1
                    · cases h1
      simp only [opsT, key]
      exact opsU_ok os (i + 1) st1 st' h
    · cases h
section
variable {P : Program} {n0 : Nat} {ro : Option Nat} {st st' : St} {K : Ex → St → Prop} {r : Rec} {m : Nat}
theorem E.drawU (hm : P.follows .mixedOrders = true) (hr : RecOk P r m) (al mk late : List Nat) {id : Nat} {ops : Array Oper} (hd : drawT ops (Region.before ops) al mk late = true) (h : runU P r ops al mk late st = some st') (k : K .normal st') : E P n0 ro (.region id ops true) st K := by
  refine E.drawC hm hr al mk late hd ?_ k
  unfold runU at h
  unfold runT
  split at h
  · rename_i hn; rw [hn]; exact opsU_ok _ _ _ _ h
  · cases h
end
attribute [simp] runU opsU oneU doneU handU frz frzH plainH plainB2 cellB cellsB
end Go.Ab

/-
Lists that an unnamed heap holds, read as a whole: of numbers, of texts, of lists; the same in a larger heap, a tidied and a frozen one.
-/
namespace Go.Ab
open Go
/-- the same state, less known of it -/
theorem Leads.keep {P : Program} {n0 : Nat} {s s2 : St} (hn : s2.n = s.n) (hz : s2.sz = s.sz) (hm : s2.marks = s.marks) (hf : ∀ x ∈ s2.fr, lk s.fr x.1 = some x.2) (hh : Sub s2.H s.H) : Leads P n0 s s2 := by
  intro p φ M w0 hg hp a w φ1 hS hs
  have hf' : ∀ t v, lk s2.fr t = some v → lk s.fr t = some v := fun t v h => hf (t, v) (lk_mem _ _ _ h)
  rw [hn]
  exact ⟨φ1, ⟨⟨hS.base.rel.sub hh, hn ▸ hS.base.lt, hS.base.gl, hn ▸ hS.base.gn, fun k b hk => hS.base.sm k b (hh k b hk), fun t v hv => hS.base.ar t v (hf' t v hv), fun t v hv => hS.base.sf t v (hf' t v hv)⟩, hz ▸ hS.size, hm ▸ hS.defs, hm ▸ hS.marks⟩, hs.sub hh⟩
/-! ### lists, element by element -/
def mapO {α β : Type} (f : β → Option α) : List β → Option (List α)
  | [] => some []
  | x :: xs => match f x, mapO f xs with
    | some y, some ys => some (y :: ys)
    | _, _ => none
def chunks (sz : Nat) : Nat → List Value → List (List Value)
  | 0, _ => []
  | k + 1, cs => cs.take sz :: chunks sz k (cs.drop sz)
theorem mapO_get {α β : Type} {f : β → Option α} : ∀ {xs : List β} {ys : List α}, mapO f xs = some ys → xs.length = ys.length ∧ ∀ (i : Nat) x, xs[i]? = some x → f x = ys[i]?
  | [], ys, h => by simp only [mapO, Option.some.injEq] at h; subst h; exact ⟨rfl, fun i x hx => by simp at hx⟩
  | x :: xs, ys, h => by
    simp only [mapO] at h
    split at h
    · rename_i y ys' h1 h2
      injection h with h; subst h
      obtain ⟨e1, e2⟩ := mapO_get h2
      refine ⟨by simp [e1], fun i z hz => ?_⟩
      cases i with
      | zero => simp at hz ⊢; subst hz; exact h1
      | succ i => simp at hz ⊢; exact e2 i z hz
    · cases h
theorem mapO_of {α β : Type} {f : β → Option α} : ∀ {xs : List β} {ys : List α}, xs.length = ys.length → (∀ (i : Nat) x, xs[i]? = some x → f x = ys[i]?) → mapO f xs = some ys
  | [], ys, h, _ => by cases ys with | nil => rfl | cons => simp at h
  | x :: xs, [], h, _ => by simp at h
  | x :: xs, y :: ys, h, hg => by
    have h0 := hg 0 x rfl
    have ih := mapO_of (xs := xs) (ys := ys) (by simpa using h) fun i z hz => by simpa using hg (i + 1) z (by simpa using hz)
    simp only [mapO, h0, ih, List.getElem?_cons_zero]
theorem mapO_mono {α β : Type} {f g : β → Option α} (h : ∀ x y, f x = some y → g x = some y) : ∀ {xs : List β} {ys : List α}, mapO f xs = some ys → mapO g xs = some ys
  | [], _, e => e
  | x :: xs, ys, e => by
    simp only [mapO] at e ⊢
    split at e
    · rename_i y ys' h1 h2
      rw [h x y h1, mapO_mono h h2]; exact e
    · cases e
theorem chunks_len (sz : Nat) : ∀ (k : Nat) (cs : List Value), (chunks sz k cs).length = k
  | 0, _ => rfl
  | k + 1, cs => by simp [chunks, chunks_len sz k]
theorem chunks_get (sz : Nat) : ∀ (k : Nat) (cs : List Value) (i : Nat), i < k → (chunks sz k cs)[i]? = some ((cs.drop (i * sz)).take sz)
  | 0, _, _, h => by omega
  | k + 1, cs, 0, _ => by simp [chunks]
  | k + 1, cs, i + 1, h => by
    rw [chunks, List.getElem?_cons_succ, chunks_get sz k _ i (by omega), List.drop_drop]
    congr 3
    rw [Nat.add_mul]; omega
abbrev Dec (α : Type) := Heap → List Value → Option α
/-- the elements of a slice, each of 'sz' cells -/
def listV {α : Type} (sz : Nat) (dec : Dec α) (H : Heap) : Value → Option (List α)
  | .slice none 0 0 => some []
  | .slice (some a) len _ => if len < 2147483648 then (if len = 0 then some [] else if flat a = true then (cellsA H a.block a.off (len * sz)).bind fun cs => mapO (dec H) (chunks sz len cs) else none) else none
  | _ => none
theorem cells_part {H : Heap} {k o n sz i : Nat} {cs : List Value} (h : cellsA H k o (n * sz) = some cs) (hi : i < n) : cellsA H k (o + i * sz) sz = some ((cs.drop (i * sz)).take sz) := by
  have hm : i * sz + sz ≤ n * sz := by
    rw [← Nat.succ_mul]; exact Nat.mul_le_mul_right _ hi
  rw [cellsA_eq] at h ⊢
  cases hb : hget H k with
  | none => rw [hb] at h; cases h
  | some b =>
    rw [hb] at h
    simp only [Option.bind_some] at h ⊢
    have key : ∀ (xs : List Value) (p : Nat), p + n * sz ≤ xs.length → ((xs.drop (p + i * sz)).take sz) = ((((xs.drop p).take (n * sz)).drop (i * sz)).take sz) := fun xs p hp => by
      rw [List.drop_take, List.take_take, List.drop_drop, Nat.min_eq_left (by omega)]
    cases b <;> simp only [cellsB] at h ⊢
    all_goals first
      | (split at h
         · injection h with h; subst h
           first
             | (rw [if_pos (by omega), key _ _ (by omega)])
             | (rename_i hc
                rw [if_pos (by omega), ← key _ _ (by omega)]
                congr 3
                omega)
         · cases h)
      | cases h
/-- what is known of a slice that reads as a list -/
theorem listV_form {α : Type} {sz : Nat} {dec : Dec α} {H : Heap} {v : Value} {l : List α} (h : listV sz dec H v = some l) :
    ∃ oa c, v = .slice oa l.length c ∧ l.length < 2147483648 ∧ (oa = none → c = 0) ∧ ∀ i (hi : i < l.length), ∃ a r, oa = some a ∧ flat a = true ∧ cellsA H a.block (a.off + i * sz) sz = some r ∧ dec H r = some l[i] := by
  unfold listV at h
  split at h
  · injection h with h; subst h
    exact ⟨none, 0, rfl, by simp, fun _ => rfl, fun i hi => by simp at hi⟩
  · rename_i a len c
    split at h
    · rename_i hlt
      split at h
      · rename_i h0
        injection h with h; subst h h0
        exact ⟨some a, c, rfl, by simp, fun e => (by cases e), fun i hi => by simp at hi⟩
      · split at h
        · rename_i hf
          obtain ⟨cs, hc, hm⟩ := Option.bind_eq_some_iff.1 h
          obtain ⟨e1, e2⟩ := mapO_get hm
          rw [chunks_len] at e1
          subst e1
          refine ⟨some a, c, rfl, hlt, fun e => (by cases e), fun i hi => ⟨a, _, rfl, hf, cells_part hc hi, ?_⟩⟩
          rw [e2 i _ (chunks_get sz _ cs i hi), List.getElem?_eq_getElem hi]
        · cases h
    · cases h
  · cases h
def DecMono {α : Type} (dec : Dec α) : Prop := ∀ H H' cs y, Sub H H' → dec H cs = some y → dec H' cs = some y
theorem listV_mono {α : Type} {sz : Nat} {dec : Dec α} (hd : DecMono dec) {H H' : Heap} (hs : Sub H H') {v : Value} {l : List α} (h : listV sz dec H v = some l) : listV sz dec H' v = some l := by
  unfold listV at h ⊢
  split at h
  · exact h
  · rename_i a len c
    split at h
    · rename_i hlt
      rw [if_pos hlt]
      split at h
      · rename_i h0; rw [if_pos h0]; exact h
      · rename_i h0
        rw [if_neg h0]
        split at h
        · rename_i hf
          obtain ⟨cs, hc, hm⟩ := Option.bind_eq_some_iff.1 h
          rw [if_pos hf, hs.cells hc]
          exact mapO_mono (fun x y => hd H H' x y hs) hm
        · cases h
    · cases h
  · cases h
theorem listV_cons {α : Type} {sz : Nat} {dec : Dec α} (hd : DecMono dec) {H : Heap} {j : Nat} {b : Blk} {v : Value} (hj : hget H j = none) (h : (listV sz dec H v).isSome = true) : listV sz dec ((j, b) :: H) v = listV sz dec H v := by
  obtain ⟨l, hl⟩ := Option.isSome_iff_exists.1 h
  rw [hl, listV_mono hd (Sub.cons hj (Sub.refl H)) hl]
def DecFrz {α : Type} (dec : Dec α) : Prop := ∀ H cs, dec (frzH H) cs = dec H cs
theorem listV_frz {α : Type} {sz : Nat} {dec : Dec α} (hd : DecFrz dec) (H : Heap) (v : Value) : listV sz dec (frzH H) v = listV sz dec H v := by
  unfold listV
  split
  · rfl
  · rw [show (dec (frzH H)) = dec H from funext (hd H)]
    simp only [cellsA_frz]
  · rfl
def DecTidy {α : Type} (dec : Dec α) : Prop := ∀ H n cs y, (∀ k b, hget H k = some b → k < n) → dec H cs = some y → dec (tidy n H) cs = some y
theorem listV_tidy {α : Type} {sz : Nat} {dec : Dec α} (hd : DecTidy dec) {H : Heap} {n : Nat} (hl : ∀ k b, hget H k = some b → k < n) {v : Value} {l : List α} (h : listV sz dec H v = some l) : listV sz dec (tidy n H) v = some l := by
  unfold listV at h ⊢
  split at h
  · exact h
  · rename_i a len c
    split at h
    · rename_i hlt
      rw [if_pos hlt]
      split at h
      · rename_i h0; rw [if_pos h0]; exact h
      · rename_i h0
        rw [if_neg h0]
        split at h
        · rename_i hf
          obtain ⟨cs, hc, hm⟩ := Option.bind_eq_some_iff.1 h
          rw [if_pos hf, cellsA_tidy hl hc]
          exact mapO_mono (fun x y => hd H n x y hl) hm
        · cases h
    · cases h
  · cases h
/-! ### numbers, texts -/
def decI : Dec Int := fun _ cs => match cs with
  | [.int .i64 n] => some n
  | _ => none
theorem decI_mono : DecMono decI := fun _ _ _ _ _ h => h
theorem decI_frz : DecFrz decI := fun _ _ => rfl
theorem decI_tidy : DecTidy decI := fun _ _ _ _ _ h => h
def decS : Dec ByteArray := fun _ cs => match cs with
  | [.string s] => some s
  | _ => none
theorem decS_mono : DecMono decS := fun _ _ _ _ _ h => h
theorem decS_frz : DecFrz decS := fun _ _ => rfl
theorem decS_tidy : DecTidy decS := fun _ _ _ _ _ h => h
abbrev intV (H : Heap) (v : Value) : Option (List Int) := listV 1 decI H v
abbrev strV (H : Heap) (v : Value) : Option (List ByteArray) := listV 1 decS H v
/-- lists of what is read itself through the heap -/
def decL {α : Type} (sz : Nat) (dec : Dec α) : Dec (List α) := fun H cs => match cs with
  | [v] => listV sz dec H v
  | _ => none
theorem decL_mono {α : Type} {sz : Nat} {dec : Dec α} (hd : DecMono dec) : DecMono (decL sz dec) := fun H H' cs y hs h => by
  unfold decL at h ⊢
  split at h
  · exact listV_mono hd hs h
  · cases h
theorem decL_frz {α : Type} {sz : Nat} {dec : Dec α} (hd : DecFrz dec) : DecFrz (decL sz dec) := fun H cs => by
  unfold decL
  split
  · exact listV_frz hd H _
  · rfl
theorem decL_tidy {α : Type} {sz : Nat} {dec : Dec α} (hd : DecTidy dec) : DecTidy (decL sz dec) := fun H n cs y hl h => by
  unfold decL at h ⊢
  split at h
  · exact listV_tidy hd hl h
  · cases h
abbrev nestV (H : Heap) (v : Value) : Option (List (List Int)) := listV 1 (decL 1 decI) H v
theorem decNI_mono : DecMono (decL 1 decI) := decL_mono decI_mono
theorem cells_one {H : Heap} {k o : Nat} {r : List Value} (h : cellsA H k o 1 = some r) : ∃ x, r = [x] ∧ cellA H k o = some x := by
  obtain ⟨h1, h2⟩ := cellsA_cell h (i := 0) (by omega)
  obtain ⟨x, rfl⟩ : ∃ x, r = [x] := by
    match r, h2 with
    | [x], _ => exact ⟨x, rfl⟩
  exact ⟨x, rfl, by simpa using h1⟩
theorem intV_form {H : Heap} {v : Value} {l : List Int} (h : intV H v = some l) :
    ∃ oa c, v = .slice oa l.length c ∧ l.length < 2147483648 ∧ (oa = none → c = 0) ∧ ∀ i (hi : i < l.length), ∃ a, oa = some a ∧ flat a = true ∧ cellA H a.block (a.off + i) = some (.int .i64 l[i]) := by
  obtain ⟨oa, c, e1, e2, e0, e3⟩ := listV_form h
  refine ⟨oa, c, e1, e2, e0, fun i hi => ?_⟩
  obtain ⟨a, r, f1, f2, f3, f4⟩ := e3 i hi
  obtain ⟨x, rfl, hx⟩ := cells_one f3
  rw [Nat.mul_one] at hx
  unfold decI at f4
  split at f4
  · rename_i n hn
    injection hn with hn
    injection f4 with f4
    subst hn f4
    exact ⟨a, f1, f2, hx⟩
  · cases f4
theorem strV_form {H : Heap} {v : Value} {l : List ByteArray} (h : strV H v = some l) :
    ∃ oa c, v = .slice oa l.length c ∧ l.length < 2147483648 ∧ (oa = none → c = 0) ∧ ∀ i (hi : i < l.length), ∃ a, oa = some a ∧ flat a = true ∧ cellA H a.block (a.off + i) = some (.string l[i]) := by
  obtain ⟨oa, c, e1, e2, e0, e3⟩ := listV_form h
  refine ⟨oa, c, e1, e2, e0, fun i hi => ?_⟩
  obtain ⟨a, r, f1, f2, f3, f4⟩ := e3 i hi
  obtain ⟨x, rfl, hx⟩ := cells_one f3
  rw [Nat.mul_one] at hx
  unfold decS at f4
  split at f4
  · rename_i n hn
    injection hn with hn
    injection f4 with f4
    subst hn f4
    exact ⟨a, f1, f2, hx⟩
  · cases f4
theorem decL_form {α : Type} {sz : Nat} {dec : Dec α} {H : Heap} {v : Value} {l : List (List α)} (h : listV 1 (decL sz dec) H v = some l) :
    ∃ oa c, v = .slice oa l.length c ∧ l.length < 2147483648 ∧ (oa = none → c = 0) ∧ ∀ i (hi : i < l.length), ∃ a r, oa = some a ∧ flat a = true ∧ cellA H a.block (a.off + i) = some r ∧ listV sz dec H r = some l[i] := by
  obtain ⟨oa, c, e1, e2, e0, e3⟩ := listV_form h
  refine ⟨oa, c, e1, e2, e0, fun i hi => ?_⟩
  obtain ⟨a, r, f1, f2, f3, f4⟩ := e3 i hi
  obtain ⟨x, rfl, hx⟩ := cells_one f3
  rw [Nat.mul_one] at hx
  exact ⟨a, x, f1, f2, hx, f4⟩
theorem nestV_form {H : Heap} {v : Value} {l : List (List Int)} (h : nestV H v = some l) :
    ∃ oa c, v = .slice oa l.length c ∧ l.length < 2147483648 ∧ (oa = none → c = 0) ∧ ∀ i (hi : i < l.length), ∃ a r, oa = some a ∧ flat a = true ∧ cellA H a.block (a.off + i) = some r ∧ intV H r = some l[i] := decL_form h
/-! ### what is made reads as it was made -/
theorem chunks_one : ∀ (cs : List Value), chunks 1 cs.length cs = cs.map fun v => [v]
  | [] => rfl
  | v :: cs => by simp [chunks, chunks_one cs]
theorem listV_mk {α : Type} {dec : Dec α} {H : Heap} {a : Addr} {c : Nat} {cs : List Value} {l : List α} (hf : flat a = true) (hc : cellsA H a.block a.off cs.length = some cs) (hl : cs.length = l.length) (hlt : l.length < 2147483648) (hd : ∀ (i : Nat) v, cs[i]? = some v → dec H [v] = l[i]?) : listV 1 dec H (.slice (some a) l.length c) = some l := by
  unfold listV
  simp only
  rw [if_pos hlt]
  split
  · rename_i h0
    rw [List.length_eq_zero_iff] at h0
    rw [h0]
  · try rw [if_pos hf]
    rw [← hl, Nat.mul_one, hc]
    simp only [Option.bind_some]
    rw [chunks_one]
    refine mapO_of (by simp [hl]) fun i x hx => ?_
    simp only [List.getElem?_map, Option.map_eq_some_iff] at hx
    obtain ⟨v, hv, rfl⟩ := hx
    exact hd i v hv
theorem dec_iv {H : Heap} {l : List Int} (i : Nat) (v : Value) (h : (l.map iv)[i]? = some v) : decI H [v] = l[i]? := by
  simp only [List.getElem?_map, Option.map_eq_some_iff] at h
  obtain ⟨n, hn, rfl⟩ := h
  rw [hn]; rfl
theorem dec_sv {H : Heap} {l : List ByteArray} (i : Nat) (v : Value) (h : (l.map sv)[i]? = some v) : decS H [v] = l[i]? := by
  simp only [List.getElem?_map, Option.map_eq_some_iff] at h
  obtain ⟨n, hn, rfl⟩ := h
  rw [hn]; rfl
theorem intV_ext {H : Heap} {k c t : Nat} {l : List Int} (h : hget H k = some (.ext (l.map iv) t 1)) (hl : l.length < 2147483648) : intV H (.slice (some ⟨k, 0, some 0⟩) l.length c) = some l :=
  listV_mk (cs := l.map iv) rfl (by rw [cellsA_eq, h]; simp [List.take_of_length_le]) (by simp) hl dec_iv
theorem intV_cells {H : Heap} {k c t : Nat} {l : List Int} (h : hget H k = some (.cells (l.map iv) t)) (hl : l.length < 2147483648) : intV H (.slice (some ⟨k, 0, none⟩) l.length c) = some l :=
  listV_mk (cs := l.map iv) rfl (by rw [cellsA_eq, h]; simp [List.take_of_length_le]) (by simp) hl dec_iv
theorem intV_inp {H : Heap} {k o c : Nat} {l : List Int} (h : hget H k = some (.inp o (l.map iv))) (hl : l.length < 2147483648) : intV H (.slice (some ⟨k, o, none⟩) l.length c) = some l :=
  listV_mk (cs := l.map iv) rfl (by rw [cellsA_eq, h]; simp [List.take_of_length_le]) (by simp) hl dec_iv
theorem listV_nil {α : Type} {sz : Nat} {dec : Dec α} {H : Heap} : listV sz dec H (.slice none 0 0) = some [] := rfl
theorem listV_none {α : Type} {sz : Nat} {dec : Dec α} {H : Heap} {a : Addr} {c : Nat} : listV sz dec H (.slice (some a) 0 c) = some [] := rfl
/-- what was made since is let go -/
theorem Leads.back {P : Program} {n0 : Nat} {s s2 : St} {H : Heap} (hs2 : s2.H = H) (hold : ∀ k b, hget H k = some b → k < n0 ∧ scB (· < n0) b) (hkeep : Sub H s.H) (hn : s2.n = n0) (hz : s2.sz = s.sz) (hm : s.marks = [] ∧ s2.marks = []) (hf : ∀ x ∈ s2.fr, lk s.fr x.1 = some x.2 ∧ sc (· < n0) x.2) : Leads P n0 s s2 :=
  Leads.renN (A := []) (H := H) [] (by simpa using hs2) hold hkeep rfl (by simpa using hn) hz hm (fun x hx => .inl (hf x hx)) (by simp)
theorem cellB_sc {p : Nat → Prop} {b : Blk} {o : Nat} {v : Value} (h : scB p b) (hc : cellB o b = some v) : sc p v := by
  cases b <;> simp only [cellB] at hc
  all_goals first
    | exact (scL_iff p _).1 h v (List.mem_of_getElem? hc)
    | (split at hc
       · exact (scL_iff p _).1 h v (List.mem_of_getElem? hc)
       · cases hc)
    | cases hc
/-- what lies in a cell of an old heap is old -/
theorem cellA_sc {p : Nat → Prop} {H : Heap} {k o : Nat} {v : Value} (hold : ∀ k b, hget H k = some b → scB p b) (h : cellA H k o = some v) : sc p v := by
  rw [cellA_eq] at h
  obtain ⟨b, hb1, hb2⟩ := Option.bind_eq_some_iff.1 h
  exact cellB_sc (hold _ _ hb1) hb2
mutual
theorem ren_fix {p : Nat → Prop} {ρ : Nat → Nat} (h : ∀ k, p k → ρ k = k) : ∀ v, sc p v → ren ρ v = v
  | .bool _, _ | .int _ _, _ | .float _ _, _ | .complex _ _ _, _ | .string _, _ | .nilFunc, _ | .nilIface, _ | .chan _, _ => by simp [ren]
  | .pointer none, _ | .slice none _ _, _ | .map none, _ => by simp [ren]
  | .pointer (some a), hs => by simp only [ren]; rw [h _ hs]
  | .slice (some a) l c, hs => by simp only [ren]; rw [h _ hs]
  | .map (some r), hs => by simp only [ren]; rw [h _ hs]
  | .func (.yield l) a b, hs => by
    simp only [sc] at hs
    simp only [ren]
    rw [h _ hs.1, renL_fix h _ hs.2.1, renL_fix h _ hs.2.2]
  | .func (.func f) a b, hs | .func (.method f) a b, hs | .func (.methodOf _ f) a b, hs | .func (.via _ _ f _) a b, hs => by
    simp only [sc] at hs
    simp only [ren]
    rw [renL_fix h _ hs.1, renL_fix h _ hs.2]
  | .iface t v, hs => by simp only [ren]; rw [ren_fix h v hs]
  | .agg cs, hs => by simp only [ren]; rw [renL_fix h _ hs]
  | .tuple cs, hs => by simp only [ren]; rw [renL_fix h _ hs]
theorem renL_fix {p : Nat → Prop} {ρ : Nat → Nat} (h : ∀ k, p k → ρ k = k) : ∀ vs, scL p vs → renL ρ vs = vs
  | [], _ => rfl
  | v :: vs, hs => by simp only [renL]; rw [ren_fix h v hs.1, renL_fix h vs hs.2]
end
theorem renB_fix {p : Nat → Prop} {ρ : Nat → Nat} (h : ∀ k, p k → ρ k = k) : ∀ b, scB p b → renB ρ b = b
  | .cells cs _, hs | .ext cs _ _, hs | .inp _ cs, hs | .row cs _, hs | .tab cs, hs => by simp only [renB]; rw [renL_fix h cs hs]
  | .map es c, hs => by
    simp only [renB]
    congr 1
    have : ∀ es : List MapEntry, (∀ e ∈ es, sc p e.key ∧ sc p e.val) → es.map (fun e => ({ key := ren ρ e.key, val := ren ρ e.val, born := e.born } : MapEntry)) = es := by
      intro es
      induction es with
      | nil => intro _; rfl
      | cons e es ih =>
        intro he
        rw [List.map_cons, ih fun e' h' => he e' (List.mem_cons_of_mem _ h'), ren_fix h _ (he e (List.mem_cons_self ..)).1, ren_fix h _ (he e (List.mem_cons_self ..)).2]
    exact this es hs
  | .iter _ _, _ | .defd, _ => rfl
  | .miter none _ _ _, _ => rfl
  | .miter (some m) _ _ _, hs => by simp only [renB, Option.map_some]; rw [h m (hs m rfl)]
  | .loop .., _ => rfl
end Go.Ab
