/-
An abstract evaluator of code, its rules and its views of memory: no program in sight (no condition).
-/
import Derived.OpenShut
import Derived.ChangeSlices
import Derived.Test.YtljglocehbccnaaAf
/-
Walks at any heap: what is known of an unnamed heap, names put anew above it, a contract told of a part of memory, and regions of open order over it.
-/
namespace Go.Ab
open Go
/-! ### contracts at any heap -/
theorem AC.given {P : Program} {f : FuncId} {args : List Value} {H : Heap} {n : Nat} {v : Value} {H' : Heap} {n' : Nat} (h : (∀ k b, hget H k = some b → k < n ∧ scB (· < n) b) → scL (· < n) args → P.globals.size ≤ n → AC P f args H n v H' n') : AC P f args H n v H' n' :=
  fun p φ w hB hsc => h (fun k b hk => ⟨hB.lt k (hB.sm k b hk).1, scB_mono hB.lt _ (hB.sm k b hk).2⟩) (scL_mono hB.lt _ hsc) hB.gn p φ w hB hsc
/-- what is true of a part of memory, told of the whole -/
theorem AC.frame {P : Program} {f : FuncId} {args : List Value} {H H0 H1 H2 : Heap} {n n' : Nat} {v : Value} (h : AC P f args H0 n v H1 n') (hsub : ∀ k b, hget H0 k = some b → hget H k = some b)
    (h2 : ∀ k b, hget H2 k = some b → hget H1 k = some b ∨ (hget H k = some b ∧ hget H0 k = none)) : AC P f args H n v H2 n' := by
  intro p φ w hB hsc
  have hB0 : Base P p φ n (hget H0) w [] act0 := ⟨hB.rel.sub hsub, hB.lt, hB.gl, hB.gn, fun k b hk => hB.sm k b (hsub k b hk), fun t v hv => by simp [lk] at hv, fun t v hv => by simp [lk] at hv⟩
  have key : ∀ φ' w', Dn P p φ n (hget H0) w v n' (hget H1) φ' w' → Dn P p φ n (hget H) w v n' (hget H2) φ' w' := by
    intro φ' w' hd
    obtain ⟨hsm, hscv, hst⟩ := hd
    have hagr : Agr p φ φ' := fun k hk => hst.only k (.inl (hB.lt k hk))
    have hloc : ∀ k b, hget H k = some b → φ'.loc k = φ.loc k := fun k b hk => (hagr k (hB.sm k b hk).1).1
    have hkeep : ∀ k b, hget H k = some b → hget H0 k = none → w'.heap[φ.loc k]? = w.heap[φ.loc k]? := fun k b hk hn => hst.frm.keep _ (hB.rel.lt hk) fun j x hj ho => hB.rel.apart j x k b (hsub j x hj) hk (fun e => by subst e; rw [hn] at hj; cases hj) ho
    refine ⟨fun k b hk => ?_, hscv, hst.le, hst.only, ⟨fun k b hk => ?_, fun k b k' b' g1 g2 hne ho => ?_, hst.rel.glob⟩, fun k b hk ho => ?_, fun k b hk ho => ?_, ⟨hst.frm.os, hst.frm.tape, hst.frm.output, hst.frm.size, fun b hb hx => hst.frm.keep b hb fun k x hk ho => hx k x (hsub k x hk) ho⟩⟩
    · rcases h2 k b hk with h | ⟨h, _⟩
      · exact hsm k b h
      · exact ⟨.inl (hB.sm k b h).1, scB_mono (fun _ h => .inl h) _ (hB.sm k b h).2⟩
    · rcases h2 k b hk with h | ⟨h, hn⟩
      · exact hst.rel.blk k b h
      · rw [hloc k b h, hkeep k b h hn]
        exact (hB.rel.blk k b h).congr hagr (hB.sm k b h).1 (hB.sm k b h).2
    · rcases h2 k b g1 with h | ⟨h, hn⟩ <;> rcases h2 k' b' g2 with h' | ⟨h', hn'⟩
      · exact hst.rel.apart k b k' b' h h' hne ho
      · rw [hloc k' b' h']
        rcases hst.new k b h ho with g | ⟨k0, b0, e1, e2, e3⟩
        · have := hB.rel.lt h'
          omega
        · rw [← e3]
          exact hB.rel.apart k0 b0 k' b' (hsub _ _ e1) h' (fun e => by subst e; rw [hn'] at e1; cases e1) e2
      · rw [hloc k b h]
        cases hb : b'.own with
        | true =>
          rcases hst.new k' b' h' hb with g | ⟨k0, b0, e1, e2, e3⟩
          · have := hB.rel.lt h
            omega
          · rw [← e3]
            exact hB.rel.apart k b k0 b0 h (hsub _ _ e1) (fun e => by subst e; rw [hn] at e1; cases e1) ho
        | false =>
          have e1 := hst.inp k' b' h' hb
          rw [hloc k' b' (hsub _ _ e1)]
          exact hB.rel.apart k b k' b' h (hsub _ _ e1) hne ho
      · rw [hloc k b h, hloc k' b' h']
        exact hB.rel.apart k b k' b' h h' hne ho
    · rcases h2 k b hk with h | ⟨h, _⟩
      · rcases hst.new k b h ho with g | ⟨k0, b0, e1, e2, e3⟩
        · exact .inl g
        · exact .inr ⟨k0, b0, hsub _ _ e1, e2, e3⟩
      · exact .inr ⟨k, b, h, ho, (hloc k b h).symm⟩
    · rcases h2 k b hk with h | ⟨h, _⟩
      · exact hsub _ _ (hst.inp k b h ho)
      · exact h
  rcases h p φ w hB0 hsc with ⟨h1, h3⟩ | ⟨φ', w', h1, h3⟩
  · refine .inl ⟨h1, CallsIn.mono h3 fun e w' hh => ?_⟩
    obtain ⟨φ', he, hd⟩ := hh
    exact ⟨φ', he, key φ' w' hd⟩
  · exact .inr ⟨φ', w', h1, key φ' w' h3⟩
/-- the result and its blocks under other names -/
theorem AC.ren {P : Program} {f : FuncId} {args : List Value} {H H1 H2 : Heap} {n n1 n2 : Nat} {u v : Value} (ρ : Nat → Nat) (h : AC P f args H n u H1 n1) (hlow : ∀ k, k < n → ρ k = k) (hle : n ≤ n2) (hv : u = Ab.ren ρ v) (hsv : sc (· < n2) v)
    (hH : ∀ k b, hget H2 k = some b → (hget H k = some b ∧ hget H1 k = some b) ∨ (n ≤ k ∧ k < n2 ∧ n ≤ ρ k ∧ hget H1 (ρ k) = some (renB ρ b) ∧ scB (· < n2) b ∧ carried b ∧ b.own = true))
    (hinj : ∀ j b k c, n ≤ j → n ≤ k → hget H2 j = some b → hget H2 k = some c → ρ j = ρ k → j = k) : AC P f args H n v H2 n2 := by
  intro p φ w hB hsc
  have key : ∀ φ' w', Dn P p φ n (hget H) w u n1 (hget H1) φ' w' → ∃ φ2, den φ' u = den φ2 v ∧ Dn P p φ n (hget H) w v n2 (hget H2) φ2 w' := by
    intro φ' w' hd
    obtain ⟨hsm, hscu, hst⟩ := hd
    let φ2 : Vl := ⟨fun k => if n ≤ k ∧ k < n2 then φ'.loc (ρ k) else φ.loc k, fun k => if n ≤ k ∧ k < n2 then φ'.cap (ρ k) else φ.cap k⟩
    have hoth : ∀ k, ¬ (n ≤ k ∧ k < n2) → φ2.loc k = φ.loc k ∧ φ2.cap k = φ.cap k := fun k hk => by simp only [φ2]; rw [if_neg hk, if_neg hk]; exact ⟨rfl, rfl⟩
    have hmid : ∀ k, n ≤ k ∧ k < n2 → φ2.loc k = φ'.loc (ρ k) ∧ φ2.cap k = φ'.cap (ρ k) := fun k hk => by simp only [φ2]; rw [if_pos hk, if_pos hk]; exact ⟨rfl, rfl⟩
    have hrn : Rn (Nx p n n2) ρ φ' φ2 := fun k hk => by
      rcases hk with hk | hk
      · have hk0 := hB.lt k hk
        rw [(hoth k (by omega)).1, (hoth k (by omega)).2, hlow k hk0, (hst.only k (.inl hk0)).1, (hst.only k (.inl hk0)).2]
        exact ⟨rfl, rfl⟩
      · exact hmid k hk
    have hnx : ∀ k, Nx p n n1 (ρ k) ∧ k < n2 → Nx p n n2 k := fun k hk => by
      by_cases h0 : k < n
      · have := hk.1
        rw [hlow k h0] at this
        rcases this with h1 | h1
        · exact .inl h1
        · omega
      · exact .inr ⟨by omega, hk.2⟩
    have hscv : sc (Nx p n n2) v := sc_mono hnx v (sc_ren v (hv ▸ hscu) hsv)
    have hagr : Agr p φ φ2 := fun k hk => hoth k (by have := hB.lt k hk; omega)
    have hagr' : Agr p φ' φ2 := fun k hk => by
      have h1 := hagr k hk
      have h2 := hst.only k (.inl (hB.lt k hk))
      exact ⟨h1.1.trans h2.1.symm, h1.2.trans h2.2.symm⟩
    have hone : ∀ k b, hget H2 k = some b → (∃ b', hget H1 (ρ k) = some b' ∧ b'.own = b.own) ∧ φ2.loc k = φ'.loc (ρ k) := fun k b hk => by
      rcases hH k b hk with ⟨h1, h2⟩ | ⟨h1, h2, h3, h4, h5, h6, h7⟩
      · have hp := (hB.sm k b h1).1
        have hk0 := hB.lt k hp
        rw [hlow k hk0]
        exact ⟨⟨b, h2, rfl⟩, (hagr' k hp).1⟩
      · exact ⟨⟨_, h4, renB_own _ _⟩, (hmid k ⟨h1, h2⟩).1⟩
    refine ⟨φ2, by rw [hv]; exact den_ren hrn v hscv, fun k b hk => ?_, hscv, hle, fun k hk => hoth k (by omega), ⟨fun k b hk => ?_, fun k b k' b' g1 g2 hne ho => ?_, fun g hg => ?_⟩, fun k b hk ho => ?_, fun k b hk ho => ?_, hst.frm⟩
    · rcases hH k b hk with ⟨h1, h2⟩ | ⟨h1, h2, h3, h4, h5, h6, h7⟩
      · exact ⟨.inl (hB.sm k b h1).1, scB_mono (fun _ h => .inl h) _ (hB.sm k b h1).2⟩
      · exact ⟨.inr ⟨h1, h2⟩, scB_mono hnx _ (scB_ren b h6 (hsm _ _ h4).2 h5)⟩
    · rw [(hone k b hk).2]
      rcases hH k b hk with ⟨h1, h2⟩ | ⟨h1, h2, h3, h4, h5, h6, h7⟩
      · have hp := hB.sm k b h1
        rw [hlow k (hB.lt k hp.1)]
        exact (hst.rel.blk k b h2).congr hagr' hp.1 hp.2
      · exact BRel.ren hrn (.inr ⟨h1, h2⟩) h6 (scB_mono hnx _ (scB_ren b h6 (hsm _ _ h4).2 h5)) (hst.rel.blk _ _ h4)
    · obtain ⟨⟨c, c1, c2⟩, c3⟩ := hone k b g1
      obtain ⟨⟨d, d1, d2⟩, d3⟩ := hone k' b' g2
      rw [c3, d3]
      refine hst.rel.apart _ _ _ _ c1 d1 (fun e => hne ?_) (c2.trans ho)
      rcases hH k b g1 with ⟨h1, _⟩ | ⟨h1, _, h3, _⟩ <;> rcases hH k' b' g2 with ⟨h1', _⟩ | ⟨h1', _, h3', _⟩
      · have hk0 := hB.lt k (hB.sm k b h1).1
        have hk1 := hB.lt k' (hB.sm k' b' h1').1
        rwa [hlow k hk0, hlow k' hk1] at e
      · have hk0 := hB.lt k (hB.sm k b h1).1
        rw [hlow k hk0] at e
        omega
      · have hk1 := hB.lt k' (hB.sm k' b' h1').1
        rw [hlow k' hk1] at e
        omega
      · exact hinj k b k' b' h1 h1' g1 g2 e
    · rw [(hoth g (by have := hB.gn; omega)).1]; exact hB.rel.glob g hg
    · obtain ⟨⟨c, c1, c2⟩, c3⟩ := hone k b hk
      rw [c3]
      exact hst.new _ _ c1 (c2.trans ho)
    · rcases hH k b hk with ⟨h1, _⟩ | ⟨_, _, _, _, _, _, h7⟩
      · exact h1
      · rw [h7] at ho; cases ho
  rcases h p φ w hB hsc with ⟨h1, h3⟩ | ⟨φ', w', h1, h3⟩
  · refine .inl ⟨h1, CallsIn.mono h3 fun e w' hh => ?_⟩
    obtain ⟨φ', he, hd⟩ := hh
    obtain ⟨φ2, e2, hd2⟩ := key φ' w' hd
    exact ⟨φ2, by rw [he, e2], hd2⟩
  · obtain ⟨φ2, e2, hd2⟩ := key φ' w' h3
    exact .inr ⟨φ2, w', by rw [h1, e2], hd2⟩
/-- behind the body: a result 'v' with new blocks 'B', whatever names they now have -/
def Fresh (n n2 : Nat) (H : Heap) (v : Value) (B : Heap) (u : Value) (H1 : Heap) : Prop :=
  ∃ ρ : Nat → Nat, (∀ k, k < n → ρ k = k) ∧ u = ren ρ v ∧ (∀ k b, hget B k = some b → n ≤ k ∧ k < n2 ∧ n ≤ ρ k ∧ hget H1 (ρ k) = some (renB ρ b) ∧ scB (· < n2) b ∧ carried b ∧ b.own = true) ∧
    (∀ j b k c, hget B j = some b → hget B k = some c → ρ j = ρ k → j = k) ∧ ∀ k b, hget H k = some b → hget H1 k = some b
theorem AC.fresh {P : Program} {f : FuncId} {fn : Func} {c : Code} {args : List Value} {H B : Heap} {n n2 : Nat} {v : Value} (hf : P.funcs[f]? = some fn) (hb : fn.body = some c) (he : enterable P f = true) (hlen : Nat.ble args.length fn.ntmps = true) (vs : List Nat) (hle : n ≤ n2) (hsv : sc (· < n2) v) (hnf : ∀ ρ, af (Ab.ren ρ v) = false)
    (h : E P n none c { fr := argsFr args 0, sz := fn.ntmps, H, n, marks := [], vs } (outK P fn (Fresh n n2 H v B))) : AC P f args H n v (B ++ H) n2 := by
  refine AC.given fun hlt _ _ => ?_
  obtain ⟨u, H1, n1, H3, hAC, ⟨ρ, h1, h2, h3, h4, h5⟩, hh⟩ := AC.out hf hb he hlen vs h
  obtain rfl := hh (by rw [h2]; exact hnf ρ)
  have happ : ∀ k b, hget (B ++ H) k = some b → hget B k = some b ∨ (hget B k = none ∧ hget H k = some b) := by
    clear h3 h4 h
    induction B with
    | nil => intro k b hk; exact .inr ⟨rfl, hk⟩
    | cons x B ih =>
      intro k b hk
      obtain ⟨j, y⟩ := x
      rw [List.cons_append, hget_cons] at hk
      rw [hget_cons]
      by_cases e : j = k
      · rw [if_pos e] at hk ⊢; exact .inl hk
      · rw [if_neg e] at hk ⊢; exact ih k b hk
  refine hAC.ren ρ h1 hle h2 hsv (fun k b hk => ?_) fun j b k c hj hk hb hc e => ?_
  · rcases happ k b hk with h | ⟨_, h⟩
    · exact .inr (h3 k b h)
    · exact .inl ⟨h, h5 k b h⟩
  · rcases happ j b hb with g | ⟨_, g⟩
    · rcases happ k c hc with g' | ⟨_, g'⟩
      · exact h4 j b k c g g' e
      · have := (hlt k c g').1
        omega
    · have := (hlt j b g).1
      omega
/-! ### loops at any heap -/
/-- names above 'n0' put anew; the heap below is carried along as it is -/
theorem Leads.renR {P : Program} {n0 : Nat} {s s2 : St} {A H : Heap} (ρ : Nat → Nat) (hs2 : s2.H = A ++ H) (hold : ∀ k b, hget H k = some b → k < n0 ∧ scB (· < n0) b) (hkeep : ∀ k b, hget H k = some b → hget s.H k = some b) (hlow : ∀ k, k < n0 → ρ k = k) (hle : n0 ≤ s2.n) (hz : s2.sz = s.sz) (hm : s.marks = [] ∧ s2.marks = [])
    (hf : ∀ t v, lk s2.fr t = some v → (lk s.fr t = some v ∧ sc (· < n0) v) ∨ (lk s.fr t = some (Ab.ren ρ v) ∧ sc (· < s2.n) v))
    (hA : ∀ x ∈ A, n0 ≤ x.1 ∧ x.1 < s2.n ∧ n0 ≤ ρ x.1 ∧ hget s.H (ρ x.1) = some (renB ρ x.2) ∧ scB (· < s2.n) x.2 ∧ carried x.2 ∧ x.2.own = true) (hinj : ∀ x ∈ A, ∀ y ∈ A, ρ x.1 = ρ y.1 → x.1 = y.1) : Leads P n0 s s2 := by
  intro p φ M w0 hg hp a w φ1 hS hs
  let φ2 : Vl := ⟨fun k => if n0 ≤ k ∧ k < s2.n then φ1.loc (ρ k) else φ.loc k, fun k => if n0 ≤ k ∧ k < s2.n then φ1.cap (ρ k) else φ.cap k⟩
  have hl2 : ∀ k, k < n0 → φ2.loc k = φ.loc k ∧ φ2.cap k = φ.cap k := fun k hk => by simp only [φ2]; rw [if_neg (by omega), if_neg (by omega)]; exact ⟨rfl, rfl⟩
  have hmid : ∀ k, n0 ≤ k → k < s2.n → φ2.loc k = φ1.loc (ρ k) ∧ φ2.cap k = φ1.cap (ρ k) := fun k h1 h2 => by simp only [φ2]; rw [if_pos ⟨h1, h2⟩, if_pos ⟨h1, h2⟩]; exact ⟨rfl, rfl⟩
  have hrn : Rn (Nx p n0 s2.n) ρ φ1 φ2 := fun k hk => by
    rcases hk with hk | hk
    · have hk0 := hp k hk
      rw [(hl2 k hk0).1, (hl2 k hk0).2, hlow k hk0, (hs.only k (.inl hk0)).1, (hs.only k (.inl hk0)).2]
      exact ⟨rfl, rfl⟩
    · exact hmid k hk.1 hk.2
  have hnx : ∀ k, Nx p n0 s.n (ρ k) ∧ k < s2.n → Nx p n0 s2.n k := fun k hk => by
    by_cases h0 : k < n0
    · have := hk.1
      rw [hlow k h0] at this
      rcases this with h1 | h1
      · exact .inl h1
      · omega
    · exact .inr ⟨by omega, hk.2⟩
  have hpl : ∀ k, Nx p n0 s.n k ∧ k < n0 → p k := fun k hk => by
    rcases hk.1 with h1 | h1
    · exact h1
    · omega
  have hagr : Agr p φ1 φ2 := fun k hk => by
    have hk0 := hp k hk
    rw [(hl2 k hk0).1, (hl2 k hk0).2, (hs.only k (.inl hk0)).1, (hs.only k (.inl hk0)).2]
    exact ⟨rfl, rfl⟩
  have hM : ∀ k b, hget s2.H k = some b → ((k, b) ∈ A) ∨ hget H k = some b := by
    rw [hs2]
    clear hA hs2 hinj
    induction A with
    | nil => intro k b hk; exact .inr hk
    | cons x A ih =>
      intro k b hk
      obtain ⟨j, y⟩ := x
      rw [List.cons_append, hget_cons] at hk
      by_cases e : j = k
      · rw [if_pos e] at hk; injection hk with hk; subst e hk; exact .inl (List.mem_cons_self ..)
      · rw [if_neg e] at hk
        rcases ih k b hk with h | h
        · exact .inl (List.mem_cons_of_mem _ h)
        · exact .inr h
  have old : ∀ k b, hget H k = some b → p k ∧ scB p b ∧ hget s.H k = some b ∧ k < n0 := fun k b hk => by
    obtain ⟨h1, h2⟩ := hold k b hk
    have h3 := hkeep k b hk
    have h4 := hS.base.sm k b h3
    exact ⟨hpl k ⟨h4.1, h1⟩, scB_mono hpl _ (scB_and b h4.2 h2), h3, h1⟩
  have hone : ∀ k b, hget s2.H k = some b → Nx p n0 s2.n k ∧ scB (Nx p n0 s2.n) b ∧ (∃ b', hget s.H (ρ k) = some b' ∧ b'.own = b.own) ∧ φ2.loc k = φ1.loc (ρ k) ∧ BRel P φ2 k b w.heap[φ1.loc (ρ k)]? := fun k b hk => by
    rcases hM k b hk with h | h
    · obtain ⟨h1, h2, _, h3, h4, h5, h6⟩ := hA (k, b) h
      have hn' : Nx p n0 s2.n k := .inr ⟨h1, h2⟩
      have hsc := scB_mono hnx _ (scB_ren b h5 (hS.base.sm _ _ h3).2 h4)
      exact ⟨hn', hsc, ⟨_, h3, renB_own _ _⟩, (hrn k hn').1, BRel.ren hrn hn' h5 hsc (hS.base.rel.blk _ _ h3)⟩
    · obtain ⟨h1, h2, h3, h4⟩ := old k b h
      have e : ρ k = k := hlow k h4
      rw [e]
      exact ⟨.inl h1, scB_mono (fun _ h => .inl h) _ h2, ⟨b, h3, rfl⟩, (hagr k h1).1, (hS.base.rel.blk k b h3).congr hagr h1 h2⟩
  have hlt : ∀ k, Nx p n0 s2.n k → k < s2.n := fun k hk => Nx.lt hp hle hk
  have hrinj : ∀ k b k' b', hget s2.H k = some b → hget s2.H k' = some b' → ρ k = ρ k' → k = k' := fun k b k' b' g1 g2 e => by
    rcases hM k b g1 with h | h <;> rcases hM k' b' g2 with h' | h'
    · exact hinj (k, b) h (k', b') h' e
    · have h1 := (hA (k, b) h).2.2.1
      have h3 := (old k' b' h').2.2.2
      rw [hlow k' h3] at e
      dsimp only at h1
      omega
    · have h1 := (hA (k', b') h').2.2.1
      have h3 := (old k b h).2.2.2
      rw [hlow k h3] at e
      dsimp only at h1
      omega
    · have h3 := (old k b h).2.2.2
      have h4 := (old k' b' h').2.2.2
      rwa [hlow k h3, hlow k' h4] at e
  have hrel : HRel P φ2 (hget s2.H) w := by
    refine ⟨fun k b hk => ?_, fun k b k' b' h1 h2 hne ho => ?_, fun g hg' => ?_⟩
    · obtain ⟨_, _, _, h4, h5⟩ := hone k b hk
      rw [h4]; exact h5
    · obtain ⟨_, _, ⟨c, c1, c2⟩, c3, _⟩ := hone k b h1
      obtain ⟨_, _, ⟨d, d1, _⟩, d3, _⟩ := hone k' b' h2
      rw [c3, d3]
      exact hS.base.rel.apart _ _ _ _ c1 d1 (fun e => hne (hrinj k b k' b' h1 h2 e)) (c2.trans ho)
    · have := hp g (hg g hg')
      rw [(hl2 g this).1, ← (hs.only g (.inl this)).1]
      exact hS.base.rel.glob g hg'
  have hfr : ∀ t v, lk s2.fr t = some v → ∃ u, lk s.fr t = some u ∧ den φ1 u = den φ2 v ∧ sc (Nx p n0 s2.n) v := fun t v hv => by
    rcases hf t v hv with ⟨h1, h2⟩ | ⟨h1, h2⟩
    · have hsf := hS.base.sf t _ h1
      have hsp : sc p v := sc_mono hpl v (sc_and v hsf h2)
      exact ⟨v, h1, (den_congr hagr v hsp).symm, sc_mono (fun _ h => .inl h) v hsp⟩
    · have hsf := hS.base.sf t _ h1
      have hsv : sc (Nx p n0 s2.n) v := sc_mono hnx v (sc_ren v hsf h2)
      exact ⟨_, h1, den_ren hrn v hsv, hsv⟩
  refine ⟨φ2, ⟨⟨hrel, hlt, fun g hg' => .inl (hg g hg'), ?_, fun k b hk => ⟨(hone k b hk).1, (hone k b hk).2.1⟩, fun t v hv => ?_, fun t v hv => ?_⟩, ?_, ?_, ?_⟩, hle, fun k hk => ?_, hrel, fun k b hk ho => ?_, fun k b hk ho => ?_, hs.frm⟩
  · refine Nat.le_of_not_lt fun hc => ?_
    have := hp _ (hg _ hc)
    omega
  · obtain ⟨u, h1, h2, _⟩ := hfr t v hv
    rw [hS.base.ar t _ h1, h2]
  · exact (hfr t v hv).choose_spec.2.2
  · rw [hz]; exact hS.size
  · rw [hm.2, hS.defs, hm.1]; rfl
  · rw [hm.2]; simp
  · rcases hk with hk | hk
    · exact hl2 k hk
    · simp only [φ2]; rw [if_neg (by omega), if_neg (by omega)]; exact ⟨rfl, rfl⟩
  · obtain ⟨_, _, ⟨c, c1, c2⟩, c3, _⟩ := hone k b hk
    rw [c3]
    exact hs.new _ _ c1 (c2.trans ho)
  · rcases hM k b hk with h | h
    · rw [(hA (k, b) h).2.2.2.2.2.2] at ho; cases ho
    · exact hs.inp k b (hkeep k b h) ho
/-- the same by a list of names -/
theorem Leads.renN {P : Program} {n0 : Nat} {s s2 : St} {A H : Heap} (olds : List Nat) (hs2 : s2.H = A ++ H) (hold : ∀ k b, hget H k = some b → k < n0 ∧ scB (· < n0) b) (hkeep : ∀ k b, hget H k = some b → hget s.H k = some b) (ho : oldsOk n0 s.n olds = true) (hn : s2.n = n0 + olds.length) (hz : s2.sz = s.sz) (hm : s.marks = [] ∧ s2.marks = [])
    (hf : ∀ x ∈ s2.fr, (lk s.fr x.1 = some x.2 ∧ sc (· < n0) x.2) ∨ (lk s.fr x.1 = some (Ab.ren (rnm n0 olds) x.2) ∧ sc (· < s2.n) x.2))
    (hA : ∀ x ∈ A, n0 ≤ x.1 ∧ x.1 < s2.n ∧ hget s.H (rnm n0 olds x.1) = some (renB (rnm n0 olds) x.2) ∧ scB (· < s2.n) x.2 ∧ carried x.2 ∧ x.2.own = true) : Leads P n0 s s2 := by
  obtain ⟨hk, hd⟩ := oldsOk_spec olds ho
  have hlow : ∀ k, k < n0 → rnm n0 olds k = k := fun k h => by unfold rnm; rw [if_pos h]
  have hget' : ∀ k, n0 ≤ k → k < s2.n → ∃ h : k - n0 < olds.length, rnm n0 olds k = olds[k - n0] := fun k h1 h2 => by
    refine ⟨by omega, ?_⟩
    unfold rnm
    rw [if_neg (by omega), List.getD_eq_getElem?_getD, List.getElem?_eq_getElem (by omega)]
    rfl
  have hhigh : ∀ k, n0 ≤ k → k < s2.n → n0 ≤ rnm n0 olds k ∧ rnm n0 olds k < s.n := fun k h1 h2 => by
    obtain ⟨h, e⟩ := hget' k h1 h2
    rw [e]; exact hk _ (List.getElem_mem h)
  have hinj : ∀ j k, n0 ≤ j → j < s2.n → n0 ≤ k → k < s2.n → rnm n0 olds j = rnm n0 olds k → j = k := fun j k a1 a2 b1 b2 he => by
    obtain ⟨h, e⟩ := hget' j a1 a2
    obtain ⟨h', e'⟩ := hget' k b1 b2
    rw [e, e'] at he
    have hne : ∀ (x y : Nat) (hx : x < olds.length) (hy : y < olds.length), x < y → olds[x] ≠ olds[y] := fun x y hx hy hlt => List.pairwise_iff_getElem.1 hd x y hx hy hlt
    rcases Nat.lt_trichotomy (j - n0) (k - n0) with hlt | heq | hlt
    · exact absurd he (hne _ _ _ _ hlt)
    · omega
    · exact absurd he.symm (hne _ _ _ _ hlt)
  refine Leads.renR (rnm n0 olds) hs2 hold hkeep hlow (by omega) hz hm (fun t v hv => hf (t, v) (lk_mem _ _ _ hv)) (fun x hx => ?_) fun x hx y hy e => ?_
  · obtain ⟨h1, h2, h3, h4, h5, h6⟩ := hA x hx
    exact ⟨h1, h2, (hhigh _ h1 h2).1, h3, h4, h5, h6⟩
  · obtain ⟨h1, h2, _⟩ := hA x hx
    obtain ⟨h1', h2', _⟩ := hA y hy
    exact hinj _ _ h1 h2 h1' h2' e
end Go.Ab

/-
What an unnamed heap is known to hold: cells, rows; the same with blocks above it, and frozen. Regions of open order over it.
-/
namespace Go.Ab
open Go
/-! ### cells of a heap with blocks above -/
def cellB (o : Nat) : Blk → Option Value
  | .cells cs _ => cs[o]?
  | .ext cs _ _ => cs[o]?
  | .row cs _ => cs[o]?
  | .inp o' cs => if o' ≤ o then cs[o - o']? else none
  | _ => none
theorem cellA_eq (H : Heap) (k o : Nat) : cellA H k o = (hget H k).bind (cellB o) := by
  unfold cellA
  cases hget H k with
  | none => rfl
  | some b => cases b <;> rfl
theorem cellA_cons {H : Heap} {j k o : Nat} {b : Blk} : cellA ((j, b) :: H) k o = if j = k then cellB o b else cellA H k o := by
  rw [cellA_eq, hget_cons]
  by_cases h : j = k
  · rw [if_pos h, if_pos h]; rfl
  · rw [if_neg h, if_neg h, cellA_eq]
def cellsB (o n : Nat) : Blk → Option (List Value)
  | .cells cs _ => if o + n ≤ cs.length then some ((cs.drop o).take n) else none
  | .ext cs _ _ => if o + n ≤ cs.length then some ((cs.drop o).take n) else none
  | .row cs _ => if o + n ≤ cs.length then some ((cs.drop o).take n) else none
  | .inp o' cs => if o' ≤ o ∧ o - o' + n ≤ cs.length then some ((cs.drop (o - o')).take n) else none
  | _ => none
theorem cellsA_eq (H : Heap) (k o n : Nat) : cellsA H k o n = (hget H k).bind (cellsB o n) := by
  unfold cellsA
  cases hget H k with
  | none => rfl
  | some b => cases b <;> rfl
theorem cellsA_cons {H : Heap} {j k o n : Nat} {b : Blk} : cellsA ((j, b) :: H) k o n = if j = k then cellsB o n b else cellsA H k o n := by
  rw [cellsA_eq, hget_cons]
  by_cases h : j = k
  · rw [if_pos h, if_pos h]; rfl
  · rw [if_neg h, if_neg h, cellsA_eq]
theorem cellsA_cell {H : Heap} {k o n : Nat} {cs : List Value} (h : cellsA H k o n = some cs) {i : Nat} (hi : i < n) : cellA H k (o + i) = cs[i]? ∧ cs.length = n := by
  rw [cellsA_eq] at h
  rw [cellA_eq]
  cases hb : hget H k with
  | none => rw [hb] at h; cases h
  | some b =>
    rw [hb] at h
    simp only [Option.bind_some] at h ⊢
    cases b <;> simp only [cellsB, cellB] at h ⊢
    all_goals first
      | (split at h
         · rename_i hc
           injection h with h; subst h
           refine ⟨?_, by simp; omega⟩
           first
             | (rw [if_pos (by omega), List.getElem?_take, if_pos hi, List.getElem?_drop]; congr 1; omega)
             | (rw [List.getElem?_take, if_pos hi, List.getElem?_drop])
         · cases h)
      | cases h
theorem cellA_lt {H : Heap} {n k o : Nat} {v : Value} (hl : ∀ k b, hget H k = some b → k < n) (h : cellA H k o = some v) : k < n := by
  rw [cellA_eq] at h
  cases hb : hget H k with
  | none => rw [hb] at h; cases h
  | some b => exact hl k b hb
theorem cellsA_lt {H : Heap} {n k o m : Nat} {v : List Value} (hl : ∀ k b, hget H k = some b → k < n) (h : cellsA H k o m = some v) : k < n := by
  rw [cellsA_eq] at h
  cases hb : hget H k with
  | none => rw [hb] at h; cases h
  | some b => exact hl k b hb
/-- a name below is none of the new ones -/
theorem old_ne {n k : Nat} (h : k < n) : (n = k) = False ∧ ∀ c, (n + c = k) = False := ⟨eq_false (by omega), fun c => eq_false (by omega)⟩
/-! ### the same blocks, and more -/
def Sub (H H' : Heap) : Prop := ∀ k b, hget H k = some b → hget H' k = some b
theorem Sub.refl (H : Heap) : Sub H H := fun _ _ h => h
theorem Sub.cons {H H' : Heap} {j : Nat} {b : Blk} (hj : hget H j = none) (h : Sub H H') : Sub H ((j, b) :: H') := fun k c hk => by
  rw [hget_cons, if_neg]
  · exact h k c hk
  · intro e; subst e; rw [hj] at hk; cases hk
theorem Sub.app {H H' A : Heap} (hA : ∀ x ∈ A, hget H x.1 = none) (h : Sub H H') : Sub H (A ++ H') := by
  induction A with
  | nil => exact h
  | cons x A ih => exact Sub.cons (hA x (List.mem_cons_self ..)) (ih fun y hy => hA y (List.mem_cons_of_mem _ hy))
theorem Sub.trans {H H1 H2 : Heap} (h1 : Sub H H1) (h2 : Sub H1 H2) : Sub H H2 := fun k b h => h2 k b (h1 k b h)
theorem Sub.cell {H H' : Heap} (h : Sub H H') {k o : Nat} {v : Value} (hc : cellA H k o = some v) : cellA H' k o = some v := by
  rw [cellA_eq] at hc ⊢
  cases hb : hget H k with
  | none => rw [hb] at hc; cases hc
  | some b => rw [hb] at hc; rw [h k b hb]; exact hc
theorem Sub.cells {H H' : Heap} (h : Sub H H') {k o n : Nat} {v : List Value} (hc : cellsA H k o n = some v) : cellsA H' k o n = some v := by
  rw [cellsA_eq] at hc ⊢
  cases hb : hget H k with
  | none => rw [hb] at hc; cases hc
  | some b => rw [hb] at hc; rw [h k b hb]; exact hc
theorem no_new {H : Heap} {n : Nat} (hl : ∀ k b, hget H k = some b → k < n) : hget H n = none ∧ ∀ c, hget H (n + c) = none := by
  have go : ∀ c, hget H (n + c) = none := fun c => by
    cases hb : hget H (n + c) with
    | none => rfl
    | some b => have := hl _ _ hb; omega
  exact ⟨go 0, go⟩
/-! ### the plain part of a heap, in order -/
def plainB2 : Blk → Bool
  | .cells _ _ | .ext _ _ _ | .inp _ _ | .row _ _ | .tab _ => true
  | _ => false
def plainH : Heap → Bool
  | [] => true
  | (_, b) :: H => plainB2 b && plainH H
def tidyL (H : Heap) (n : Nat) : List Nat → Heap
  | [] => []
  | k :: ks => match hget H k with
    | some b => if k < n ∧ plainB2 b = true then (k, b) :: tidyL H n ks else tidyL H n ks
    | none => tidyL H n ks
/-- the plain blocks below 'n' -/
def tidy (n : Nat) (H : Heap) : Heap := tidyL H n (H.map (·.1))
theorem hget_tidyL {H : Heap} {n : Nat} : ∀ (ks : List Nat) (k : Nat) (b : Blk), hget (tidyL H n ks) k = some b ↔ k ∈ ks ∧ hget H k = some b ∧ k < n ∧ plainB2 b = true
  | [], k, b => by simp [tidyL]
  | j :: ks, k, b => by
    have ih := hget_tidyL (H := H) (n := n) ks k b
    unfold tidyL
    cases hj : hget H j with
    | none =>
      simp only
      rw [ih]
      constructor
      · rintro ⟨h1, h2⟩; exact ⟨List.mem_cons_of_mem _ h1, h2⟩
      · rintro ⟨h1, h2, h3⟩
        rcases List.mem_cons.1 h1 with rfl | h1
        · rw [hj] at h2; cases h2
        · exact ⟨h1, h2, h3⟩
    | some c =>
      simp only
      by_cases hc : j < n ∧ plainB2 c = true
      · rw [if_pos hc, hget_cons]
        by_cases e : j = k
        · subst e
          rw [if_pos rfl]
          constructor
          · intro h; injection h with h; subst h; exact ⟨List.mem_cons_self .., hj, hc⟩
          · rintro ⟨_, h2, _⟩; rw [hj] at h2; exact h2
        · rw [if_neg e, ih]
          constructor
          · rintro ⟨h1, h2⟩; exact ⟨List.mem_cons_of_mem _ h1, h2⟩
          · rintro ⟨h1, h2⟩
            rcases List.mem_cons.1 h1 with rfl | h1
            · exact absurd rfl e
            · exact ⟨h1, h2⟩
      · rw [if_neg hc, ih]
        constructor
        · rintro ⟨h1, h2⟩; exact ⟨List.mem_cons_of_mem _ h1, h2⟩
        · rintro ⟨h1, h2, h3⟩
          rcases List.mem_cons.1 h1 with rfl | h1
          · rw [hj] at h2; injection h2 with h2; subst h2; exact absurd h3 hc
          · exact ⟨h1, h2, h3⟩
theorem hget_tidy {H : Heap} {n k : Nat} {b : Blk} : hget (tidy n H) k = some b ↔ hget H k = some b ∧ k < n ∧ plainB2 b = true := by
  rw [tidy, hget_tidyL]
  constructor
  · exact fun h => h.2
  · exact fun h => ⟨List.mem_map.2 ⟨(k, b), hget_mem _ _ _ h.1, rfl⟩, h⟩
theorem namesOk_tidyL {H : Heap} {n : Nat} : ∀ (ks : List Nat), namesOk n (tidyL H n ks) = true ∧ plainH (tidyL H n ks) = true
  | [] => ⟨rfl, rfl⟩
  | k :: ks => by
    have ih := namesOk_tidyL (H := H) (n := n) ks
    unfold tidyL
    cases hget H k with
    | none => exact ih
    | some b =>
      simp only
      split
      · rename_i hc
        refine ⟨?_, by simp [plainH, hc.2, ih.2]⟩
        simp only [namesOk]
        rw [(blt_iff _ _).2 hc.1]
        exact ih.1
      · exact ih
theorem namesOk_mono {m n : Nat} (h : n ≤ m) : ∀ H : Heap, namesOk n H = true → namesOk m H = true
  | [], _ => rfl
  | (k, b) :: H, hk => by
    simp only [namesOk] at hk ⊢
    split at hk
    · rename_i hb
      have := (blt_iff _ _).1 hb
      rw [(blt_iff _ _).2 (by omega : k < m)]
      exact namesOk_mono h H hk
    · cases hk
/-- for a contract that looks at plain blocks alone: names in order, plain kinds -/
theorem AC.tidied {P : Program} {f : FuncId} {args : List Value} {H B : Heap} {n : Nat} {v : Value} {n' : Nat} (hB : ∀ x ∈ B, n ≤ x.1) (h : AC P f args (Ab.tidy n H) n v (B ++ Ab.tidy n H) n') : AC P f args H n v (B ++ H) n' := by
  refine AC.given fun hlt _ _ => ?_
  refine h.frame (fun k b hk => (hget_tidy.1 hk).1) fun k b hk => ?_
  have go : ∀ (B : Heap), (∀ x ∈ B, n ≤ x.1) → hget (B ++ H) k = some b → hget (B ++ Ab.tidy n H) k = some b ∨ (hget H k = some b ∧ hget (Ab.tidy n H) k = none) := by
    intro B
    induction B with
    | nil =>
      intro _ hk
      cases ht : hget (Ab.tidy n H) k with
      | none => exact .inr ⟨hk, rfl⟩
      | some c =>
        have h1 := (hget_tidy.1 ht).1
        rw [show hget H k = some b from hk] at h1
        injection h1 with h1; subst h1
        exact .inl ht
    | cons x B ih =>
      intro hB hk
      obtain ⟨j, y⟩ := x
      rw [List.cons_append, hget_cons] at hk ⊢
      by_cases e : j = k
      · rw [if_pos e] at hk ⊢; exact .inl hk
      · rw [if_neg e] at hk ⊢
        exact ih (fun x hx => hB x (List.mem_cons_of_mem _ hx)) hk
  exact go B hB hk
theorem cellsA_tidy {H : Heap} {n k o m : Nat} (hl : ∀ k b, hget H k = some b → k < n) {cs : List Value} (h : cellsA H k o m = some cs) : cellsA (tidy n H) k o m = some cs := by
  rw [cellsA_eq] at h ⊢
  cases hb : hget H k with
  | none => rw [hb] at h; cases h
  | some b =>
    rw [hb] at h
    have hp : plainB2 b = true := by
      cases b <;> first | rfl | cases h
    rw [hget_tidy.2 ⟨hb, hl k b hb, hp⟩]
    exact h
/-! ### frozen -/
def frz : Blk → Blk
  | .cells cs _ => .inp 0 cs
  | .ext cs _ sz => .row cs sz
  | b => b
def frzH : Heap → Heap
  | [] => []
  | (k, b) :: H => (k, frz b) :: frzH H
theorem hget_frz : ∀ (H : Heap) (k : Nat), hget (frzH H) k = (hget H k).map frz
  | [], _ => rfl
  | (j, b) :: H, k => by
    rw [frzH, hget_cons, hget_cons, hget_frz H k]
    by_cases h : j = k
    · rw [if_pos h, if_pos h]; rfl
    · rw [if_neg h, if_neg h]
theorem cellsA_frz (H : Heap) (k o n : Nat) : cellsA (frzH H) k o n = cellsA H k o n := by
  rw [cellsA_eq, cellsA_eq, hget_frz]
  cases hget H k with
  | none => rfl
  | some b => cases b <;> simp [frz, cellsB]
theorem cellA_frz (H : Heap) (k o : Nat) : cellA (frzH H) k o = cellA H k o := by
  rw [cellA_eq, cellA_eq, hget_frz]
  cases hget H k with
  | none => rfl
  | some b => cases b <;> simp [frz, cellB]
theorem rowOf_frz (H : Heap) (k : Nat) : rowOf (frzH H) k = rowOf H k := by
  unfold rowOf
  rw [hget_frz]
  cases hget H k with
  | none => rfl
  | some b => cases b <;> rfl
theorem handA_frz : ∀ (H : Heap) (L : List Nat), (∀ x ∈ H, memN L x.1 = true) → plainH H = true → handA L [] H = frzH H
  | [], _, _, _ => rfl
  | (k, b) :: H, L, hL, hp => by
    simp only [plainH, Bool.and_eq_true] at hp
    have ih := handA_frz H L (fun x hx => hL x (List.mem_cons_of_mem _ hx)) hp.2
    have hk := hL (k, b) (List.mem_cons_self ..)
    have hp1 := hp.1
    cases b <;> first | (simp only [handA, memN, hk, ih, frzH, frz]; done) | cases hp1
theorem dnames_plain : ∀ (H : Heap), plainH H = true → dnames H = H.map (·.1)
  | [], _ => rfl
  | (k, b) :: H, hp => by
    simp only [plainH, Bool.and_eq_true] at hp
    have ih := dnames_plain H hp.2
    have hp1 := hp.1
    cases b <;> first | (simp only [dnames, ih, List.map_cons]; done) | cases hp1
theorem handA_dnames {H : Heap} (h : plainH H = true) : handA (dnames H) [] H = frzH H :=
  handA_frz H _ (fun x hx => (memN_iff _ _).2 (by rw [dnames_plain H h]; exact List.mem_map_of_mem hx)) h
theorem takeNew_frz {H : Heap} {n : Nat} (h : namesOk n H = true) : takeNew n (frzH H) = [] := by
  cases H with
  | nil => rfl
  | cons x H =>
    obtain ⟨k, b⟩ := x
    have := namesOk_mem _ _ h (k, b) (List.mem_cons_self ..)
    rw [frzH, takeNew, ble_dec]
    rw [decide_eq_false (by omega)]
/-! ### regions of open order, calls at the frozen heap -/
def handU (P : Program) (r : Rec) (mk : List Nat) (i : Nat) (o : Oper) (fr : Fr) (st : St) : Option St :=
  match runOp P r o { st with fr := fr, H := frzH st.H } with
  | some (v, H, k) => match Nat.ble st.n k && namesOk k (takeNew st.n H) && (Nat.beq k st.n || memN mk i) with
    | true => some { st with fr := putA st.fr o.dst v, H := takeNew st.n H ++ st.H, n := k }
    | false => none
  | none => none
def doneU (P : Program) (r : Rec) (al mk late : List Nat) (n0 i : Nat) (o : Oper) (fr : Fr) (st : St) : Option St :=
  match isPure o.op with
  | true => pureS P o fr st
  | false => match isRead o.op with
    | true => match footA P fr o.op with
      | some f => readT P late n0 i o fr st f.see
      | none => none
    | false => match memN al i with
      | true => aloneT P r mk i o fr st
      | false => match footA P fr o.op with
        | some f => match f.put.isEmpty && visT late n0 i st.n f.see with
          | true => handT P r mk i o f.see fr st
          | false => none
        | none => match memN late i && plainH st.H with
          | true => handU P r mk i o fr st
          | false => none
def oneU (P : Program) (r : Rec) (ops : Array Oper) (al mk late : List Nat) (n0 i : Nat) (o : Oper) (st : St) : Option St :=
  match dstOk st.sz o.dst with
  | false => none
  | true => match wantedA ops (trim (lookTmps ops o) st.fr) o with
    | none => none
    | some false => some { st with fr := putA st.fr o.dst undefV }
    | some true => doneU P r al mk late n0 i o (trim (lookTmps ops o) st.fr) st
def opsU (P : Program) (r : Rec) (ops : Array Oper) (al mk late : List Nat) (n0 : Nat) : List Oper → Nat → St → Option St
  | [], _, st => some st
  | o :: os, i, st => match oneU P r ops al mk late n0 i o st with
    | some st' => opsU P r ops al mk late n0 os (i + 1) st'
    | none => none
def runU (P : Program) (r : Rec) (ops : Array Oper) (al mk late : List Nat) (st : St) : Option St :=
  match namesOk st.n st.H with
  | true => opsU P r ops al mk late st.n ops.toList 0 st
  | false => none
theorem opsU_ok {P : Program} {r : Rec} {ops : Array Oper} {al mk late : List Nat} {n0 : Nat} : ∀ (os : List Oper) (i : Nat) (st st' : St), opsU P r ops al mk late n0 os i st = some st' → opsT P r ops al mk late n0 os i st = some st'
  | [], _, _, _, h => h
  | o :: os, i, st, st', h => by
    simp only [opsU] at h
    split at h
    · rename_i st1 h1
      have key : oneT P r ops al mk late n0 i o st = some st1 := by
        unfold oneU at h1
        unfold oneT
        split at h1
        · cases h1
        · rename_i hd
          rw [hd]
          simp only
          split at h1
          · cases h1
          · rename_i hw; rw [hw]; exact h1
          · rename_i hw
            rw [hw]
            simp only
            unfold doneU at h1
            unfold doneT
            split at h1
            · rename_i hp; rw [hp]; exact h1
            · rename_i hp
              rw [hp]
              simp only
              split at h1
              · rename_i hrd; rw [hrd]; exact h1
              · rename_i hrd
                rw [hrd]
                simp only
                split at h1
                · rename_i hm; rw [hm]; exact h1
                · rename_i hm
                  rw [hm]
                  simp only
                  split at h1
                  · rename_i f hf; rw [hf]; exact h1
                  · rename_i hf
                    rw [hf]
                    simp only
                    split at h1
                    · rename_i hc
                      rw [Bool.and_eq_true] at hc
                      rw [hc.1]
                      simp only
                      unfold handT
                      rw [handA_dnames hc.2]
                      exact h1
                    · cases h1
      simp only [opsT, key]
      exact opsU_ok os (i + 1) st1 st' h
    · cases h
section
variable {P : Program} {n0 : Nat} {ro : Option Nat} {st st' : St} {K : Ex → St → Prop} {r : Rec} {m : Nat}
theorem E.drawU (hm : P.follows .mixedOrders = true) (hr : RecOk P r m) (al mk late : List Nat) {id : Nat} {ops : Array Oper} (hd : drawT ops (Region.before ops) al mk late = true) (h : runU P r ops al mk late st = some st') (k : K .normal st') : E P n0 ro (.region id ops true) st K := by
  refine E.drawC hm hr al mk late hd ?_ k
  unfold runU at h
  unfold runT
  split at h
  · rename_i hn; rw [hn]; exact opsU_ok _ _ _ _ h
  · cases h
end
attribute [simp] runU opsU oneU doneU handU frz frzH plainH plainB2 cellB cellsB
end Go.Ab

/-
Regions whose order is open, where an operation also writes blocks that this region has laid.
-/
namespace Go.Ab
open Go
def handX (P : Program) (r : Rec) (mk : List Nat) (i : Nat) (o : Oper) (see put : List Nat) (fr : Fr) (st : St) : Option St :=
  match runOp P r o { st with fr := fr, H := handA see put st.H } with
  | some (v, H, k) => match Nat.ble st.n k && namesOk k (takeNew st.n H) && (Nat.beq k st.n || memN mk i) with
    | true => some { st with fr := putA st.fr o.dst v, H := takeNew st.n H ++ backA put H st.H, n := k }
    | false => none
  | none => none
def doneX (P : Program) (r : Rec) (al mk late pt : List Nat) (n0 i : Nat) (o : Oper) (fr : Fr) (st : St) : Option St :=
  match isPure o.op with
  | true => pureS P o fr st
  | false => match isRead o.op with
    | true => match footA P fr o.op with
      | some f => readT P late n0 i o fr st f.see
      | none => none
    | false => match memN al i with
      | true => aloneT P r mk i o fr st
      | false => match footA P fr o.op with
        | some f => match f.put.isEmpty && visT late n0 i st.n f.see with
          | true => handT P r mk i o f.see fr st
          | false => match memN pt i && f.put.all (Nat.ble n0 ·) && f.put.all (memN f.see) && memN late i && f.see.all (Nat.blt · st.n) with
            | true => handX P r mk i o f.see f.put fr st
            | false => none
        | none => match memN late i && plainH st.H with
          | true => handU P r mk i o fr st
          | false => none
def oneX (P : Program) (r : Rec) (ops : Array Oper) (al mk late pt : List Nat) (n0 i : Nat) (o : Oper) (st : St) : Option St :=
  match dstOk st.sz o.dst with
  | false => none
  | true => match wantedA ops (trim (lookTmps ops o) st.fr) o with
    | none => none
    | some false => some { st with fr := putA st.fr o.dst undefV }
    | some true => doneX P r al mk late pt n0 i o (trim (lookTmps ops o) st.fr) st
def opsX (P : Program) (r : Rec) (ops : Array Oper) (al mk late pt : List Nat) (n0 : Nat) : List Oper → Nat → St → Option St
  | [], _, st => some st
  | o :: os, i, st => match oneX P r ops al mk late pt n0 i o st with
    | some st' => opsX P r ops al mk late pt n0 os (i + 1) st'
    | none => none
def runX (P : Program) (r : Rec) (ops : Array Oper) (al mk late pt : List Nat) (st : St) : Option St :=
  match namesOk st.n st.H with
  | true => opsX P r ops al mk late pt st.n ops.toList 0 st
  | false => none
/-- what writes its own region's blocks stands in order with all that may look at them -/
def ptOk (bef : Array Nat) (late pt : List Nat) : Bool := pt.all fun i => memN late i && late.all fun j => Nat.beq i j || (if Nat.blt j i then ahead bef j i else ahead bef i j)
structure InvX (mk late pt : List Nat) (n0 i : Nat) (ds : List Done) (st : St) : Prop where
  put : ∀ d ∈ ds, d.put = [] ∨ (memN pt d.i = true ∧ ∀ k ∈ d.put, n0 ≤ k)
  see : ∀ d ∈ ds, memN late d.i = true ∨ ∀ k ∈ d.see, k < n0
  idx : ∀ d ∈ ds, d.i < i
  cov : ∀ k, n0 ≤ k → k < st.n → ∃ d ∈ ds, d.lo ≤ k ∧ k < d.hi ∧ memN mk d.i = true ∧ d.i < i
  nam : ∀ x ∈ st.H, x.1 < st.n
theorem lateOk_visX {bef : Array Nat} {mk late pt : List Nat} (hl : lateOk bef mk late = true) {n0 i : Nat} (hi : memN late i = true) {ds : List Done} {st : St} (hI : InvX mk late pt n0 i ds st) {k : Nat} (hk : k < st.n) : visA bef n0 i ds k = true := by
  unfold visA
  rw [Bool.or_eq_true]
  rcases Nat.lt_or_ge k n0 with h | h
  · exact .inl ((blt_iff _ _).2 h)
  · obtain ⟨d, hd, h1, h2, h3, h4⟩ := hI.cov k h hk
    refine .inr (List.any_eq_true.2 ⟨d, hd, ?_⟩)
    have := List.all_eq_true.1 (List.all_eq_true.1 hl i ((memN_iff _ _).1 hi)) d.i ((memN_iff _ _).1 h3)
    rw [Bool.or_eq_true] at this
    rcases this with h | h
    · have := Nat.le_of_ble_eq_true h
      omega
    · simp only [Bool.and_eq_true]
      exact ⟨⟨Nat.ble_eq_true_of_le h1, (blt_iff _ _).2 h2⟩, h⟩
/-- a writer ahead of a late one is ordered with it -/
theorem ptOk_ahead {bef : Array Nat} {late pt : List Nat} (hp : ptOk bef late pt = true) {a c : Nat} (hac : a < c) (h : (memN pt a = true ∧ memN late c = true) ∨ (memN late a = true ∧ memN pt c = true)) : ahead bef a c = true := by
  unfold ptOk at hp
  rcases h with ⟨h1, h2⟩ | ⟨h1, h2⟩
  · have := List.all_eq_true.1 hp a ((memN_iff _ _).1 h1)
    rw [Bool.and_eq_true] at this
    have := List.all_eq_true.1 this.2 c ((memN_iff _ _).1 h2)
    rw [Bool.or_eq_true] at this
    rcases this with h | h
    · have := Nat.eq_of_beq_eq_true h; omega
    · rw [if_neg (fun h => by have := (blt_iff _ _).1 h; omega)] at h
      exact h
  · have := List.all_eq_true.1 hp c ((memN_iff _ _).1 h2)
    rw [Bool.and_eq_true] at this
    have := List.all_eq_true.1 this.2 a ((memN_iff _ _).1 h1)
    rw [Bool.or_eq_true] at this
    rcases this with h | h
    · have := Nat.eq_of_beq_eq_true h; omega
    · rw [if_pos ((blt_iff _ _).2 hac)] at h
      exact h
theorem ptOk_late {bef : Array Nat} {late pt : List Nat} (hp : ptOk bef late pt = true) {a : Nat} (h : memN pt a = true) : memN late a = true := by
  have := List.all_eq_true.1 hp a ((memN_iff _ _).1 h)
  rw [Bool.and_eq_true] at this
  exact this.1
theorem disj_of {xs ys : List Nat} {n0 : Nat} (h1 : ∀ k ∈ xs, n0 ≤ k) (h2 : ∀ k ∈ ys, k < n0) : disj xs ys = true := by
  unfold disj
  refine List.all_eq_true.2 fun x hx => ?_
  cases hm : memN ys x with
  | false => rfl
  | true =>
    have := h2 x ((memN_iff _ _).1 hm)
    have := h1 x hx
    omega
theorem footX {bef : Array Nat} {mk late pt : List Nat} (hl : lateOk bef mk late = true) (hp : ptOk bef late pt = true) {n0 i : Nat} {ds : List Done} {st : St} (hI : InvX mk late pt n0 i ds st) {see : List Nat} (h : visT late n0 i st.n see = true) : footOk bef n0 i ds see [] = true := by
  have hv := h
  unfold visT at h
  rw [Bool.or_eq_true] at h
  unfold footOk
  simp only [Bool.and_eq_true]
  refine ⟨⟨List.all_eq_true.2 fun d hd => ?_, List.all_eq_true.2 fun k hk => ?_⟩, rfl⟩
  · rw [Bool.or_eq_true]
    rcases hI.put d hd with h0 | ⟨h1, h2⟩
    · right; simp [disj, h0]
    · rcases h with h | h
      · rw [Bool.and_eq_true] at h
        exact .inl (ptOk_ahead hp (hI.idx d hd) (.inl ⟨h1, h.1⟩))
      · right
        rw [Bool.and_eq_true]
        exact ⟨rfl, disj_of h2 fun k hk => (blt_iff _ _).1 (List.all_eq_true.1 h k hk)⟩
  · rcases h with h | h
    · rw [Bool.and_eq_true] at h
      exact lateOk_visX hl h.1 hI ((blt_iff _ _).1 (List.all_eq_true.1 h.2 k hk))
    · have := List.all_eq_true.1 h k hk
      unfold visA
      rw [this, Bool.true_or]
theorem footXp {bef : Array Nat} {mk late pt : List Nat} (hl : lateOk bef mk late = true) (hp : ptOk bef late pt = true) {n0 i : Nat} {ds : List Done} {st : St} (hI : InvX mk late pt n0 i ds st) {see put : List Nat} (h : (memN pt i && put.all (Nat.ble n0 ·) && put.all (memN see) && memN late i && see.all (Nat.blt · st.n)) = true) : footOk bef n0 i ds see put = true := by
  simp only [Bool.and_eq_true] at h
  obtain ⟨⟨⟨⟨h1, h2⟩, h3⟩, h4⟩, h5⟩ := h
  unfold footOk
  simp only [Bool.and_eq_true]
  refine ⟨⟨List.all_eq_true.2 fun d hd => ?_, List.all_eq_true.2 fun k hk => ?_⟩, h3⟩
  · rw [Bool.or_eq_true]
    rcases hI.see d hd with hs | hs
    · exact .inl (ptOk_ahead hp (hI.idx d hd) (.inr ⟨hs, h1⟩))
    · rcases hI.put d hd with h0 | ⟨g1, _⟩
      · right
        rw [Bool.and_eq_true]
        exact ⟨disj_of (fun k hk => Nat.le_of_ble_eq_true (List.all_eq_true.1 h2 k hk)) hs, by simp [disj, h0]⟩
      · exact .inl (ptOk_ahead hp (hI.idx d hd) (.inr ⟨ptOk_late hp g1, h1⟩))
  · exact lateOk_visX hl h4 hI ((blt_iff _ _).1 (List.all_eq_true.1 h5 k hk))
theorem seeCall_dnamesX {bef : Array Nat} {n0 i : Nat} {ds : List Done} (hp : ∀ d ∈ ds, d.put = [] ∨ ahead bef d.i i = true) : ∀ H : Heap, (∀ x ∈ H, visA bef n0 i ds x.1 = true) → seeCall bef n0 i ds H = dnames H
  | [], _ => rfl
  | (k, b) :: H, hv => by
    have ih := seeCall_dnamesX hp H fun x hx => hv x (List.mem_cons_of_mem _ hx)
    have h1 := hv _ (List.mem_cons_self ..)
    have h2 : (ds.all fun d => ahead bef d.i i || !memN d.put k) = true := List.all_eq_true.2 fun d hd => by
      rcases hp d hd with h | h
      · rw [h]; simp [memN]
      · rw [h, Bool.true_or]
    cases b <;> simp only [seeCall, dnames, h1, h2, ih, Bool.and_self, if_true]
theorem InvX.same {mk late pt : List Nat} {n0 i : Nat} {ds : List Done} {st : St} (hI : InvX mk late pt n0 i ds st) {fr : Fr} : InvX mk late pt n0 (i + 1) ds { st with fr := fr } :=
  ⟨hI.put, hI.see, fun d hd => Nat.lt_succ_of_lt (hI.idx d hd), fun k h1 h2 => by obtain ⟨d, a, b, c, e, f⟩ := hI.cov k h1 h2; exact ⟨d, a, b, c, e, by omega⟩, hI.nam⟩
theorem InvX.next {mk late pt : List Nat} {n0 i : Nat} {ds : List Done} {st : St} (hI : InvX mk late pt n0 i ds st) {fr : Fr} {see put : List Nat} {H : Heap} {k : Nat} (hput : put = [] ∨ (memN pt i = true ∧ ∀ k ∈ put, n0 ≤ k)) (hsee : memN late i = true ∨ ∀ k ∈ see, k < n0) (hn : ∀ x ∈ H, x.1 < k) (hm : (Nat.beq k st.n || memN mk i) = true) : InvX mk late pt n0 (i + 1) (⟨i, see, put, st.n, k⟩ :: ds) { st with fr := fr, H := H, n := k } := by
  refine ⟨fun d hd => ?_, fun d hd => ?_, fun d hd => ?_, fun j h1 h2 => ?_, hn⟩
  · rcases List.mem_cons.1 hd with rfl | hd
    · exact hput
    · exact hI.put d hd
  · rcases List.mem_cons.1 hd with rfl | hd
    · exact hsee
    · exact hI.see d hd
  · rcases List.mem_cons.1 hd with rfl | hd
    · exact Nat.lt_succ_self _
    · exact Nat.lt_succ_of_lt (hI.idx d hd)
  · rcases Nat.lt_or_ge j st.n with h | h
    · obtain ⟨d, a, b, c, e, f⟩ := hI.cov j h1 h
      exact ⟨d, List.mem_cons_of_mem _ a, b, c, e, by omega⟩
    · rw [Bool.or_eq_true] at hm
      have h2 : j < k := h2
      rcases hm with hm | hm
      · have := Nat.eq_of_beq_eq_true hm
        omega
      · exact ⟨_, List.mem_cons_self .., h, h2, hm, Nat.lt_succ_self _⟩
theorem visT_see {late : List Nat} {n0 i n : Nat} {see : List Nat} (h : visT late n0 i n see = true) : memN late i = true ∨ ∀ k ∈ see, k < n0 := by
  unfold visT at h
  rw [Bool.or_eq_true] at h
  rcases h with h | h
  · rw [Bool.and_eq_true] at h; exact .inl h.1
  · exact .inr fun k hk => (blt_iff _ _).1 (List.all_eq_true.1 h k hk)
theorem backA_mem {put : List Nat} {H' : Heap} : ∀ {H : Heap} {x : Nat × Blk}, x ∈ backA put H' H → ∃ y ∈ H, y.1 = x.1
  | [], x, h => by cases h
  | (k, b) :: H, x, h => by
    rw [backA] at h
    have go : x ∈ backA put H' H → ∃ y ∈ (k, b) :: H, y.1 = x.1 := fun h => by
      obtain ⟨y, hy, e⟩ := backA_mem h
      exact ⟨y, List.mem_cons_of_mem _ hy, e⟩
    split at h
    · rcases List.mem_cons.1 h with rfl | h
      · exact ⟨_, List.mem_cons_self .., rfl⟩
      · exact go h
    · split at h
      · rcases List.mem_cons.1 h with rfl | h
        · exact ⟨_, List.mem_cons_self .., rfl⟩
        · exact go h
      · exact go h
theorem handX_ok {P : Program} {r : Rec} {bef : Array Nat} {mk late pt : List Nat} {n0 i : Nat} {ds : List Done} {o : Oper} {fr : Fr} {st st' : St} (hI : InvX mk late pt n0 i ds st) {see put : List Nat} (hf : footOk bef n0 i ds see put = true) (hput : put = [] ∨ (memN pt i = true ∧ ∀ k ∈ put, n0 ≤ k)) (hsee : memN late i = true ∨ ∀ k ∈ see, k < n0) (h : handX P r mk i o see put fr st = some st') : ∃ ds', handOp P r bef n0 i ds o see put fr st = some (st', ds') ∧ InvX mk late pt n0 (i + 1) ds' st' := by
  unfold handX at h
  unfold handOp
  rw [hf]
  simp only
  split at h
  · rename_i v H k hv
    rw [hv]
    simp only
    split at h
    · rename_i hc
      simp only [Bool.and_eq_true] at hc
      injection h with h; subst h
      rw [hc.1.1, hc.1.2]
      simp only [Bool.and_self]
      have hle := Nat.le_of_ble_eq_true hc.1.1
      refine ⟨_, rfl, hI.next hput hsee (fun x hx => ?_) hc.2⟩
      rcases List.mem_append.1 hx with hx | hx
      · exact namesOk_mem _ _ hc.1.2 x hx
      · obtain ⟨y, hy, e⟩ := backA_mem hx
        exact Nat.lt_of_lt_of_le (by rw [← e]; exact hI.nam y hy) hle
    · cases h
  · cases h
theorem backA_nil (H' : Heap) : ∀ H : Heap, backA [] H' H = H
  | [] => rfl
  | (k, b) :: H => by simp only [backA, memN, backA_nil H' H]
theorem handT_X {P : Program} {r : Rec} {mk : List Nat} {i : Nat} {o : Oper} {see : List Nat} {fr : Fr} {st : St} : handT P r mk i o see fr st = handX P r mk i o see [] fr st := by
  unfold handT handX
  simp only [backA_nil]
  rfl
theorem opsX_ok {P : Program} {r : Rec} {ops : Array Oper} {bef : Array Nat} {al mk late pt : List Nat} (hl : lateOk bef mk late = true) (hpt : ptOk bef late pt = true) {n0 : Nat} : ∀ (os : List Oper) (i : Nat) (st st' : St) (ds : List Done), alEq ops bef al os i = true → InvX mk late pt n0 i ds st → opsX P r ops al mk late pt n0 os i st = some st' → opsD P r ops bef n0 os i ds st = some st'
  | [], _, st, st', ds, _, _, h => h
  | o :: os, i, st, st', ds, hal, hI, h => by
    simp only [alEq, Bool.and_eq_true, Bool.or_eq_true, beq_iff_eq] at hal
    have halo : isPure o.op = false → isRead o.op = false → memN al i = aloneA bef i ops.toList 0 := fun h1 h2 => by
      rcases hal.1 with (h | h) | h
      · rw [h1] at h; cases h
      · rw [h2] at h; cases h
      · exact h
    simp only [opsX] at h
    split at h
    · rename_i st1 h1
      have key : ∃ ds', oneD P r ops bef n0 i ds o st = some (st1, ds') ∧ InvX mk late pt n0 (i + 1) ds' st1 := by
        unfold oneX at h1
        unfold oneD
        split at h1
        · cases h1
        · rename_i hd
          rw [hd]
          simp only
          split at h1
          · cases h1
          · rename_i hw
            rw [hw]
            injection h1 with h1; subst h1
            exact ⟨ds, rfl, hI.same⟩
          · rename_i hw
            rw [hw]
            simp only
            unfold doneX at h1
            unfold doneD
            split at h1
            · rename_i hp
              rw [hp]
              simp only
              unfold pureS at h1
              unfold pureOp
              split at h1
              · rename_i v a k hv
                rw [hv]
                simp only
                split at h1
                · rename_i hk
                  rw [hk]
                  injection h1 with h1; subst h1
                  exact ⟨ds, rfl, hI.same⟩
                · cases h1
              · cases h1
            · rename_i hp
              rw [hp]
              simp only
              split at h1
              · rename_i hrd
                rw [hrd]
                simp only
                split at h1
                · rename_i f hf
                  rw [hf]
                  simp only
                  unfold readT at h1
                  split at h1
                  · rename_i hv
                    have hvt := hv
                    unfold readOp
                    rw [footX hl hpt hI hv]
                    simp only
                    split at h1
                    · rename_i v a b hv
                      rw [hv]
                      injection h1 with h1; subst h1
                      exact ⟨_, rfl, hI.next (.inl rfl) (visT_see hvt) hI.nam (by simp)⟩
                    · cases h1
                  · cases h1
                · cases h1
              · rename_i hrd
                rw [hrd]
                simp only
                split at h1
                · rename_i hm
                  have ha : aloneA bef i ops.toList 0 = true := by rw [← halo hp hrd, hm]
                  rw [ha]
                  simp only
                  unfold aloneT at h1
                  unfold aloneOp
                  split at h1
                  · rename_i v H k hv
                    rw [hv]
                    simp only
                    split at h1
                    · rename_i hk
                      simp only [Bool.and_eq_true] at hk
                      rw [hk.1.1, hk.1.2]
                      injection h1 with h1; subst h1
                      exact ⟨_, rfl, hI.next (.inl rfl) (.inr fun k hk => by cases hk) (namesOk_mem _ _ hk.1.2) hk.2⟩
                    · cases h1
                  · cases h1
                · rename_i hm
                  have ha : aloneA bef i ops.toList 0 = false := by rw [← halo hp hrd, hm]
                  rw [ha]
                  simp only
                  split at h1
                  · rename_i f hf
                    rw [hf]
                    simp only
                    split at h1
                    · rename_i hv
                      rw [Bool.and_eq_true] at hv
                      rw [List.isEmpty_iff.1 hv.1]
                      rw [handT_X] at h1
                      exact handX_ok hI (footX hl hpt hI hv.2) (.inl rfl) (visT_see hv.2) h1
                    · split at h1
                      · rename_i hv
                        have hv2 := hv
                        simp only [Bool.and_eq_true] at hv2
                        exact handX_ok hI (footXp hl hpt hI hv) (.inr ⟨hv2.1.1.1.1, fun k hk => Nat.le_of_ble_eq_true (List.all_eq_true.1 hv2.1.1.1.2 k hk)⟩) (.inl hv2.1.2) h1
                      · cases h1
                  · rename_i hf
                    rw [hf]
                    simp only
                    split at h1
                    · rename_i hv
                      rw [Bool.and_eq_true] at hv
                      have hvis : ∀ k, k < st.n → visA bef n0 i ds k = true := fun k hk => lateOk_visX hl hv.1 hI hk
                      rw [seeCall_dnamesX (fun d hd => by
                        rcases hI.put d hd with h | ⟨h, _⟩
                        · exact .inl h
                        · exact .inr (ptOk_ahead hpt (hI.idx d hd) (.inl ⟨h, hv.1⟩))) st.H fun x hx => hvis _ (hI.nam x hx)]
                      have hvt : visT late n0 i st.n (dnames st.H) = true := by
                        unfold visT
                        rw [hv.1]
                        simp only [Bool.true_and, Bool.or_eq_true]
                        refine .inl (List.all_eq_true.2 fun k hk => ?_)
                        obtain ⟨b, hb⟩ := dnames_mem _ _ hk
                        exact (blt_iff _ _).2 (hI.nam _ hb)
                      have h2 : handT P r mk i o (dnames st.H) (trim (lookTmps ops o) st.fr) st = some st1 := by
                        unfold handT
                        rw [handA_dnames hv.2]
                        exact h1
                      rw [handT_X] at h2
                      exact handX_ok hI (footX hl hpt hI hvt) (.inl rfl) (.inl hv.1) h2
                    · cases h1
      obtain ⟨ds', h2, hI'⟩ := key
      simp only [opsD, h2]
      exact opsX_ok hl hpt os (i + 1) st1 st' ds' hal.2 hI' h
    · cases h
def drawX (ops : Array Oper) (bef : Array Nat) (al mk late pt : List Nat) : Bool := drawOk ops bef && alEq ops bef al ops.toList 0 && lateOk bef mk late && ptOk bef late pt
section
variable {P : Program} {n0 : Nat} {ro : Option Nat} {st st' : St} {K : Ex → St → Prop} {r : Rec} {m : Nat}
/-- 'pt': what writes blocks that the region itself has laid -/
theorem E.drawX (hm : P.follows .mixedOrders = true) (hr : RecOk P r m) (al mk late pt : List Nat) {id : Nat} {ops : Array Oper} (hd : Ab.drawX ops (Region.before ops) al mk late pt = true) (h : runX P r ops al mk late pt st = some st') (k : K .normal st') : E P n0 ro (.region id ops true) st K := by
  unfold Ab.drawX at hd
  simp only [Bool.and_eq_true] at hd
  unfold runX at h
  split at h
  · rename_i hn
    exact E.draw hm hr hd.1.1.1 (opsX_ok hd.1.2 hd.2 _ _ _ _ [] hd.1.1.2 ⟨by simp, by simp, by simp, fun k h1 h2 => by omega, namesOk_mem _ _ hn⟩ h) k
  · cases h
end
attribute [simp] runX opsX oneX doneX
end Go.Ab

/-
What the handed values are made of: types of integers, strings and truth values laid out flat, and slices of such.
-/
namespace Go.Ab
open Go Go.ChangeShapes Go.WideShapes
inductive Leaf where
  | int (k : IntKind) | str | bool
  deriving DecidableEq
def Leaf.fits : Leaf → Value → Prop
  | .int k, v => ∃ n, v = .int k n ∧ (Lit.int k n).wf = true
  | .str, v => ∃ s : ByteArray, v = .string s ∧ s.size ≤ maxLen
  | .bool, v => ∃ b, v = .bool b
def fitsL : List Leaf → List Value → Prop
  | [], [] => True
  | l :: ls, v :: vs => l.fits v ∧ fitsL ls vs
  | _, _ => False
def leafs (P : Program) : Nat → TypeId → Option (List Leaf)
  | 0, _ => none
  | d + 1, t => match P.underlying t with
    | some .bool => some [.bool]
    | some .string => some [.str]
    | some (.int k) => some [.int k]
    | some (.array n e) => match leafs P d e with
      | some l => if l.length = P.cellsOf e ∧ P.cellsOf t = n * l.length then some (List.replicate n l).flatten else none
      | none => none
    | some (.struct fs) => match fs.toList.foldlM (fun acc f => if f.offset = acc.length then (leafs P d f.type).bind fun l => if l.length = P.cellsOf f.type then some (acc ++ l) else none else none) [] with
      | some l => if l.length = P.cellsOf t then some l else none
      | none => none
    | _ => none
theorem fitsL_append : ∀ {a : List Leaf} {x : List Value} {b : List Leaf} {y : List Value}, fitsL a x → fitsL b y → fitsL (a ++ b) (x ++ y)
  | [], [], _, _, _, h => h
  | _ :: _, _ :: _, _, _, ⟨h1, h2⟩, h => ⟨h1, fitsL_append h2 h⟩
  | [], _ :: _, _, _, h, _ => h.elim
  | _ :: _, [], _, _, h, _ => h.elim
theorem fitsL_length : ∀ {a : List Leaf} {x : List Value}, fitsL a x → x.length = a.length
  | [], [], _ => rfl
  | _ :: _, _ :: _, ⟨_, h2⟩ => congrArg (· + 1) (fitsL_length h2)
  | [], _ :: _, h => h.elim
  | _ :: _, [], h => h.elim
section
variable {H : Type} {enc : TypeId × Value → H} {P : Program} {w : World} {base : Nat} {spare : Nat → Bool} {held : Bool}
theorem leafs_ok : ∀ (d : Nat) (t : TypeId) (ls : List Leaf) (fuel : Nat) (cs : List Value) (x : DataW H × List MemPlace), leafs P d t = some ls → DataW.trod enc P w base spare held fuel t cs = some x → fitsL ls cs
  | 0, _, _, _, _, _, hl, _ => by simp [leafs] at hl
  | d + 1, t, ls, fuel, cs, x, hl, h => by
    unfold leafs at hl
    split at hl
    · rename_i ht
      injection hl with hl; subst hl
      obtain ⟨b, rfl, _⟩ := DataW.trod_bool ht h
      exact ⟨⟨b, rfl⟩, trivial⟩
    · rename_i ht
      injection hl with hl; subst hl
      obtain ⟨b, rfl, _, hs⟩ := DataW.trod_string ht h
      exact ⟨⟨b, rfl, hs⟩, trivial⟩
    · rename_i k ht
      injection hl with hl; subst hl
      obtain ⟨b, rfl, _, hs⟩ := DataW.trod_int ht h
      exact ⟨⟨b, rfl, hs⟩, trivial⟩
    · rename_i n e ht
      obtain ⟨xs, m, rfl, _, hlen, hxl, hel⟩ := DataW.trod_array ht h
      split at hl
      · rename_i l he
        split at hl
        · rename_i hc
          injection hl with hl; subst hl
          have key : ∀ k, k ≤ n → fitsL (List.replicate k l).flatten (cs.take (k * l.length)) := by
            intro k
            induction k with
            | zero => intro _; simp [fitsL]
            | succ k ih =>
              intro hk
              have h1 := hel k (by omega)
              obtain ⟨y, hy⟩ : ∃ y, xs[k]? = some y := ⟨xs[k]'(by omega), by simp⟩
              rw [hy] at h1
              have h2 := leafs_ok d e l m _ y he h1
              rw [List.replicate_succ', List.flatten_append, Nat.succ_mul, List.take_add]
              rw [← hc.1] at h2
              simpa using fitsL_append (ih (by omega)) h2
          have := key n (Nat.le_refl _)
          rw [List.take_of_length_le (by rw [hlen, hc.2]; exact Nat.le_refl _)] at this
          exact this
        · cases hl
      · cases hl
    · rename_i fs ht
      obtain ⟨xs, m, rfl, _, hlen, hxl, hel⟩ := DataW.trod_struct ht h
      split at hl
      · rename_i l hf
        split at hl
        · rename_i hc
          injection hl with hl; subst hl
          have key : ∀ (fl : List Field) (acc res : List Leaf), fl.foldlM (fun acc f => if f.offset = acc.length then (leafs P d f.type).bind fun l => if l.length = P.cellsOf f.type then some (acc ++ l) else none else none) acc = some res →
              fitsL acc (cs.take acc.length) → (∀ f ∈ fl, ∃ y, DataW.trod enc P w base spare held m f.type ((cs.drop f.offset).take (P.cellsOf f.type)) = some y) → fitsL res (cs.take res.length) := by
            intro fl
            induction fl with
            | nil => intro acc res h1 h2 _; injection h1 with h1; subst h1; exact h2
            | cons f fl ih =>
              intro acc res h1 h2 h3
              rw [List.foldlM_cons] at h1
              simp only [Option.bind_eq_bind, Option.bind_eq_some_iff] at h1
              obtain ⟨acc', h1, h4⟩ := h1
              split at h1
              · rename_i ho
                rw [Option.bind_eq_some_iff] at h1
                obtain ⟨l', h5, h6⟩ := h1
                split at h6
                · rename_i hc'
                  injection h6 with h6; subst h6
                  obtain ⟨y, hy⟩ := h3 f (List.mem_cons_self ..)
                  have := leafs_ok d f.type l' m _ y h5 hy
                  rw [← hc', ho] at this
                  refine ih _ _ h4 ?_ fun g hg => h3 g (List.mem_cons_of_mem _ hg)
                  rw [List.length_append, List.take_add]
                  exact fitsL_append h2 this
                · cases h6
              · cases h1
          have := key fs.toList [] _ hf (by simp [fitsL]) fun f hf => by
            obtain ⟨i, hi, rfl⟩ := List.getElem_of_mem hf
            have h1 := hel i fs[i] (by simp)
            obtain ⟨y, hy⟩ : ∃ y, xs[i]? = some y := ⟨xs[i]'(by rw [hxl]; simpa using hi), by simp⟩
            rw [hy] at h1
            exact ⟨y, by simpa using h1⟩
          rw [List.take_of_length_le (by rw [hlen, hc]; exact Nat.le_refl _)] at this
          exact this
        · cases hl
      · cases hl
    · cases hl
theorem flatten_get {m : Nat} (hm : 0 < m) : ∀ (rows : List (List Value)) (j : Nat), (∀ r ∈ rows, r.length = m) → rows.flatten[j]? = (rows[j / m]?).bind (·[j % m]?)
  | [], j, _ => by simp
  | r :: rows, j, h => by
    have hr := h r (List.mem_cons_self ..)
    rw [List.flatten_cons]
    rcases Nat.lt_or_ge j m with hj | hj
    · rw [List.getElem?_append_left (by omega), Nat.div_eq_of_lt hj, Nat.mod_eq_of_lt hj]
      simp
    · rw [List.getElem?_append_right (by omega), hr, flatten_get hm rows (j - m) fun r hr => h r (List.mem_cons_of_mem _ hr)]
      obtain ⟨k, rfl⟩ : ∃ k, j = k + m := ⟨j - m, by omega⟩
      rw [Nat.add_sub_cancel, Nat.add_div_right _ hm, Nat.add_mod_right, List.getElem?_cons_succ]
theorem flatten_length {m : Nat} : ∀ (rows : List (List Value)), (∀ r ∈ rows, r.length = m) → rows.flatten.length = rows.length * m
  | [], _ => by simp
  | r :: rows, h => by
    rw [List.flatten_cons, List.length_append, flatten_length rows fun r hr => h r (List.mem_cons_of_mem _ hr), h r (List.mem_cons_self ..), List.length_cons, Nat.succ_mul, Nat.add_comm]
/-- a slice of flat elements, opened -/
theorem open_slice {t e : TypeId} {d fuel : Nat} {ls : List Leaf} {cs : List Value} {x : DataW H × List MemPlace} (ht : P.underlying t = some (.slice e)) (hl : leafs P d e = some ls) (hc : ls.length = P.cellsOf e) (hpos : 0 < ls.length)
    (h : DataW.trod enc P w base spare held fuel t cs = some x) :
    cs = [.slice none 0 0] ∨ ∃ (a : Addr) (len cap : Nat) (rows : List (List Value)), cs = [.slice (some a) len cap] ∧ len ≤ cap ∧ cap ≤ maxLen ∧ rows.length = len ∧ (∀ r ∈ rows, fitsL ls r) ∧
      (a.spot = none → ∀ j, j < rows.flatten.length → w.cell? ⟨a.block, a.off + j, none⟩ = rows.flatten[j]?) := by
  rcases DataW.trod_slice ht h with ⟨h0, _⟩ | ⟨a, len, cap, elems, rest, n, _, rfl, _, hb, hlc, hm, hlen, hel, _⟩
  · exact .inl h0
  right
  have each : ∀ i, i < len → ∃ r, w.cells? base (a.add (i * P.cellsOf e)) (P.cellsOf e) = some r ∧ fitsL ls r := fun i hi => by
    have h1 := hel i hi
    obtain ⟨y, hy⟩ : ∃ y, elems[i]? = some y := ⟨elems[i]'(by omega), by simp⟩
    rw [hy, Option.bind_eq_some_iff] at h1
    obtain ⟨r, h2, h3⟩ := h1
    exact ⟨r, h2, leafs_ok d e ls n r y hl h3⟩
  let rows : List (List Value) := (List.range len).map fun i => (w.cells? base (a.add (i * P.cellsOf e)) (P.cellsOf e)).getD []
  have hrow : ∀ i, i < len → ∃ r, rows[i]? = some r ∧ w.cells? base (a.add (i * P.cellsOf e)) (P.cellsOf e) = some r ∧ fitsL ls r := fun i hi => by
    obtain ⟨r, h1, h2⟩ := each i hi
    exact ⟨r, by simp [rows, hi, h1], h1, h2⟩
  have hfit : ∀ r ∈ rows, fitsL ls r := fun r hr => by
    obtain ⟨i, hi⟩ := List.getElem?_of_mem hr
    have hi' := (List.getElem?_eq_some_iff.1 hi).1
    simp [rows] at hi'
    obtain ⟨r', h1, _, h2⟩ := hrow i hi'
    rw [hi] at h1; injection h1 with h1; subst h1; exact h2
  refine ⟨a, len, cap, rows, rfl, hlc, hm, by simp [rows], hfit, fun hs j hj => ?_⟩
  have hw : ∀ r ∈ rows, r.length = ls.length := fun r hr => fitsL_length (hfit r hr)
  rw [flatten_length rows hw] at hj
  rw [flatten_get hpos rows j hw]
  have hjl : j / ls.length < len := by
    rw [Nat.div_lt_iff_lt_mul hpos]
    simpa [rows] using hj
  obtain ⟨r, h1, h2, h3⟩ := hrow _ hjl
  rw [h1, Option.bind_some]
  have h4 := (World.cells?_some h2).2.2 (j % ls.length) (by rw [← hc]; exact Nat.mod_lt _ hpos)
  rw [← h4, ← hc]
  congr 1
  have hadd : ∀ (b : Addr) (k : Nat), b.spot = none → b.add k = ⟨b.block, b.off + k, none⟩ := fun b k hb => by
    unfold Addr.add
    split
    · rename_i h0; subst h0; cases b; simp_all
    · rfl
  rw [hadd a _ hs, hadd _ _ rfl]
  have := Nat.div_add_mod j ls.length
  rw [Nat.mul_comm] at this
  simp only [Nat.add_assoc, this]
/-- a handed slice has no spot, and a block -/
theorem okWide_addr {r : Reach} {t e : TypeId} {a : Addr} {len cap : Nat} (ht : P.underlying t = some (.slice e)) (h : Cell.okWide P w r base t (.slice (some a) len cap)) : a.spot = none ∧ ∃ c t fz, w.heap[a.block]? = some (.cells c t fz) := by
  unfold Cell.okWide at h
  rw [ht] at h
  simp only at h
  unfold Cell.ok at h
  rw [ht] at h
  obtain ⟨_, _, _, hs, row, cells, hsh, _⟩ := h
  refine ⟨hs, ?_⟩
  unfold World.shape? at hsh
  split at hsh
  · rename_i c el fz hw
    exact ⟨c, el, fz, hw⟩
  · cases hsh
theorem cell_get {b o : Nat} {c : Array Value} {t : TypeId} {fz : Nat × Nat} (hw : w.heap[b]? = some (.cells c t fz)) : w.cell? ⟨b, o, none⟩ = c[o]? := by
  unfold World.cell?
  rw [hw]
  simp
/-- a handed slice of flat elements -/
theorem handed_slice {r : Reach} {b0 : Nat} {t e : TypeId} {d fuel : Nat} {ls : List Leaf} {v : Value} {x : DataW H × List MemPlace} (ht : P.underlying t = some (.slice e)) (hl : leafs P d e = some ls) (hc : ls.length = P.cellsOf e) (hpos : 0 < ls.length)
    (hok : Cell.okWide P w r b0 t v) (h : DataW.trod enc P w base spare held fuel t [v] = some x) :
    v = .slice none 0 0 ∨ ∃ (b o len cap : Nat) (rows : List (List Value)), v = .slice (some ⟨b, o, none⟩) len cap ∧ len ≤ cap ∧ cap ≤ maxLen ∧ rows.length = len ∧ (∀ r ∈ rows, fitsL ls r) ∧
      ∃ c t fz, w.heap[b]? = some (.cells c t fz) ∧ ∀ i, i < rows.flatten.length → c[o + i]? = rows.flatten[i]? := by
  rcases open_slice ht hl hc hpos h with h0 | ⟨⟨b, o, s⟩, len, cap, rows, h1, h2, h3, h4, h5, h6⟩
  · left; simpa using h0
  · right
    obtain rfl : v = .slice (some ⟨b, o, s⟩) len cap := by simpa using h1
    obtain ⟨hs, c, t', fz, hw⟩ := okWide_addr ht hok
    have hs : s = none := hs
    subst hs
    exact ⟨b, o, len, cap, rows, rfl, h2, h3, h4, h5, c, t', fz, hw, fun i hi => by rw [← cell_get hw, h6 rfl i hi]⟩
/-- a handed struct of one slice -/
theorem handed_str {r : Reach} {b0 : Nat} {t u e : TypeId} {d : Nat} {fs : Array Field} {f : Field} {ls : List Leaf} {v : Value} {y : DataW H} {p : List MemPlace} (hs : P.underlying t = some (.struct fs)) (hf : fs[0]? = some f) (ho : f.offset = 0) (hft : f.type = u) (h1 : P.cellsOf t = 1) (h1' : P.cellsOf u = 1) (hct : P.cellTypes P.depth t = some [u])
    (ht : P.underlying u = some (.slice e)) (hl : leafs P d e = some ls) (hc : ls.length = P.cellsOf e) (hpos : 0 < ls.length)
    (hok : Value.okWide P w r b0 t v) (h : DataW.Trod enc P w base spare held t v y p) :
    v = .agg ⟨[.slice none 0 0]⟩ ∨ ∃ (b o len cap : Nat) (rows : List (List Value)), v = .agg ⟨[.slice (some ⟨b, o, none⟩) len cap]⟩ ∧ len ≤ cap ∧ cap ≤ maxLen ∧ rows.length = len ∧ (∀ r ∈ rows, fitsL ls r) ∧
      ∃ c t fz, w.heap[b]? = some (.cells c t fz) ∧ ∀ i, i < rows.flatten.length → c[o + i]? = rows.flatten[i]? := by
  unfold Value.okWide at hok
  rw [hs] at hok
  obtain ⟨cs, rfl, hsz, ts, hts, _, hrow⟩ := hok
  rw [hct] at hts
  injection hts with hts; subst hts
  rw [h1] at hsz
  obtain ⟨l⟩ := cs
  match l, hsz with
  | [v0], _ =>
    obtain ⟨u', h2, h3⟩ := hrow 0 v0 rfl
    obtain rfl : u = u' := by simpa using h2
    obtain ⟨fuel, h⟩ := h
    obtain ⟨xs, m, rfl, _, hlen, hxl, hel⟩ := DataW.trod_struct hs h
    have h4 := hel 0 f hf
    rw [ho, hft, h1'] at h4
    have hpos' : 0 < fs.size := (Array.getElem?_eq_some_iff.1 hf).1
    obtain ⟨y, hy⟩ : ∃ y, xs[0]? = some y := ⟨xs[0]'(by omega), by simp⟩
    rw [hy] at h4
    rcases handed_slice ht hl hc hpos h3 (by simpa [Value.cells] using h4) with rfl | ⟨b, o, len, cap, rows, rfl, h5⟩
    · exact .inl rfl
    · exact .inr ⟨b, o, len, cap, rows, rfl, h5⟩
end
end Go.Ab

/-
Lists that are built element by element (no condition).
-/
namespace Go.Ab
open Go
/-- the first 'n' values of a function -/
def rl {α : Type} (f : Nat → α) (n : Nat) : List α := (List.range n).map f
@[simp] theorem rl_length {α : Type} (f : Nat → α) (n : Nat) : (rl f n).length = n := by simp [rl]
theorem rl_succ {α : Type} (f : Nat → α) (n : Nat) : rl f (n + 1) = rl f n ++ [f n] := by simp [rl, List.range_succ]
@[simp] theorem rl_zero {α : Type} (f : Nat → α) : rl f 0 = [] := rfl
@[simp] theorem rl_getElem {α : Type} {f : Nat → α} {n i : Nat} (h : i < (rl f n).length) : (rl f n)[i] = f i := by simp [rl]
/-- what a function makes of the first 'i' elements -/
def tk {α β : Type} (f : α → β) (l : List α) (i : Nat) : List β := (l.take i).map f
@[simp] theorem tk_zero {α β : Type} (f : α → β) (l : List α) : tk f l 0 = [] := rfl
theorem tk_succ {α β : Type} (f : α → β) {l : List α} {i : Nat} (h : i < l.length) : tk f l (i + 1) = tk f l i ++ [f l[i]] := by unfold tk; rw [List.take_succ_eq_append_getElem h, List.map_append]; rfl
theorem tk_length {α β : Type} (f : α → β) {l : List α} {i : Nat} (h : i ≤ l.length) : (tk f l i).length = i := by simp [tk]; omega
theorem tk_all {α β : Type} (f : α → β) {l : List α} {i : Nat} (h : l.length ≤ i) : tk f l i = l.map f := by simp [tk, List.take_of_length_le h]
end Go.Ab
