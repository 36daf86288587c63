/-
Walks at a heap that is not named: contracts told of a part of memory, lists of lists that are made or handed, a stable sort by insertion (generic; each under the conditions in its statement).
-/
import Derived.Deep.Slices
import Derived.Test.YtndlfijfjglkdaaGreatDoorGc
import Derived.Test.YtndlfijfjglkdaaGreatDoorGd
namespace Go.Ab
open Go
mutual
theorem sc_and {p q : Nat → Prop} : ∀ v, sc p v → sc q v → sc (fun k => p k ∧ q k) v
  | .bool _, _, _ | .int _ _, _, _ | .float _ _, _, _ | .complex _ _ _, _, _ | .string _, _, _ | .nilFunc, _, _ | .nilIface, _, _ | .chan _, _, _ => by simp [sc]
  | .pointer none, _, _ | .slice none _ _, _, _ | .map none, _, _ => by simp [sc]
  | .pointer (some _), h1, h2 => ⟨h1, h2⟩
  | .slice (some _) _ _, h1, h2 => ⟨h1, h2⟩
  | .map (some _), h1, h2 => ⟨h1, h2⟩
  | .func (.yield l) a b, h1, h2 => by
    simp only [sc] at h1 h2 ⊢
    exact ⟨⟨h1.1, h2.1⟩, scL_and _ h1.2.1 h2.2.1, scL_and _ h1.2.2 h2.2.2⟩
  | .func (.func f) a b, h1, h2 | .func (.method f) a b, h1, h2 | .func (.methodOf _ f) a b, h1, h2 | .func (.via _ _ f _) a b, h1, h2 => by
    simp only [sc] at h1 h2 ⊢
    exact ⟨scL_and _ h1.1 h2.1, scL_and _ h1.2 h2.2⟩
  | .iface t v, h1, h2 => by simp only [sc] at h1 h2 ⊢; exact sc_and v h1 h2
  | .agg cs, h1, h2 => by simp only [sc] at h1 h2 ⊢; exact scL_and _ h1 h2
  | .tuple cs, h1, h2 => by simp only [sc] at h1 h2 ⊢; exact scL_and _ h1 h2
theorem scL_and {p q : Nat → Prop} : ∀ vs, scL p vs → scL q vs → scL (fun k => p k ∧ q k) vs
  | [], _, _ => trivial
  | v :: vs, h1, h2 => by simp only [scL] at h1 h2 ⊢; exact ⟨sc_and v h1.1 h2.1, scL_and vs h1.2 h2.2⟩
end
def heldB (n0 : Nat) : Blk → Prop
  | .loop _ _ fr _ _ _ _ _ d => d < n0 ∧ ∀ x ∈ fr, sc (· < n0) x.2
  | _ => True
theorem heldB_cases {n0 : Nat} {b : Blk} (h : heldB n0 b) : carried b ∨ (scB (· < n0) b ∧ (∀ ρ, renB ρ b = b) ∧ ∀ (P : Program) (p : Nat → Prop) (φ ψ : Vl) (j k : Nat) (o : Option Obj), Agr p φ ψ → scB p b → BRel P φ j b o → BRel P ψ k b o) := by
  cases b with
  | loop st pe fr sz vs ps a c d =>
    refine .inr ⟨⟨h.1, fun t v hv => h.2 (t, v) (lk_mem _ _ _ hv)⟩, fun _ => rfl, fun P p φ ψ j k o ha hs hb => ?_⟩
    obtain ⟨fn, tmps, ho, hf⟩ := hb
    exact ⟨fn, tmps, by rw [(ha d hs.1).1]; exact ho, hf.congr ha hs.2⟩
  | _ => exact .inl trivial
theorem scB_and {p q : Nat → Prop} : ∀ b, scB p b → scB q b → scB (fun k => p k ∧ q k) b
  | .cells cs _, h1, h2 | .ext cs _ _, h1, h2 | .inp _ cs, h1, h2 | .row cs _, h1, h2 | .tab cs, h1, h2 => scL_and cs h1 h2
  | .map _ _, h1, h2 => fun e he => ⟨sc_and _ (h1 e he).1 (h2 e he).1, sc_and _ (h1 e he).2 (h2 e he).2⟩
  | .iter _ _, _, _ | .defd, _, _ => trivial
  | .miter _ _ _ _, h1, h2 => fun r hr => ⟨h1 r hr, h2 r hr⟩
  | .loop .., h1, h2 => ⟨⟨h1.1, h2.1⟩, fun t v hv => sc_and v (h1.2 t v hv) (h2.2 t v hv)⟩
structure Renamed2 (n0 : Nat) (ρ : Nat → Nat) (s s2 : St) : Prop where
  le : n0 ≤ s2.n
  sz : s2.sz = s.sz
  marks : s.marks = [] ∧ s2.marks = []
  low : ∀ k, k < n0 → ρ k = k
  high : ∀ k, n0 ≤ k → k < s2.n → n0 ≤ ρ k ∧ ρ k < s.n
  inj : ∀ j k, j < s2.n → k < s2.n → ρ j = ρ k → j = k
  fr : ∀ x ∈ s2.fr, lk s.fr x.1 = some (ren ρ x.2) ∧ sc (· < s2.n) x.2
  heap : ∀ x ∈ s2.H, x.1 < s2.n ∧ hget s.H (ρ x.1) = some (renB ρ x.2) ∧ scB (· < s2.n) x.2 ∧ heldB n0 x.2 ∧ (x.2.own = false → ρ x.1 = x.1 ∧ renB ρ x.2 = x.2)
theorem Renamed2.step {P : Program} {n0 : Nat} {ρ : Nat → Nat} {s s2 : St} (h : Renamed2 n0 ρ s s2) {p : Nat → Prop} {φ φ1 : Vl} {M : Mp} {w0 w : World} {a : Act} (hg : ∀ g, g < P.globals.size → p g) (hp : ∀ k, p k → k < n0)
    (hS : SRel P (Nx p n0 s.n) φ1 s a w) (hs : Step P φ n0 M w0 φ1 s.n (hget s.H) w) : ∃ φ2, SRel P (Nx p n0 s2.n) φ2 s2 a w ∧ Step P φ n0 M w0 φ2 s2.n (hget s2.H) w := by
  let φ2 : Vl := ⟨fun k => if n0 ≤ k ∧ k < s2.n then φ1.loc (ρ k) else φ.loc k, fun k => if n0 ≤ k ∧ k < s2.n then φ1.cap (ρ k) else φ.cap k⟩
  have hlow : ∀ k, k < n0 → φ2.loc k = φ.loc k ∧ φ2.cap k = φ.cap k := fun k hk => by simp only [φ2]; rw [if_neg (by omega), if_neg (by omega)]; exact ⟨rfl, rfl⟩
  have hmid : ∀ k, n0 ≤ k → k < s2.n → φ2.loc k = φ1.loc (ρ k) ∧ φ2.cap k = φ1.cap (ρ k) := fun k h1 h2 => by simp only [φ2]; rw [if_pos ⟨h1, h2⟩, if_pos ⟨h1, h2⟩]; exact ⟨rfl, rfl⟩
  have hrn : Rn (Nx p n0 s2.n) ρ φ1 φ2 := fun k hk => by
    rcases hk with hk | hk
    · have hk0 := hp k hk
      rw [(hlow k hk0).1, (hlow k hk0).2, h.low k hk0, (hs.only k (.inl hk0)).1, (hs.only k (.inl hk0)).2]
      exact ⟨rfl, rfl⟩
    · exact hmid k hk.1 hk.2
  have hnx : ∀ k, Nx p n0 s.n (ρ k) ∧ k < s2.n → Nx p n0 s2.n k := fun k hk => by
    by_cases h0 : k < n0
    · have := hk.1
      rw [h.low k h0] at this
      rcases this with h1 | h1
      · exact .inl h1
      · omega
    · exact .inr ⟨by omega, hk.2⟩
  have hscv : ∀ v, sc (Nx p n0 s.n) (ren ρ v) → sc (· < s2.n) v → sc (Nx p n0 s2.n) v := fun v h1 h2 => sc_mono hnx v (sc_ren v h1 h2)
  have hpl : ∀ k, Nx p n0 s.n k ∧ k < n0 → p k := fun k hk => by
    rcases hk.1 with h1 | h1
    · exact h1
    · omega
  have hH : ∀ k b, hget s2.H k = some b → Nx p n0 s2.n k ∧ hget s.H (ρ k) = some (renB ρ b) ∧ scB (Nx p n0 s2.n) b ∧ (BRel P φ1 (ρ k) (renB ρ b) w.heap[φ1.loc (ρ k)]? → BRel P φ2 k b w.heap[φ1.loc (ρ k)]?) ∧ (b.own = false → ρ k = k ∧ renB ρ b = b) := fun k b hk => by
    obtain ⟨h1, h2, h3, h4, h5⟩ := h.heap (k, b) (hget_mem _ _ _ hk)
    have hsm := hS.base.sm _ _ h2
    have hn := hnx k ⟨hsm.1, h1⟩
    rcases heldB_cases h4 with h4 | ⟨g1, g2, g3⟩
    · have := scB_mono hnx _ (scB_ren b h4 hsm.2 h3)
      exact ⟨hn, h2, this, BRel.ren hrn hn h4 this, h5⟩
    · have h6 := hsm.2
      simp only [g2] at h6
      have h7 : scB p b := scB_mono hpl _ (scB_and b h6 g1)
      refine ⟨hn, h2, scB_mono (fun _ h => .inl h) _ h7, fun hb => ?_, h5⟩
      rw [g2] at hb
      refine g3 P p φ1 φ2 _ k _ (fun j hj => ?_) h7 hb
      have hj0 := hp j hj
      rw [(hlow j hj0).1, (hlow j hj0).2, (hs.only j (.inl hj0)).1, (hs.only j (.inl hj0)).2]
      exact ⟨rfl, rfl⟩
  have hlt : ∀ k, Nx p n0 s2.n k → k < s2.n := fun k hk => Nx.lt hp h.le hk
  have hrel : HRel P φ2 (hget s2.H) w := by
    refine ⟨fun k b hk => ?_, fun k b k' b' h1 h2 hne ho => ?_, fun g hg' => ?_⟩
    · obtain ⟨hn, h2, h3, h4, _⟩ := hH k b hk
      rw [(hrn k hn).1]
      exact h4 (hS.base.rel.blk _ _ h2)
    · obtain ⟨n1, e1, _, _, _⟩ := hH k b h1
      obtain ⟨n2, e2, _, _, _⟩ := hH k' b' h2
      rw [(hrn k n1).1, (hrn k' n2).1]
      exact hS.base.rel.apart _ _ _ _ e1 e2 (fun e => hne (h.inj k k' (hlt k n1) (hlt k' n2) e)) (by rw [renB_own]; exact ho)
    · have := hp g (hg g hg')
      rw [(hlow g this).1, ← (hs.only g (.inl this)).1]
      exact hS.base.rel.glob g hg'
  refine ⟨φ2, ⟨⟨hrel, hlt, fun g hg' => .inl (hg g hg'), ?_, fun k b hk => ⟨(hH k b hk).1, (hH k b hk).2.2.1⟩, fun t v hv => ?_, fun t v hv => ?_⟩, ?_, ?_, ?_⟩, h.le, fun k hk => ?_, hrel, fun k b hk ho => ?_, fun k b hk ho => ?_, hs.frm⟩
  · refine Nat.le_of_not_lt fun hc => ?_
    have := hp _ (hg _ hc)
    have := h.le
    omega
  · obtain ⟨h1, h2⟩ := h.fr (t, v) (lk_mem _ _ _ hv)
    have hsf := hS.base.sf t _ h1
    rw [hS.base.ar t _ h1, den_ren hrn v (hscv v hsf h2)]
  · obtain ⟨h1, h2⟩ := h.fr (t, v) (lk_mem _ _ _ hv)
    exact hscv v (hS.base.sf t _ h1) h2
  · rw [h.sz]; exact hS.size
  · rw [h.marks.2, hS.defs, h.marks.1]; rfl
  · rw [h.marks.2]; simp
  · rcases hk with hk | hk
    · exact hlow k hk
    · simp only [φ2]; rw [if_neg (by omega), if_neg (by omega)]; exact ⟨rfl, rfl⟩
  · obtain ⟨hn, h2, _, _, _⟩ := hH k b hk
    rw [(hrn k hn).1]
    exact hs.new _ _ h2 (by rw [renB_own]; exact ho)
  · obtain ⟨hn, h2, _, _, h5⟩ := hH k b hk
    have := hs.inp _ _ h2 (by rw [renB_own]; exact ho)
    rw [(h5 ho).1, (h5 ho).2] at this
    exact this
mutual
def nsp (b : Nat) : Value → Prop
  | .slice (some a) _ _ => a.block = b → a.spot = none
  | .func _ x y => nspL b x.toList ∧ nspL b y.toList
  | .iface _ v => nsp b v
  | .agg cs => nspL b cs.toList
  | .tuple vs => nspL b vs.toList
  | _ => True
def nspL (b : Nat) : List Value → Prop
  | [] => True
  | v :: vs => nsp b v ∧ nspL b vs
end
def agrL (φ ψ : Vl) (b : Nat) : Prop := (∀ k, ψ.loc k = φ.loc k) ∧ ∀ k, k ≠ b → ψ.cap k = φ.cap k
mutual
theorem den_nsp {φ ψ : Vl} {b : Nat} (h : agrL φ ψ b) : ∀ v, nsp b v → den ψ v = den φ v
  | .bool _, _ | .int _ _, _ | .float _ _, _ | .complex _ _ _, _ | .string _, _ | .nilFunc, _ | .nilIface, _ | .chan _, _ => by simp [den]
  | .pointer none, _ | .slice none _ _, _ | .map none, _ => by simp [den]
  | .pointer (some a), _ => by simp [den, h.1]
  | .slice (some ⟨k, o, none⟩) l c, _ => by simp [den, h.1]
  | .slice (some ⟨k, o, some j⟩) l c, hs => by
    have : k ≠ b := fun e => by
      have := hs e
      cases this
    simp [den, h.1, h.2 k this]
  | .map (some r), _ => by simp [den, h.1]
  | .func (.yield l) a c, hs => by
    simp only [nsp] at hs
    simp only [den]
    rw [denL_nsp h _ hs.1, denL_nsp h _ hs.2, h.1]
  | .func (.func f) a c, hs | .func (.method f) a c, hs | .func (.methodOf _ f) a c, hs | .func (.via _ _ f _) a c, hs => by
    simp only [nsp] at hs
    simp only [den]
    rw [denL_nsp h _ hs.1, denL_nsp h _ hs.2]
  | .iface t v, hs => by simp only [den]; rw [den_nsp h v hs]
  | .agg cs, hs => by simp only [den]; rw [denL_nsp h _ hs]
  | .tuple cs, hs => by simp only [den]; rw [denL_nsp h _ hs]
theorem denL_nsp {φ ψ : Vl} {b : Nat} (h : agrL φ ψ b) : ∀ vs, nspL b vs → denL ψ vs = denL φ vs
  | [], _ => rfl
  | v :: vs, hs => by simp only [denL]; rw [den_nsp h v hs.1, denL_nsp h vs hs.2]
end
/-- blocks of the kinds that may stand beside -/
def nspB (b : Nat) : Blk → Prop
  | .cells cs _ | .ext cs _ _ | .inp _ cs | .row cs _ | .tab cs => nspL b cs
  | .iter _ _ | .defd => True
  | _ => False
theorem BRel.nsp {P : Program} {φ ψ : Vl} {b k : Nat} (h : agrL φ ψ b) (hk : k ≠ b) : ∀ {x : Blk} {o : Option Obj}, nspB b x → BRel P φ k x o → BRel P ψ k x o
  | .cells cs t, o, hs, hb => by simp only [BRel] at *; rw [denL_nsp h _ hs]; exact hb
  | .ext cs t sz, o, hs, hb => by simp only [BRel] at *; rw [denL_nsp h _ hs, h.2 k hk]; exact hb
  | .inp o0 cs, o, hs, hb => by simp only [BRel] at *; rw [denL_nsp h _ hs]; exact hb
  | .row cs sz, o, hs, hb => by simp only [BRel] at *; rw [denL_nsp h _ hs, h.2 k hk]; exact hb
  | .tab cs, o, hs, hb => by simp only [BRel] at *; rw [denL_nsp h _ hs]; exact hb
  | .iter _ _, o, _, hb => hb
  | .defd, o, _, hb => hb
theorem Leads.ext {P : Program} {n0 : Nat} {s s2 : St} (b : Nat) (cs : List Value) (t : TypeId) (sz m : Nat) (hb0 : n0 ≤ b ∧ b < s.n) (hb : hget s.H b = some (.cells cs t)) (hl : cs.length = m * sz) (hsz : 0 < sz) (hn : s2.n = s.n) (hz : s2.sz = s.sz) (hm : s2.marks = s.marks)
    (hf : ∀ x ∈ s2.fr, lk s.fr x.1 = some x.2 ∧ nsp b x.2)
    (hh : ∀ x ∈ s2.H, (x.1 = b ∧ x.2 = .ext cs t sz ∧ nspL b cs) ∨ (x.1 ≠ b ∧ hget s.H x.1 = some x.2 ∧ nspB b x.2)) : Leads P n0 s s2 := by
  intro p φ M w0 hg hp a w φ1 hS hs
  let φ2 : Vl := ⟨φ1.loc, fun k => if k = b then m else φ1.cap k⟩
  have ha : agrL φ1 φ2 b := ⟨fun _ => rfl, fun k hk => by simp only [φ2]; rw [if_neg hk]⟩
  have hf' : ∀ t v, lk s2.fr t = some v → lk s.fr t = some v ∧ nsp b v := fun t v h => hf (t, v) (lk_mem _ _ _ h)
  have hh' : ∀ k x, hget s2.H k = some x → (k = b ∧ x = .ext cs t sz ∧ nspL b cs) ∨ (k ≠ b ∧ hget s.H k = some x ∧ nspB b x) := fun k x h => hh (k, x) (hget_mem _ _ _ h)
  have hold : ∀ k x, hget s2.H k = some x → ∃ y, hget s.H k = some y ∧ y.own = x.own := fun k x h => by
    rcases hh' k x h with ⟨rfl, rfl, _⟩ | ⟨_, h, _⟩
    · exact ⟨_, hb, rfl⟩
    · exact ⟨x, h, rfl⟩
  have hrel : HRel P φ2 (hget s2.H) w := by
    refine ⟨fun k x h => ?_, fun k x k' x' h1 h2 hne ho => ?_, hS.base.rel.glob⟩
    · rcases hh' k x h with ⟨rfl, rfl, h3⟩ | ⟨hk, h, h3⟩
      · have := hS.base.rel.blk _ _ hb
        simp only [BRel] at this
        refine ⟨_, this, ?_, ?_, hsz⟩
        · rw [denL_nsp ha _ h3, List.take_of_length_le (by simp)]
        · simp [φ2, hl]
      · exact (hS.base.rel.blk _ _ h).nsp ha hk h3
    · obtain ⟨y, g1, g2⟩ := hold k x h1
      obtain ⟨y', g3, _⟩ := hold k' x' h2
      exact hS.base.rel.apart _ _ _ _ g1 g3 hne (g2.trans ho)
  have hsm : SM (Nx p n0 s.n) (hget s2.H) := fun k x h => by
    rcases hh' k x h with ⟨rfl, rfl, _⟩ | ⟨_, h, _⟩
    · have := hS.base.sm _ _ hb
      exact this
    · exact hS.base.sm _ _ h
  rw [hn]
  refine ⟨φ2, ⟨⟨hrel, hn ▸ hS.base.lt, hS.base.gl, hn ▸ hS.base.gn, hsm, fun t v hv => ?_, fun t v hv => hS.base.sf t v (hf' t v hv).1⟩, hz ▸ hS.size, hm ▸ hS.defs, hm ▸ hS.marks⟩, hs.le, fun k hk => ?_, hrel, fun k x hk ho => ?_, fun k x hk ho => ?_, hs.frm⟩
  · obtain ⟨h1, h2⟩ := hf' t v hv
    rw [hS.base.ar t _ h1, den_nsp ha v h2]
  · have := hs.only k hk
    have hkb : k ≠ b := by omega
    exact ⟨this.1, by rw [ha.2 k hkb]; exact this.2⟩
  · obtain ⟨y, g1, g2⟩ := hold k x hk
    exact hs.new _ _ g1 (g2.trans ho)
  · rcases hh' k x hk with ⟨rfl, rfl, _⟩ | ⟨_, h, _⟩
    · cases ho
    · exact hs.inp _ _ h ho
end Go.Ab

namespace Go.Ab
open Go
theorem AC.given {P : Program} {f : FuncId} {args : List Value} {H : Heap} {n : Nat} {v : Value} {H' : Heap} {n' : Nat} (h : (∀ k b, hget H k = some b → k < n ∧ scB (· < n) b) → scL (· < n) args → P.globals.size ≤ n → AC P f args H n v H' n') : AC P f args H n v H' n' :=
  fun p φ w hB hsc => h (fun k b hk => ⟨hB.lt k (hB.sm k b hk).1, scB_mono hB.lt _ (hB.sm k b hk).2⟩) (scL_mono hB.lt _ hsc) hB.gn p φ w hB hsc
/-- what is true of a part of memory, told of the whole -/
theorem AC.frame {P : Program} {f : FuncId} {args : List Value} {H H0 H1 H2 : Heap} {n n' : Nat} {v : Value} (h : AC P f args H0 n v H1 n') (hsub : ∀ k b, hget H0 k = some b → hget H k = some b)
    (h2 : ∀ k b, hget H2 k = some b → hget H1 k = some b ∨ (hget H k = some b ∧ hget H0 k = none)) : AC P f args H n v H2 n' := by
  intro p φ w hB hsc
  have hB0 : Base P p φ n (hget H0) w [] act0 := ⟨hB.rel.sub hsub, hB.lt, hB.gl, hB.gn, fun k b hk => hB.sm k b (hsub k b hk), fun t v hv => by simp [lk] at hv, fun t v hv => by simp [lk] at hv⟩
  have key : ∀ φ' w', Dn P p φ n (hget H0) w v n' (hget H1) φ' w' → Dn P p φ n (hget H) w v n' (hget H2) φ' w' := by
    intro φ' w' hd
    obtain ⟨hsm, hscv, hst⟩ := hd
    have hagr : Agr p φ φ' := fun k hk => hst.only k (.inl (hB.lt k hk))
    have hloc : ∀ k b, hget H k = some b → φ'.loc k = φ.loc k := fun k b hk => (hagr k (hB.sm k b hk).1).1
    have hkeep : ∀ k b, hget H k = some b → hget H0 k = none → w'.heap[φ.loc k]? = w.heap[φ.loc k]? := fun k b hk hn => hst.frm.keep _ (hB.rel.lt hk) fun j x hj ho => hB.rel.apart j x k b (hsub j x hj) hk (fun e => by subst e; rw [hn] at hj; cases hj) ho
    refine ⟨fun k b hk => ?_, hscv, hst.le, hst.only, ⟨fun k b hk => ?_, fun k b k' b' g1 g2 hne ho => ?_, hst.rel.glob⟩, fun k b hk ho => ?_, fun k b hk ho => ?_, ⟨hst.frm.os, hst.frm.tape, hst.frm.output, hst.frm.size, fun b hb hx => hst.frm.keep b hb fun k x hk ho => hx k x (hsub k x hk) ho⟩⟩
    · rcases h2 k b hk with h | ⟨h, _⟩
      · exact hsm k b h
      · exact ⟨.inl (hB.sm k b h).1, scB_mono (fun _ h => .inl h) _ (hB.sm k b h).2⟩
    · rcases h2 k b hk with h | ⟨h, hn⟩
      · exact hst.rel.blk k b h
      · rw [hloc k b h, hkeep k b h hn]
        exact (hB.rel.blk k b h).congr hagr (hB.sm k b h).1 (hB.sm k b h).2
    · rcases h2 k b g1 with h | ⟨h, hn⟩ <;> rcases h2 k' b' g2 with h' | ⟨h', hn'⟩
      · exact hst.rel.apart k b k' b' h h' hne ho
      · rw [hloc k' b' h']
        rcases hst.new k b h ho with g | ⟨k0, b0, e1, e2, e3⟩
        · have := hB.rel.lt h'
          omega
        · rw [← e3]
          exact hB.rel.apart k0 b0 k' b' (hsub _ _ e1) h' (fun e => by subst e; rw [hn'] at e1; cases e1) e2
      · rw [hloc k b h]
        cases hb : b'.own with
        | true =>
          rcases hst.new k' b' h' hb with g | ⟨k0, b0, e1, e2, e3⟩
          · have := hB.rel.lt h
            omega
          · rw [← e3]
            exact hB.rel.apart k b k0 b0 h (hsub _ _ e1) (fun e => by subst e; rw [hn] at e1; cases e1) ho
        | false =>
          have e1 := hst.inp k' b' h' hb
          rw [hloc k' b' (hsub _ _ e1)]
          exact hB.rel.apart k b k' b' h (hsub _ _ e1) hne ho
      · rw [hloc k b h, hloc k' b' h']
        exact hB.rel.apart k b k' b' h h' hne ho
    · rcases h2 k b hk with h | ⟨h, _⟩
      · rcases hst.new k b h ho with g | ⟨k0, b0, e1, e2, e3⟩
        · exact .inl g
        · exact .inr ⟨k0, b0, hsub _ _ e1, e2, e3⟩
      · exact .inr ⟨k, b, h, ho, (hloc k b h).symm⟩
    · rcases h2 k b hk with h | ⟨h, _⟩
      · exact hsub _ _ (hst.inp k b h ho)
      · exact h
  rcases h p φ w hB0 hsc with ⟨h1, h3⟩ | ⟨φ', w', h1, h3⟩
  · refine .inl ⟨h1, CallsIn.mono h3 fun e w' hh => ?_⟩
    obtain ⟨φ', he, hd⟩ := hh
    exact ⟨φ', he, key φ' w' hd⟩
  · exact .inr ⟨φ', w', h1, key φ' w' h3⟩
/-- the result and its blocks under other names -/
theorem AC.ren {P : Program} {f : FuncId} {args : List Value} {H H1 H2 : Heap} {n n1 n2 : Nat} {u v : Value} (ρ : Nat → Nat) (h : AC P f args H n u H1 n1) (hlow : ∀ k, k < n → ρ k = k) (hle : n ≤ n2) (hv : u = Ab.ren ρ v) (hsv : sc (· < n2) v)
    (hH : ∀ k b, hget H2 k = some b → (hget H k = some b ∧ hget H1 k = some b) ∨ (n ≤ k ∧ k < n2 ∧ n ≤ ρ k ∧ hget H1 (ρ k) = some (renB ρ b) ∧ scB (· < n2) b ∧ carried b ∧ b.own = true))
    (hinj : ∀ j b k c, n ≤ j → n ≤ k → hget H2 j = some b → hget H2 k = some c → ρ j = ρ k → j = k) : AC P f args H n v H2 n2 := by
  intro p φ w hB hsc
  have key : ∀ φ' w', Dn P p φ n (hget H) w u n1 (hget H1) φ' w' → ∃ φ2, den φ' u = den φ2 v ∧ Dn P p φ n (hget H) w v n2 (hget H2) φ2 w' := by
    intro φ' w' hd
    obtain ⟨hsm, hscu, hst⟩ := hd
    let φ2 : Vl := ⟨fun k => if n ≤ k ∧ k < n2 then φ'.loc (ρ k) else φ.loc k, fun k => if n ≤ k ∧ k < n2 then φ'.cap (ρ k) else φ.cap k⟩
    have hoth : ∀ k, ¬ (n ≤ k ∧ k < n2) → φ2.loc k = φ.loc k ∧ φ2.cap k = φ.cap k := fun k hk => by simp only [φ2]; rw [if_neg hk, if_neg hk]; exact ⟨rfl, rfl⟩
    have hmid : ∀ k, n ≤ k ∧ k < n2 → φ2.loc k = φ'.loc (ρ k) ∧ φ2.cap k = φ'.cap (ρ k) := fun k hk => by simp only [φ2]; rw [if_pos hk, if_pos hk]; exact ⟨rfl, rfl⟩
    have hrn : Rn (Nx p n n2) ρ φ' φ2 := fun k hk => by
      rcases hk with hk | hk
      · have hk0 := hB.lt k hk
        rw [(hoth k (by omega)).1, (hoth k (by omega)).2, hlow k hk0, (hst.only k (.inl hk0)).1, (hst.only k (.inl hk0)).2]
        exact ⟨rfl, rfl⟩
      · exact hmid k hk
    have hnx : ∀ k, Nx p n n1 (ρ k) ∧ k < n2 → Nx p n n2 k := fun k hk => by
      by_cases h0 : k < n
      · have := hk.1
        rw [hlow k h0] at this
        rcases this with h1 | h1
        · exact .inl h1
        · omega
      · exact .inr ⟨by omega, hk.2⟩
    have hscv : sc (Nx p n n2) v := sc_mono hnx v (sc_ren v (hv ▸ hscu) hsv)
    have hagr : Agr p φ φ2 := fun k hk => hoth k (by have := hB.lt k hk; omega)
    have hagr' : Agr p φ' φ2 := fun k hk => by
      have h1 := hagr k hk
      have h2 := hst.only k (.inl (hB.lt k hk))
      exact ⟨h1.1.trans h2.1.symm, h1.2.trans h2.2.symm⟩
    have hone : ∀ k b, hget H2 k = some b → (∃ b', hget H1 (ρ k) = some b' ∧ b'.own = b.own) ∧ φ2.loc k = φ'.loc (ρ k) := fun k b hk => by
      rcases hH k b hk with ⟨h1, h2⟩ | ⟨h1, h2, h3, h4, h5, h6, h7⟩
      · have hp := (hB.sm k b h1).1
        have hk0 := hB.lt k hp
        rw [hlow k hk0]
        exact ⟨⟨b, h2, rfl⟩, (hagr' k hp).1⟩
      · exact ⟨⟨_, h4, renB_own _ _⟩, (hmid k ⟨h1, h2⟩).1⟩
    refine ⟨φ2, by rw [hv]; exact den_ren hrn v hscv, fun k b hk => ?_, hscv, hle, fun k hk => hoth k (by omega), ⟨fun k b hk => ?_, fun k b k' b' g1 g2 hne ho => ?_, fun g hg => ?_⟩, fun k b hk ho => ?_, fun k b hk ho => ?_, hst.frm⟩
    · rcases hH k b hk with ⟨h1, h2⟩ | ⟨h1, h2, h3, h4, h5, h6, h7⟩
      · exact ⟨.inl (hB.sm k b h1).1, scB_mono (fun _ h => .inl h) _ (hB.sm k b h1).2⟩
      · exact ⟨.inr ⟨h1, h2⟩, scB_mono hnx _ (scB_ren b h6 (hsm _ _ h4).2 h5)⟩
    · rw [(hone k b hk).2]
      rcases hH k b hk with ⟨h1, h2⟩ | ⟨h1, h2, h3, h4, h5, h6, h7⟩
      · have hp := hB.sm k b h1
        rw [hlow k (hB.lt k hp.1)]
        exact (hst.rel.blk k b h2).congr hagr' hp.1 hp.2
      · exact BRel.ren hrn (.inr ⟨h1, h2⟩) h6 (scB_mono hnx _ (scB_ren b h6 (hsm _ _ h4).2 h5)) (hst.rel.blk _ _ h4)
    · obtain ⟨⟨c, c1, c2⟩, c3⟩ := hone k b g1
      obtain ⟨⟨d, d1, d2⟩, d3⟩ := hone k' b' g2
      rw [c3, d3]
      refine hst.rel.apart _ _ _ _ c1 d1 (fun e => hne ?_) (c2.trans ho)
      rcases hH k b g1 with ⟨h1, _⟩ | ⟨h1, _, h3, _⟩ <;> rcases hH k' b' g2 with ⟨h1', _⟩ | ⟨h1', _, h3', _⟩
      · have hk0 := hB.lt k (hB.sm k b h1).1
        have hk1 := hB.lt k' (hB.sm k' b' h1').1
        rwa [hlow k hk0, hlow k' hk1] at e
      · have hk0 := hB.lt k (hB.sm k b h1).1
        rw [hlow k hk0] at e
        omega
      · have hk1 := hB.lt k' (hB.sm k' b' h1').1
        rw [hlow k' hk1] at e
        omega
      · exact hinj k b k' b' h1 h1' g1 g2 e
    · rw [(hoth g (by have := hB.gn; omega)).1]; exact hB.rel.glob g hg
    · obtain ⟨⟨c, c1, c2⟩, c3⟩ := hone k b hk
      rw [c3]
      exact hst.new _ _ c1 (c2.trans ho)
    · rcases hH k b hk with ⟨h1, _⟩ | ⟨_, _, _, _, _, _, h7⟩
      · exact h1
      · rw [h7] at ho; cases ho
  rcases h p φ w hB hsc with ⟨h1, h3⟩ | ⟨φ', w', h1, h3⟩
  · refine .inl ⟨h1, CallsIn.mono h3 fun e w' hh => ?_⟩
    obtain ⟨φ', he, hd⟩ := hh
    obtain ⟨φ2, e2, hd2⟩ := key φ' w' hd
    exact ⟨φ2, by rw [he, e2], hd2⟩
  · obtain ⟨φ2, e2, hd2⟩ := key φ' w' h3
    exact .inr ⟨φ2, w', by rw [h1, e2], hd2⟩
/-- behind the body: a result 'v' with new blocks 'B', whatever names they now have -/
def Fresh (n n2 : Nat) (H : Heap) (v : Value) (B : Heap) (u : Value) (H1 : Heap) : Prop :=
  ∃ ρ : Nat → Nat, (∀ k, k < n → ρ k = k) ∧ u = ren ρ v ∧ (∀ k b, hget B k = some b → n ≤ k ∧ k < n2 ∧ n ≤ ρ k ∧ hget H1 (ρ k) = some (renB ρ b) ∧ scB (· < n2) b ∧ carried b ∧ b.own = true) ∧
    (∀ j b k c, hget B j = some b → hget B k = some c → ρ j = ρ k → j = k) ∧ ∀ k b, hget H k = some b → hget H1 k = some b
theorem AC.fresh {P : Program} {f : FuncId} {fn : Func} {c : Code} {args : List Value} {H B : Heap} {n n2 : Nat} {v : Value} (hf : P.funcs[f]? = some fn) (hb : fn.body = some c) (he : enterable P f = true) (hlen : Nat.ble args.length fn.ntmps = true) (vs : List Nat) (hle : n ≤ n2) (hsv : sc (· < n2) v) (hnf : ∀ ρ, af (Ab.ren ρ v) = false)
    (h : E P n none c { fr := argsFr args 0, sz := fn.ntmps, H, n, marks := [], vs } (outK P fn (Fresh n n2 H v B))) : AC P f args H n v (B ++ H) n2 := by
  refine AC.given fun hlt _ _ => ?_
  obtain ⟨u, H1, n1, H3, hAC, ⟨ρ, h1, h2, h3, h4, h5⟩, hh⟩ := AC.out hf hb he hlen vs h
  obtain rfl := hh (by rw [h2]; exact hnf ρ)
  have happ : ∀ k b, hget (B ++ H) k = some b → hget B k = some b ∨ (hget B k = none ∧ hget H k = some b) := by
    clear h3 h4 h
    induction B with
    | nil => intro k b hk; exact .inr ⟨rfl, hk⟩
    | cons x B ih =>
      intro k b hk
      obtain ⟨j, y⟩ := x
      rw [List.cons_append, hget_cons] at hk
      rw [hget_cons]
      by_cases e : j = k
      · rw [if_pos e] at hk ⊢; exact .inl hk
      · rw [if_neg e] at hk ⊢; exact ih k b hk
  refine hAC.ren ρ h1 hle h2 hsv (fun k b hk => ?_) fun j b k c hj hk hb hc e => ?_
  · rcases happ k b hk with h | ⟨_, h⟩
    · exact .inr (h3 k b h)
    · exact .inl ⟨h, h5 k b h⟩
  · rcases happ j b hb with g | ⟨_, g⟩
    · rcases happ k c hc with g' | ⟨_, g'⟩
      · exact h4 j b k c g g' e
      · have := (hlt k c g').1
        omega
    · have := (hlt j b g).1
      omega
/-- names above 'n0' put anew; the heap below is carried along as it is -/
theorem Leads.renR {P : Program} {n0 : Nat} {s s2 : St} {A H : Heap} (ρ : Nat → Nat) (hs2 : s2.H = A ++ H) (hold : ∀ k b, hget H k = some b → k < n0 ∧ scB (· < n0) b) (hkeep : ∀ k b, hget H k = some b → hget s.H k = some b) (hlow : ∀ k, k < n0 → ρ k = k) (hle : n0 ≤ s2.n) (hz : s2.sz = s.sz) (hm : s.marks = [] ∧ s2.marks = [])
    (hf : ∀ t v, lk s2.fr t = some v → (lk s.fr t = some v ∧ sc (· < n0) v) ∨ (lk s.fr t = some (Ab.ren ρ v) ∧ sc (· < s2.n) v))
    (hA : ∀ x ∈ A, n0 ≤ x.1 ∧ x.1 < s2.n ∧ n0 ≤ ρ x.1 ∧ hget s.H (ρ x.1) = some (renB ρ x.2) ∧ scB (· < s2.n) x.2 ∧ carried x.2 ∧ x.2.own = true) (hinj : ∀ x ∈ A, ∀ y ∈ A, ρ x.1 = ρ y.1 → x.1 = y.1) : Leads P n0 s s2 := by
  intro p φ M w0 hg hp a w φ1 hS hs
  let φ2 : Vl := ⟨fun k => if n0 ≤ k ∧ k < s2.n then φ1.loc (ρ k) else φ.loc k, fun k => if n0 ≤ k ∧ k < s2.n then φ1.cap (ρ k) else φ.cap k⟩
  have hl2 : ∀ k, k < n0 → φ2.loc k = φ.loc k ∧ φ2.cap k = φ.cap k := fun k hk => by simp only [φ2]; rw [if_neg (by omega), if_neg (by omega)]; exact ⟨rfl, rfl⟩
  have hmid : ∀ k, n0 ≤ k → k < s2.n → φ2.loc k = φ1.loc (ρ k) ∧ φ2.cap k = φ1.cap (ρ k) := fun k h1 h2 => by simp only [φ2]; rw [if_pos ⟨h1, h2⟩, if_pos ⟨h1, h2⟩]; exact ⟨rfl, rfl⟩
  have hrn : Rn (Nx p n0 s2.n) ρ φ1 φ2 := fun k hk => by
    rcases hk with hk | hk
    · have hk0 := hp k hk
      rw [(hl2 k hk0).1, (hl2 k hk0).2, hlow k hk0, (hs.only k (.inl hk0)).1, (hs.only k (.inl hk0)).2]
      exact ⟨rfl, rfl⟩
    · exact hmid k hk.1 hk.2
  have hnx : ∀ k, Nx p n0 s.n (ρ k) ∧ k < s2.n → Nx p n0 s2.n k := fun k hk => by
    by_cases h0 : k < n0
    · have := hk.1
      rw [hlow k h0] at this
      rcases this with h1 | h1
      · exact .inl h1
      · omega
    · exact .inr ⟨by omega, hk.2⟩
  have hpl : ∀ k, Nx p n0 s.n k ∧ k < n0 → p k := fun k hk => by
    rcases hk.1 with h1 | h1
    · exact h1
    · omega
  have hagr : Agr p φ1 φ2 := fun k hk => by
    have hk0 := hp k hk
    rw [(hl2 k hk0).1, (hl2 k hk0).2, (hs.only k (.inl hk0)).1, (hs.only k (.inl hk0)).2]
    exact ⟨rfl, rfl⟩
  have hM : ∀ k b, hget s2.H k = some b → ((k, b) ∈ A) ∨ hget H k = some b := by
    rw [hs2]
    clear hA hs2 hinj
    induction A with
    | nil => intro k b hk; exact .inr hk
    | cons x A ih =>
      intro k b hk
      obtain ⟨j, y⟩ := x
      rw [List.cons_append, hget_cons] at hk
      by_cases e : j = k
      · rw [if_pos e] at hk; injection hk with hk; subst e hk; exact .inl (List.mem_cons_self ..)
      · rw [if_neg e] at hk
        rcases ih k b hk with h | h
        · exact .inl (List.mem_cons_of_mem _ h)
        · exact .inr h
  have old : ∀ k b, hget H k = some b → p k ∧ scB p b ∧ hget s.H k = some b ∧ k < n0 := fun k b hk => by
    obtain ⟨h1, h2⟩ := hold k b hk
    have h3 := hkeep k b hk
    have h4 := hS.base.sm k b h3
    exact ⟨hpl k ⟨h4.1, h1⟩, scB_mono hpl _ (scB_and b h4.2 h2), h3, h1⟩
  have hone : ∀ k b, hget s2.H k = some b → Nx p n0 s2.n k ∧ scB (Nx p n0 s2.n) b ∧ (∃ b', hget s.H (ρ k) = some b' ∧ b'.own = b.own) ∧ φ2.loc k = φ1.loc (ρ k) ∧ BRel P φ2 k b w.heap[φ1.loc (ρ k)]? := fun k b hk => by
    rcases hM k b hk with h | h
    · obtain ⟨h1, h2, _, h3, h4, h5, h6⟩ := hA (k, b) h
      have hn' : Nx p n0 s2.n k := .inr ⟨h1, h2⟩
      have hsc := scB_mono hnx _ (scB_ren b h5 (hS.base.sm _ _ h3).2 h4)
      exact ⟨hn', hsc, ⟨_, h3, renB_own _ _⟩, (hrn k hn').1, BRel.ren hrn hn' h5 hsc (hS.base.rel.blk _ _ h3)⟩
    · obtain ⟨h1, h2, h3, h4⟩ := old k b h
      have e : ρ k = k := hlow k h4
      rw [e]
      exact ⟨.inl h1, scB_mono (fun _ h => .inl h) _ h2, ⟨b, h3, rfl⟩, (hagr k h1).1, (hS.base.rel.blk k b h3).congr hagr h1 h2⟩
  have hlt : ∀ k, Nx p n0 s2.n k → k < s2.n := fun k hk => Nx.lt hp hle hk
  have hrinj : ∀ k b k' b', hget s2.H k = some b → hget s2.H k' = some b' → ρ k = ρ k' → k = k' := fun k b k' b' g1 g2 e => by
    rcases hM k b g1 with h | h <;> rcases hM k' b' g2 with h' | h'
    · exact hinj (k, b) h (k', b') h' e
    · have h1 := (hA (k, b) h).2.2.1
      have h3 := (old k' b' h').2.2.2
      rw [hlow k' h3] at e
      dsimp only at h1
      omega
    · have h1 := (hA (k', b') h').2.2.1
      have h3 := (old k b h).2.2.2
      rw [hlow k h3] at e
      dsimp only at h1
      omega
    · have h3 := (old k b h).2.2.2
      have h4 := (old k' b' h').2.2.2
      rwa [hlow k h3, hlow k' h4] at e
  have hrel : HRel P φ2 (hget s2.H) w := by
    refine ⟨fun k b hk => ?_, fun k b k' b' h1 h2 hne ho => ?_, fun g hg' => ?_⟩
    · obtain ⟨_, _, _, h4, h5⟩ := hone k b hk
      rw [h4]; exact h5
    · obtain ⟨_, _, ⟨c, c1, c2⟩, c3, _⟩ := hone k b h1
      obtain ⟨_, _, ⟨d, d1, _⟩, d3, _⟩ := hone k' b' h2
      rw [c3, d3]
      exact hS.base.rel.apart _ _ _ _ c1 d1 (fun e => hne (hrinj k b k' b' h1 h2 e)) (c2.trans ho)
    · have := hp g (hg g hg')
      rw [(hl2 g this).1, ← (hs.only g (.inl this)).1]
      exact hS.base.rel.glob g hg'
  have hfr : ∀ t v, lk s2.fr t = some v → ∃ u, lk s.fr t = some u ∧ den φ1 u = den φ2 v ∧ sc (Nx p n0 s2.n) v := fun t v hv => by
    rcases hf t v hv with ⟨h1, h2⟩ | ⟨h1, h2⟩
    · have hsf := hS.base.sf t _ h1
      have hsp : sc p v := sc_mono hpl v (sc_and v hsf h2)
      exact ⟨v, h1, (den_congr hagr v hsp).symm, sc_mono (fun _ h => .inl h) v hsp⟩
    · have hsf := hS.base.sf t _ h1
      have hsv : sc (Nx p n0 s2.n) v := sc_mono hnx v (sc_ren v hsf h2)
      exact ⟨_, h1, den_ren hrn v hsv, hsv⟩
  refine ⟨φ2, ⟨⟨hrel, hlt, fun g hg' => .inl (hg g hg'), ?_, fun k b hk => ⟨(hone k b hk).1, (hone k b hk).2.1⟩, fun t v hv => ?_, fun t v hv => ?_⟩, ?_, ?_, ?_⟩, hle, fun k hk => ?_, hrel, fun k b hk ho => ?_, fun k b hk ho => ?_, hs.frm⟩
  · refine Nat.le_of_not_lt fun hc => ?_
    have := hp _ (hg _ hc)
    omega
  · obtain ⟨u, h1, h2, _⟩ := hfr t v hv
    rw [hS.base.ar t _ h1, h2]
  · exact (hfr t v hv).choose_spec.2.2
  · rw [hz]; exact hS.size
  · rw [hm.2, hS.defs, hm.1]; rfl
  · rw [hm.2]; simp
  · rcases hk with hk | hk
    · exact hl2 k hk
    · simp only [φ2]; rw [if_neg (by omega), if_neg (by omega)]; exact ⟨rfl, rfl⟩
  · obtain ⟨_, _, ⟨c, c1, c2⟩, c3, _⟩ := hone k b hk
    rw [c3]
    exact hs.new _ _ c1 (c2.trans ho)
  · rcases hM k b hk with h | h
    · rw [(hA (k, b) h).2.2.2.2.2.2] at ho; cases ho
    · exact hs.inp k b (hkeep k b h) ho
/-- the same by a list of names -/
theorem Leads.renN {P : Program} {n0 : Nat} {s s2 : St} {A H : Heap} (olds : List Nat) (hs2 : s2.H = A ++ H) (hold : ∀ k b, hget H k = some b → k < n0 ∧ scB (· < n0) b) (hkeep : ∀ k b, hget H k = some b → hget s.H k = some b) (ho : oldsOk n0 s.n olds = true) (hn : s2.n = n0 + olds.length) (hz : s2.sz = s.sz) (hm : s.marks = [] ∧ s2.marks = [])
    (hf : ∀ x ∈ s2.fr, (lk s.fr x.1 = some x.2 ∧ sc (· < n0) x.2) ∨ (lk s.fr x.1 = some (Ab.ren (rnm n0 olds) x.2) ∧ sc (· < s2.n) x.2))
    (hA : ∀ x ∈ A, n0 ≤ x.1 ∧ x.1 < s2.n ∧ hget s.H (rnm n0 olds x.1) = some (renB (rnm n0 olds) x.2) ∧ scB (· < s2.n) x.2 ∧ carried x.2 ∧ x.2.own = true) : Leads P n0 s s2 := by
  obtain ⟨hk, hd⟩ := oldsOk_spec olds ho
  have hlow : ∀ k, k < n0 → rnm n0 olds k = k := fun k h => by unfold rnm; rw [if_pos h]
  have hget' : ∀ k, n0 ≤ k → k < s2.n → ∃ h : k - n0 < olds.length, rnm n0 olds k = olds[k - n0] := fun k h1 h2 => by
    refine ⟨by omega, ?_⟩
    unfold rnm
    rw [if_neg (by omega), List.getD_eq_getElem?_getD, List.getElem?_eq_getElem (by omega)]
    rfl
  have hhigh : ∀ k, n0 ≤ k → k < s2.n → n0 ≤ rnm n0 olds k ∧ rnm n0 olds k < s.n := fun k h1 h2 => by
    obtain ⟨h, e⟩ := hget' k h1 h2
    rw [e]; exact hk _ (List.getElem_mem h)
  have hinj : ∀ j k, n0 ≤ j → j < s2.n → n0 ≤ k → k < s2.n → rnm n0 olds j = rnm n0 olds k → j = k := fun j k a1 a2 b1 b2 he => by
    obtain ⟨h, e⟩ := hget' j a1 a2
    obtain ⟨h', e'⟩ := hget' k b1 b2
    rw [e, e'] at he
    have hne : ∀ (x y : Nat) (hx : x < olds.length) (hy : y < olds.length), x < y → olds[x] ≠ olds[y] := fun x y hx hy hlt => List.pairwise_iff_getElem.1 hd x y hx hy hlt
    rcases Nat.lt_trichotomy (j - n0) (k - n0) with hlt | heq | hlt
    · exact absurd he (hne _ _ _ _ hlt)
    · omega
    · exact absurd he.symm (hne _ _ _ _ hlt)
  refine Leads.renR (rnm n0 olds) hs2 hold hkeep hlow (by omega) hz hm (fun t v hv => hf (t, v) (lk_mem _ _ _ hv)) (fun x hx => ?_) fun x hx y hy e => ?_
  · obtain ⟨h1, h2, h3, h4, h5, h6⟩ := hA x hx
    exact ⟨h1, h2, (hhigh _ h1 h2).1, h3, h4, h5, h6⟩
  · obtain ⟨h1, h2, _⟩ := hA x hx
    obtain ⟨h1', h2', _⟩ := hA y hy
    exact hinj _ _ h1 h2 h1' h2' e
end Go.Ab

namespace Go.Ab
open Go
def cellB (o : Nat) : Blk → Option Value
  | .cells cs _ => cs[o]?
  | .ext cs _ _ => cs[o]?
  | .row cs _ => cs[o]?
  | .inp o' cs => if o' ≤ o then cs[o - o']? else none
  | _ => none
theorem cellA_eq (H : Heap) (k o : Nat) : cellA H k o = (hget H k).bind (cellB o) := by
  unfold cellA
  cases hget H k with
  | none => rfl
  | some b => cases b <;> rfl
def cellsB (o n : Nat) : Blk → Option (List Value)
  | .cells cs _ => if o + n ≤ cs.length then some ((cs.drop o).take n) else none
  | .ext cs _ _ => if o + n ≤ cs.length then some ((cs.drop o).take n) else none
  | .row cs _ => if o + n ≤ cs.length then some ((cs.drop o).take n) else none
  | .inp o' cs => if o' ≤ o ∧ o - o' + n ≤ cs.length then some ((cs.drop (o - o')).take n) else none
  | _ => none
theorem cellsA_eq (H : Heap) (k o n : Nat) : cellsA H k o n = (hget H k).bind (cellsB o n) := by
  unfold cellsA
  cases hget H k with
  | none => rfl
  | some b => cases b <;> rfl
theorem cellsA_cell {H : Heap} {k o n : Nat} {cs : List Value} (h : cellsA H k o n = some cs) {i : Nat} (hi : i < n) : cellA H k (o + i) = cs[i]? ∧ cs.length = n := by
  rw [cellsA_eq] at h
  rw [cellA_eq]
  cases hb : hget H k with
  | none => rw [hb] at h; cases h
  | some b =>
    rw [hb] at h
    simp only [Option.bind_some] at h ⊢
    cases b <;> simp only [cellsB, cellB] at h ⊢
    all_goals first
      | (split at h
         · rename_i hc
           injection h with h; subst h
           refine ⟨?_, by simp; omega⟩
           first
             | (rw [if_pos (by omega), List.getElem?_take, if_pos hi, List.getElem?_drop]; congr 1; omega)
             | (rw [List.getElem?_take, if_pos hi, List.getElem?_drop])
         · cases h)
      | cases h
theorem cellsA_lt {H : Heap} {n k o m : Nat} {v : List Value} (hl : ∀ k b, hget H k = some b → k < n) (h : cellsA H k o m = some v) : k < n := by
  rw [cellsA_eq] at h
  cases hb : hget H k with
  | none => rw [hb] at h; cases h
  | some b => exact hl k b hb
def Sub (H H' : Heap) : Prop := ∀ k b, hget H k = some b → hget H' k = some b
theorem Sub.refl (H : Heap) : Sub H H := fun _ _ h => h
theorem Sub.cons {H H' : Heap} {j : Nat} {b : Blk} (hj : hget H j = none) (h : Sub H H') : Sub H ((j, b) :: H') := fun k c hk => by
  rw [hget_cons, if_neg]
  · exact h k c hk
  · intro e; subst e; rw [hj] at hk; cases hk
theorem Sub.app {H H' A : Heap} (hA : ∀ x ∈ A, hget H x.1 = none) (h : Sub H H') : Sub H (A ++ H') := by
  induction A with
  | nil => exact h
  | cons x A ih => exact Sub.cons (hA x (List.mem_cons_self ..)) (ih fun y hy => hA y (List.mem_cons_of_mem _ hy))
theorem Sub.trans {H H1 H2 : Heap} (h1 : Sub H H1) (h2 : Sub H1 H2) : Sub H H2 := fun k b h => h2 k b (h1 k b h)
theorem Sub.cell {H H' : Heap} (h : Sub H H') {k o : Nat} {v : Value} (hc : cellA H k o = some v) : cellA H' k o = some v := by
  rw [cellA_eq] at hc ⊢
  cases hb : hget H k with
  | none => rw [hb] at hc; cases hc
  | some b => rw [hb] at hc; rw [h k b hb]; exact hc
theorem Sub.cells {H H' : Heap} (h : Sub H H') {k o n : Nat} {v : List Value} (hc : cellsA H k o n = some v) : cellsA H' k o n = some v := by
  rw [cellsA_eq] at hc ⊢
  cases hb : hget H k with
  | none => rw [hb] at hc; cases hc
  | some b => rw [hb] at hc; rw [h k b hb]; exact hc
theorem no_new {H : Heap} {n : Nat} (hl : ∀ k b, hget H k = some b → k < n) : hget H n = none ∧ ∀ c, hget H (n + c) = none := by
  have go : ∀ c, hget H (n + c) = none := fun c => by
    cases hb : hget H (n + c) with
    | none => rfl
    | some b => have := hl _ _ hb; omega
  exact ⟨go 0, go⟩
def plainB2 : Blk → Bool
  | .cells _ _ | .ext _ _ _ | .inp _ _ | .row _ _ | .tab _ => true
  | _ => false
def plainH : Heap → Bool
  | [] => true
  | (_, b) :: H => plainB2 b && plainH H
def tidyL (H : Heap) (n : Nat) : List Nat → Heap
  | [] => []
  | k :: ks => match hget H k with
    | some b => if k < n ∧ plainB2 b = true then (k, b) :: tidyL H n ks else tidyL H n ks
    | none => tidyL H n ks
/-- the plain blocks below 'n' -/
def tidy (n : Nat) (H : Heap) : Heap := tidyL H n (H.map (·.1))
theorem hget_tidyL {H : Heap} {n : Nat} : ∀ (ks : List Nat) (k : Nat) (b : Blk), hget (tidyL H n ks) k = some b ↔ k ∈ ks ∧ hget H k = some b ∧ k < n ∧ plainB2 b = true
  | [], k, b => by simp [tidyL]
  | j :: ks, k, b => by
    have ih := hget_tidyL (H := H) (n := n) ks k b
    unfold tidyL
    cases hj : hget H j with
    | none =>
      simp only
      rw [ih]
      constructor
      · rintro ⟨h1, h2⟩; exact ⟨List.mem_cons_of_mem _ h1, h2⟩
      · rintro ⟨h1, h2, h3⟩
        rcases List.mem_cons.1 h1 with rfl | h1
        · rw [hj] at h2; cases h2
        · exact ⟨h1, h2, h3⟩
    | some c =>
      simp only
      by_cases hc : j < n ∧ plainB2 c = true
      · rw [if_pos hc, hget_cons]
        by_cases e : j = k
        · subst e
          rw [if_pos rfl]
          constructor
          · intro h; injection h with h; subst h; exact ⟨List.mem_cons_self .., hj, hc⟩
          · rintro ⟨_, h2, _⟩; rw [hj] at h2; exact h2
        · rw [if_neg e, ih]
          constructor
          · rintro ⟨h1, h2⟩; exact ⟨List.mem_cons_of_mem _ h1, h2⟩
          · rintro ⟨h1, h2⟩
            rcases List.mem_cons.1 h1 with rfl | h1
            · exact absurd rfl e
            · exact ⟨h1, h2⟩
      · rw [if_neg hc, ih]
        constructor
        · rintro ⟨h1, h2⟩; exact ⟨List.mem_cons_of_mem _ h1, h2⟩
        · rintro ⟨h1, h2, h3⟩
          rcases List.mem_cons.1 h1 with rfl | h1
          · rw [hj] at h2; injection h2 with h2; subst h2; exact absurd h3 hc
          · exact ⟨h1, h2, h3⟩
theorem hget_tidy {H : Heap} {n k : Nat} {b : Blk} : hget (tidy n H) k = some b ↔ hget H k = some b ∧ k < n ∧ plainB2 b = true := by
  rw [tidy, hget_tidyL]
  constructor
  · exact fun h => h.2
  · exact fun h => ⟨List.mem_map.2 ⟨(k, b), hget_mem _ _ _ h.1, rfl⟩, h⟩
theorem namesOk_tidyL {H : Heap} {n : Nat} : ∀ (ks : List Nat), namesOk n (tidyL H n ks) = true ∧ plainH (tidyL H n ks) = true
  | [] => ⟨rfl, rfl⟩
  | k :: ks => by
    have ih := namesOk_tidyL (H := H) (n := n) ks
    unfold tidyL
    cases hget H k with
    | none => exact ih
    | some b =>
      simp only
      split
      · rename_i hc
        refine ⟨?_, by simp [plainH, hc.2, ih.2]⟩
        simp only [namesOk]
        rw [(blt_iff _ _).2 hc.1]
        exact ih.1
      · exact ih
theorem namesOk_mono {m n : Nat} (h : n ≤ m) : ∀ H : Heap, namesOk n H = true → namesOk m H = true
  | [], _ => rfl
  | (k, b) :: H, hk => by
    simp only [namesOk] at hk ⊢
    split at hk
    · rename_i hb
      have := (blt_iff _ _).1 hb
      rw [(blt_iff _ _).2 (by omega : k < m)]
      exact namesOk_mono h H hk
    · cases hk
/-- for a contract that looks at plain blocks alone: names in order, plain kinds -/
theorem AC.tidied {P : Program} {f : FuncId} {args : List Value} {H B : Heap} {n : Nat} {v : Value} {n' : Nat} (hB : ∀ x ∈ B, n ≤ x.1) (h : AC P f args (Ab.tidy n H) n v (B ++ Ab.tidy n H) n') : AC P f args H n v (B ++ H) n' := by
  refine AC.given fun hlt _ _ => ?_
  refine h.frame (fun k b hk => (hget_tidy.1 hk).1) fun k b hk => ?_
  have go : ∀ (B : Heap), (∀ x ∈ B, n ≤ x.1) → hget (B ++ H) k = some b → hget (B ++ Ab.tidy n H) k = some b ∨ (hget H k = some b ∧ hget (Ab.tidy n H) k = none) := by
    intro B
    induction B with
    | nil =>
      intro _ hk
      cases ht : hget (Ab.tidy n H) k with
      | none => exact .inr ⟨hk, rfl⟩
      | some c =>
        have h1 := (hget_tidy.1 ht).1
        rw [show hget H k = some b from hk] at h1
        injection h1 with h1; subst h1
        exact .inl ht
    | cons x B ih =>
      intro hB hk
      obtain ⟨j, y⟩ := x
      rw [List.cons_append, hget_cons] at hk ⊢
      by_cases e : j = k
      · rw [if_pos e] at hk ⊢; exact .inl hk
      · rw [if_neg e] at hk ⊢
        exact ih (fun x hx => hB x (List.mem_cons_of_mem _ hx)) hk
  exact go B hB hk
theorem cellsA_tidy {H : Heap} {n k o m : Nat} (hl : ∀ k b, hget H k = some b → k < n) {cs : List Value} (h : cellsA H k o m = some cs) : cellsA (tidy n H) k o m = some cs := by
  rw [cellsA_eq] at h ⊢
  cases hb : hget H k with
  | none => rw [hb] at h; cases h
  | some b =>
    rw [hb] at h
    have hp : plainB2 b = true := by
      cases b <;> first | rfl | cases h
    rw [hget_tidy.2 ⟨hb, hl k b hb, hp⟩]
    exact h
def frz : Blk → Blk
  | .cells cs _ => .inp 0 cs
  | .ext cs _ sz => .row cs sz
  | b => b
def frzH : Heap → Heap
  | [] => []
  | (k, b) :: H => (k, frz b) :: frzH H
theorem hget_frz : ∀ (H : Heap) (k : Nat), hget (frzH H) k = (hget H k).map frz
  | [], _ => rfl
  | (j, b) :: H, k => by
    rw [frzH, hget_cons, hget_cons, hget_frz H k]
    by_cases h : j = k
    · rw [if_pos h, if_pos h]; rfl
    · rw [if_neg h, if_neg h]
theorem cellsA_frz (H : Heap) (k o n : Nat) : cellsA (frzH H) k o n = cellsA H k o n := by
  rw [cellsA_eq, cellsA_eq, hget_frz]
  cases hget H k with
  | none => rfl
  | some b => cases b <;> simp [frz, cellsB]
theorem handA_frz : ∀ (H : Heap) (L : List Nat), (∀ x ∈ H, memN L x.1 = true) → plainH H = true → handA L [] H = frzH H
  | [], _, _, _ => rfl
  | (k, b) :: H, L, hL, hp => by
    simp only [plainH, Bool.and_eq_true] at hp
    have ih := handA_frz H L (fun x hx => hL x (List.mem_cons_of_mem _ hx)) hp.2
    have hk := hL (k, b) (List.mem_cons_self ..)
    have hp1 := hp.1
    cases b <;> first | (simp only [handA, memN, hk, ih, frzH, frz]; done) | cases hp1
theorem dnames_plain : ∀ (H : Heap), plainH H = true → dnames H = H.map (·.1)
  | [], _ => rfl
  | (k, b) :: H, hp => by
    simp only [plainH, Bool.and_eq_true] at hp
    have ih := dnames_plain H hp.2
    have hp1 := hp.1
    cases b <;> first | (simp only [dnames, ih, List.map_cons]; done) | cases hp1
theorem handA_dnames {H : Heap} (h : plainH H = true) : handA (dnames H) [] H = frzH H :=
  handA_frz H _ (fun x hx => (memN_iff _ _).2 (by rw [dnames_plain H h]; exact List.mem_map_of_mem hx)) h
theorem takeNew_frz {H : Heap} {n : Nat} (h : namesOk n H = true) : takeNew n (frzH H) = [] := by
  cases H with
  | nil => rfl
  | cons x H =>
    obtain ⟨k, b⟩ := x
    have := namesOk_mem _ _ h (k, b) (List.mem_cons_self ..)
    rw [frzH, takeNew, ble_dec]
    rw [decide_eq_false (by omega)]
def handU (P : Program) (r : Rec) (mk : List Nat) (i : Nat) (o : Oper) (fr : Fr) (st : St) : Option St :=
  match runOp P r o { st with fr := fr, H := frzH st.H } with
  | some (v, H, k) => match Nat.ble st.n k && namesOk k (takeNew st.n H) && (Nat.beq k st.n || memN mk i) with
    | true => some { st with fr := putA st.fr o.dst v, H := takeNew st.n H ++ st.H, n := k }
    | false => none
  | none => none
def doneU (P : Program) (r : Rec) (al mk late : List Nat) (n0 i : Nat) (o : Oper) (fr : Fr) (st : St) : Option St :=
  match isPure o.op with
  | true => pureS P o fr st
  | false => match isRead o.op with
    | true => match footA P fr o.op with
      | some f => readT P late n0 i o fr st f.see
      | none => none
    | false => match memN al i with
      | true => aloneT P r mk i o fr st
      | false => match footA P fr o.op with
        | some f => match f.put.isEmpty && visT late n0 i st.n f.see with
          | true => handT P r mk i o f.see fr st
          | false => none
        | none => match memN late i && plainH st.H with
          | true => handU P r mk i o fr st
          | false => none
def oneU (P : Program) (r : Rec) (ops : Array Oper) (al mk late : List Nat) (n0 i : Nat) (o : Oper) (st : St) : Option St :=
  match dstOk st.sz o.dst with
  | false => none
  | true => match wantedA ops (trim (lookTmps ops o) st.fr) o with
    | none => none
    | some false => some { st with fr := putA st.fr o.dst undefV }
    | some true => doneU P r al mk late n0 i o (trim (lookTmps ops o) st.fr) st
def opsU (P : Program) (r : Rec) (ops : Array Oper) (al mk late : List Nat) (n0 : Nat) : List Oper → Nat → St → Option St
  | [], _, st => some st
  | o :: os, i, st => match oneU P r ops al mk late n0 i o st with
    | some st' => opsU P r ops al mk late n0 os (i + 1) st'
    | none => none
def runU (P : Program) (r : Rec) (ops : Array Oper) (al mk late : List Nat) (st : St) : Option St :=
  match namesOk st.n st.H with
  | true => opsU P r ops al mk late st.n ops.toList 0 st
  | false => none
theorem opsU_ok {P : Program} {r : Rec} {ops : Array Oper} {al mk late : List Nat} {n0 : Nat} : ∀ (os : List Oper) (i : Nat) (st st' : St), opsU P r ops al mk late n0 os i st = some st' → opsT P r ops al mk late n0 os i st = some st'
  | [], _, _, _, h => h
  | o :: os, i, st, st', h => by
    simp only [opsU] at h
    split at h
    · rename_i st1 h1
      have key : oneT P r ops al mk late n0 i o st = some st1 := by
        unfold oneU at h1
        unfold oneT
        split at h1
        · cases h1
        · rename_i hd
          rw [hd]
          simp only
          split at h1
          · cases h1
          · rename_i hw; rw [hw]; exact h1
          · rename_i hw
            rw [hw]
            simp only
            unfold doneU at h1
            unfold doneT
            split at h1
            · rename_i hp; rw [hp]; exact h1
            · rename_i hp
              rw [hp]
              simp only
              split at h1
              · rename_i hrd; rw [hrd]; exact h1
              · rename_i hrd
                rw [hrd]
                simp only
                split at h1
                · rename_i hm; rw [hm]; exact h1
                · rename_i hm
                  rw [hm]
                  simp only
                  split at h1
                  · rename_i f hf; rw [hf]; exact h1
                  · rename_i hf
                    rw [hf]
                    simp only
                    split at h1
                    · rename_i hc
                      rw [Bool.and_eq_true] at hc
                      rw [hc.1]
                      simp only
                      unfold handT
                      rw [handA_dnames hc.2]
                      exact h1
                    · cases h1
      simp only [opsT, key]
      exact opsU_ok os (i + 1) st1 st' h
    · cases h
section
variable {P : Program} {n0 : Nat} {ro : Option Nat} {st st' : St} {K : Ex → St → Prop} {r : Rec} {m : Nat}
theorem E.drawU (hm : P.follows .mixedOrders = true) (hr : RecOk P r m) (al mk late : List Nat) {id : Nat} {ops : Array Oper} (hd : drawT ops (Region.before ops) al mk late = true) (h : runU P r ops al mk late st = some st') (k : K .normal st') : E P n0 ro (.region id ops true) st K := by
  refine E.drawC hm hr al mk late hd ?_ k
  unfold runU at h
  unfold runT
  split at h
  · rename_i hn; rw [hn]; exact opsU_ok _ _ _ _ h
  · cases h
end
attribute [simp] runU opsU oneU doneU handU frz frzH plainH plainB2 cellB cellsB
end Go.Ab

namespace Go.Ab
open Go
/-- the same state, less known of it -/
theorem Leads.keep {P : Program} {n0 : Nat} {s s2 : St} (hn : s2.n = s.n) (hz : s2.sz = s.sz) (hm : s2.marks = s.marks) (hf : ∀ x ∈ s2.fr, lk s.fr x.1 = some x.2) (hh : Sub s2.H s.H) : Leads P n0 s s2 := by
  intro p φ M w0 hg hp a w φ1 hS hs
  have hf' : ∀ t v, lk s2.fr t = some v → lk s.fr t = some v := fun t v h => hf (t, v) (lk_mem _ _ _ h)
  rw [hn]
  exact ⟨φ1, ⟨⟨hS.base.rel.sub hh, hn ▸ hS.base.lt, hS.base.gl, hn ▸ hS.base.gn, fun k b hk => hS.base.sm k b (hh k b hk), fun t v hv => hS.base.ar t v (hf' t v hv), fun t v hv => hS.base.sf t v (hf' t v hv)⟩, hz ▸ hS.size, hm ▸ hS.defs, hm ▸ hS.marks⟩, hs.sub hh⟩
def mapO {α β : Type} (f : β → Option α) : List β → Option (List α)
  | [] => some []
  | x :: xs => match f x, mapO f xs with
    | some y, some ys => some (y :: ys)
    | _, _ => none
def chunks (sz : Nat) : Nat → List Value → List (List Value)
  | 0, _ => []
  | k + 1, cs => cs.take sz :: chunks sz k (cs.drop sz)
theorem mapO_get {α β : Type} {f : β → Option α} : ∀ {xs : List β} {ys : List α}, mapO f xs = some ys → xs.length = ys.length ∧ ∀ (i : Nat) x, xs[i]? = some x → f x = ys[i]?
  | [], ys, h => by simp only [mapO, Option.some.injEq] at h; subst h; exact ⟨rfl, fun i x hx => by simp at hx⟩
  | x :: xs, ys, h => by
    simp only [mapO] at h
    split at h
    · rename_i y ys' h1 h2
      injection h with h; subst h
      obtain ⟨e1, e2⟩ := mapO_get h2
      refine ⟨by simp [e1], fun i z hz => ?_⟩
      cases i with
      | zero => simp at hz ⊢; subst hz; exact h1
      | succ i => simp at hz ⊢; exact e2 i z hz
    · cases h
theorem mapO_of {α β : Type} {f : β → Option α} : ∀ {xs : List β} {ys : List α}, xs.length = ys.length → (∀ (i : Nat) x, xs[i]? = some x → f x = ys[i]?) → mapO f xs = some ys
  | [], ys, h, _ => by cases ys with | nil => rfl | cons => simp at h
  | x :: xs, [], h, _ => by simp at h
  | x :: xs, y :: ys, h, hg => by
    have h0 := hg 0 x rfl
    have ih := mapO_of (xs := xs) (ys := ys) (by simpa using h) fun i z hz => by simpa using hg (i + 1) z (by simpa using hz)
    simp only [mapO, h0, ih, List.getElem?_cons_zero]
theorem mapO_mono {α β : Type} {f g : β → Option α} (h : ∀ x y, f x = some y → g x = some y) : ∀ {xs : List β} {ys : List α}, mapO f xs = some ys → mapO g xs = some ys
  | [], _, e => e
  | x :: xs, ys, e => by
    simp only [mapO] at e ⊢
    split at e
    · rename_i y ys' h1 h2
      rw [h x y h1, mapO_mono h h2]; exact e
    · cases e
theorem chunks_len (sz : Nat) : ∀ (k : Nat) (cs : List Value), (chunks sz k cs).length = k
  | 0, _ => rfl
  | k + 1, cs => by simp [chunks, chunks_len sz k]
theorem chunks_get (sz : Nat) : ∀ (k : Nat) (cs : List Value) (i : Nat), i < k → (chunks sz k cs)[i]? = some ((cs.drop (i * sz)).take sz)
  | 0, _, _, h => by omega
  | k + 1, cs, 0, _ => by simp [chunks]
  | k + 1, cs, i + 1, h => by
    rw [chunks, List.getElem?_cons_succ, chunks_get sz k _ i (by omega), List.drop_drop]
    congr 3
    rw [Nat.add_mul]; omega
abbrev Dec (α : Type) := Heap → List Value → Option α
/-- the elements of a slice, each of 'sz' cells -/
def listV {α : Type} (sz : Nat) (dec : Dec α) (H : Heap) : Value → Option (List α)
  | .slice none 0 0 => some []
  | .slice (some a) len _ => if len < 2147483648 then (if len = 0 then some [] else if flat a = true then (cellsA H a.block a.off (len * sz)).bind fun cs => mapO (dec H) (chunks sz len cs) else none) else none
  | _ => none
theorem cells_part {H : Heap} {k o n sz i : Nat} {cs : List Value} (h : cellsA H k o (n * sz) = some cs) (hi : i < n) : cellsA H k (o + i * sz) sz = some ((cs.drop (i * sz)).take sz) := by
  have hm : i * sz + sz ≤ n * sz := by
    rw [← Nat.succ_mul]; exact Nat.mul_le_mul_right _ hi
  rw [cellsA_eq] at h ⊢
  cases hb : hget H k with
  | none => rw [hb] at h; cases h
  | some b =>
    rw [hb] at h
    simp only [Option.bind_some] at h ⊢
    have key : ∀ (xs : List Value) (p : Nat), p + n * sz ≤ xs.length → ((xs.drop (p + i * sz)).take sz) = ((((xs.drop p).take (n * sz)).drop (i * sz)).take sz) := fun xs p hp => by
      rw [List.drop_take, List.take_take, List.drop_drop, Nat.min_eq_left (by omega)]
    cases b <;> simp only [cellsB] at h ⊢
    all_goals first
      | (split at h
         · injection h with h; subst h
           first
             | (rw [if_pos (by omega), key _ _ (by omega)])
             | (rename_i hc
                rw [if_pos (by omega), ← key _ _ (by omega)]
                congr 3
                omega)
         · cases h)
      | cases h
/-- what is known of a slice that reads as a list -/
theorem listV_form {α : Type} {sz : Nat} {dec : Dec α} {H : Heap} {v : Value} {l : List α} (h : listV sz dec H v = some l) :
    ∃ oa c, v = .slice oa l.length c ∧ l.length < 2147483648 ∧ (oa = none → c = 0) ∧ ∀ i (hi : i < l.length), ∃ a r, oa = some a ∧ flat a = true ∧ cellsA H a.block (a.off + i * sz) sz = some r ∧ dec H r = some l[i] := by
  unfold listV at h
  split at h
  · injection h with h; subst h
    exact ⟨none, 0, rfl, by simp, fun _ => rfl, fun i hi => by simp at hi⟩
  · rename_i a len c
    split at h
    · rename_i hlt
      split at h
      · rename_i h0
        injection h with h; subst h h0
        exact ⟨some a, c, rfl, by simp, fun e => (by cases e), fun i hi => by simp at hi⟩
      · split at h
        · rename_i hf
          obtain ⟨cs, hc, hm⟩ := Option.bind_eq_some_iff.1 h
          obtain ⟨e1, e2⟩ := mapO_get hm
          rw [chunks_len] at e1
          subst e1
          refine ⟨some a, c, rfl, hlt, fun e => (by cases e), fun i hi => ⟨a, _, rfl, hf, cells_part hc hi, ?_⟩⟩
          rw [e2 i _ (chunks_get sz _ cs i hi), List.getElem?_eq_getElem hi]
        · cases h
    · cases h
  · cases h
def DecMono {α : Type} (dec : Dec α) : Prop := ∀ H H' cs y, Sub H H' → dec H cs = some y → dec H' cs = some y
theorem listV_mono {α : Type} {sz : Nat} {dec : Dec α} (hd : DecMono dec) {H H' : Heap} (hs : Sub H H') {v : Value} {l : List α} (h : listV sz dec H v = some l) : listV sz dec H' v = some l := by
  unfold listV at h ⊢
  split at h
  · exact h
  · rename_i a len c
    split at h
    · rename_i hlt
      rw [if_pos hlt]
      split at h
      · rename_i h0; rw [if_pos h0]; exact h
      · rename_i h0
        rw [if_neg h0]
        split at h
        · rename_i hf
          obtain ⟨cs, hc, hm⟩ := Option.bind_eq_some_iff.1 h
          rw [if_pos hf, hs.cells hc]
          exact mapO_mono (fun x y => hd H H' x y hs) hm
        · cases h
    · cases h
  · cases h
def DecFrz {α : Type} (dec : Dec α) : Prop := ∀ H cs, dec (frzH H) cs = dec H cs
theorem listV_frz {α : Type} {sz : Nat} {dec : Dec α} (hd : DecFrz dec) (H : Heap) (v : Value) : listV sz dec (frzH H) v = listV sz dec H v := by
  unfold listV
  split
  · rfl
  · rw [show (dec (frzH H)) = dec H from funext (hd H)]
    simp only [cellsA_frz]
  · rfl
def DecTidy {α : Type} (dec : Dec α) : Prop := ∀ H n cs y, (∀ k b, hget H k = some b → k < n) → dec H cs = some y → dec (tidy n H) cs = some y
theorem listV_tidy {α : Type} {sz : Nat} {dec : Dec α} (hd : DecTidy dec) {H : Heap} {n : Nat} (hl : ∀ k b, hget H k = some b → k < n) {v : Value} {l : List α} (h : listV sz dec H v = some l) : listV sz dec (tidy n H) v = some l := by
  unfold listV at h ⊢
  split at h
  · exact h
  · rename_i a len c
    split at h
    · rename_i hlt
      rw [if_pos hlt]
      split at h
      · rename_i h0; rw [if_pos h0]; exact h
      · rename_i h0
        rw [if_neg h0]
        split at h
        · rename_i hf
          obtain ⟨cs, hc, hm⟩ := Option.bind_eq_some_iff.1 h
          rw [if_pos hf, cellsA_tidy hl hc]
          exact mapO_mono (fun x y => hd H n x y hl) hm
        · cases h
    · cases h
  · cases h
def decS : Dec ByteArray := fun _ cs => match cs with
  | [.string s] => some s
  | _ => none
theorem decS_mono : DecMono decS := fun _ _ _ _ _ h => h
theorem decS_frz : DecFrz decS := fun _ _ => rfl
theorem decS_tidy : DecTidy decS := fun _ _ _ _ _ h => h
abbrev strV (H : Heap) (v : Value) : Option (List ByteArray) := listV 1 decS H v
/-- lists of what is read itself through the heap -/
def decL {α : Type} (sz : Nat) (dec : Dec α) : Dec (List α) := fun H cs => match cs with
  | [v] => listV sz dec H v
  | _ => none
theorem decL_mono {α : Type} {sz : Nat} {dec : Dec α} (hd : DecMono dec) : DecMono (decL sz dec) := fun H H' cs y hs h => by
  unfold decL at h ⊢
  split at h
  · exact listV_mono hd hs h
  · cases h
theorem decL_frz {α : Type} {sz : Nat} {dec : Dec α} (hd : DecFrz dec) : DecFrz (decL sz dec) := fun H cs => by
  unfold decL
  split
  · exact listV_frz hd H _
  · rfl
theorem decL_tidy {α : Type} {sz : Nat} {dec : Dec α} (hd : DecTidy dec) : DecTidy (decL sz dec) := fun H n cs y hl h => by
  unfold decL at h ⊢
  split at h
  · exact listV_tidy hd hl h
  · cases h
theorem cells_one {H : Heap} {k o : Nat} {r : List Value} (h : cellsA H k o 1 = some r) : ∃ x, r = [x] ∧ cellA H k o = some x := by
  obtain ⟨h1, h2⟩ := cellsA_cell h (i := 0) (by omega)
  obtain ⟨x, rfl⟩ : ∃ x, r = [x] := by
    match r, h2 with
    | [x], _ => exact ⟨x, rfl⟩
  exact ⟨x, rfl, by simpa using h1⟩
theorem strV_form {H : Heap} {v : Value} {l : List ByteArray} (h : strV H v = some l) :
    ∃ oa c, v = .slice oa l.length c ∧ l.length < 2147483648 ∧ (oa = none → c = 0) ∧ ∀ i (hi : i < l.length), ∃ a, oa = some a ∧ flat a = true ∧ cellA H a.block (a.off + i) = some (.string l[i]) := by
  obtain ⟨oa, c, e1, e2, e0, e3⟩ := listV_form h
  refine ⟨oa, c, e1, e2, e0, fun i hi => ?_⟩
  obtain ⟨a, r, f1, f2, f3, f4⟩ := e3 i hi
  obtain ⟨x, rfl, hx⟩ := cells_one f3
  rw [Nat.mul_one] at hx
  unfold decS at f4
  split at f4
  · rename_i n hn
    injection hn with hn
    injection f4 with f4
    subst hn f4
    exact ⟨a, f1, f2, hx⟩
  · cases f4
theorem decL_form {α : Type} {sz : Nat} {dec : Dec α} {H : Heap} {v : Value} {l : List (List α)} (h : listV 1 (decL sz dec) H v = some l) :
    ∃ oa c, v = .slice oa l.length c ∧ l.length < 2147483648 ∧ (oa = none → c = 0) ∧ ∀ i (hi : i < l.length), ∃ a r, oa = some a ∧ flat a = true ∧ cellA H a.block (a.off + i) = some r ∧ listV sz dec H r = some l[i] := by
  obtain ⟨oa, c, e1, e2, e0, e3⟩ := listV_form h
  refine ⟨oa, c, e1, e2, e0, fun i hi => ?_⟩
  obtain ⟨a, r, f1, f2, f3, f4⟩ := e3 i hi
  obtain ⟨x, rfl, hx⟩ := cells_one f3
  rw [Nat.mul_one] at hx
  exact ⟨a, x, f1, f2, hx, f4⟩
theorem chunks_one : ∀ (cs : List Value), chunks 1 cs.length cs = cs.map fun v => [v]
  | [] => rfl
  | v :: cs => by simp [chunks, chunks_one cs]
theorem listV_mk {α : Type} {dec : Dec α} {H : Heap} {a : Addr} {c : Nat} {cs : List Value} {l : List α} (hf : flat a = true) (hc : cellsA H a.block a.off cs.length = some cs) (hl : cs.length = l.length) (hlt : l.length < 2147483648) (hd : ∀ (i : Nat) v, cs[i]? = some v → dec H [v] = l[i]?) : listV 1 dec H (.slice (some a) l.length c) = some l := by
  unfold listV
  simp only
  rw [if_pos hlt]
  split
  · rename_i h0
    rw [List.length_eq_zero_iff] at h0
    rw [h0]
  · try rw [if_pos hf]
    rw [← hl, Nat.mul_one, hc]
    simp only [Option.bind_some]
    rw [chunks_one]
    refine mapO_of (by simp [hl]) fun i x hx => ?_
    simp only [List.getElem?_map, Option.map_eq_some_iff] at hx
    obtain ⟨v, hv, rfl⟩ := hx
    exact hd i v hv
theorem dec_sv {H : Heap} {l : List ByteArray} (i : Nat) (v : Value) (h : (l.map sv)[i]? = some v) : decS H [v] = l[i]? := by
  simp only [List.getElem?_map, Option.map_eq_some_iff] at h
  obtain ⟨n, hn, rfl⟩ := h
  rw [hn]; rfl
/-- what was made since is let go -/
theorem Leads.back {P : Program} {n0 : Nat} {s s2 : St} {H : Heap} (hs2 : s2.H = H) (hold : ∀ k b, hget H k = some b → k < n0 ∧ scB (· < n0) b) (hkeep : Sub H s.H) (hn : s2.n = n0) (hz : s2.sz = s.sz) (hm : s.marks = [] ∧ s2.marks = []) (hf : ∀ x ∈ s2.fr, lk s.fr x.1 = some x.2 ∧ sc (· < n0) x.2) : Leads P n0 s s2 :=
  Leads.renN (A := []) (H := H) [] (by simpa using hs2) hold hkeep rfl (by simpa using hn) hz hm (fun x hx => .inl (hf x hx)) (by simp)
end Go.Ab

namespace Go.Ab
open Go
section
variable {n : Nat} {H : Heap}
@[simp] theorem namesOk_tidy : namesOk n (tidy n H) = true := (namesOk_tidyL _).1
@[simp] theorem namesOk_tidy' {c : Nat} : namesOk (n + c) (tidy n H) = true := namesOk_mono (by omega) _ (namesOk_tidyL _).1
@[simp] theorem plainH_tidy : plainH (tidy n H) = true := (namesOk_tidyL _).2
@[simp] theorem takeNew_tidy : takeNew n (frzH (tidy n H)) = [] := takeNew_frz namesOk_tidy
@[simp] theorem takeNew_tidy' {c : Nat} : takeNew (n + c) (frzH (tidy n H)) = [] := takeNew_frz namesOk_tidy'
theorem tidy_lt : ∀ k b, hget (tidy n H) k = some b → k < n := fun _ _ h => (hget_tidy.1 h).2.1
@[simp] theorem tidy_new : hget (tidy n H) n = none := (no_new tidy_lt).1
@[simp] theorem tidy_new' {c : Nat} : hget (tidy n H) (n + c) = none := (no_new tidy_lt).2 c
end
theorem AC.frame0 {P : Program} {f : FuncId} {args : List Value} {H : Heap} {n : Nat} {v : Value} {H1 : Heap} {n' : Nat} (h : AC P f args [] n v H1 n') (_ : ∀ k b, hget H1 k = some b → False) : AC P f args H n v H n' :=
  h.frame (fun k b hk => by cases hk) fun k b hk => .inr ⟨hk, rfl⟩
theorem cell_read {H : Heap} {a o : Nat} {L : List Nat} (h : memN L a = true) : cellA (readA L H) a o = cellA H a o := by
  rw [cellA_eq, hget_readA, if_pos h, cellA_eq]
theorem tidy_old {H : Heap} {n : Nat} (hold : ∀ k b, hget H k = some b → k < n ∧ scB (· < n) b) : ∀ k b, hget (tidy n H) k = some b → k < n ∧ scB (· < n) b := fun k b h => hold k b (hget_tidy.1 h).1
theorem hdel_none : ∀ {H : Heap} {n : Nat}, hget H n = none → hdel H n = H
  | [], _, _ => rfl
  | (k, b) :: H, n, h => by
    rw [hget_cons] at h
    split at h
    · cases h
    · rename_i hne
      rw [hdel, beq_dec, decide_eq_false hne]
      rw [hdel_none h]
@[simp] theorem hdel_tidy {H : Heap} {n : Nat} : hdel (tidy n H) n = tidy n H := hdel_none tidy_new
@[simp] theorem sne2 {n : Nat} : (n + 1 + 1 = n) = False := eq_false (by omega)
@[simp] theorem slt2 {n : Nat} : (n < n + 1 + 1) = True := eq_true (by omega)
@[simp] theorem sle2 {n : Nat} : (n ≤ n + 1 + 1) = True := eq_true (by omega)
@[simp] theorem snm2 {n : Nat} {H : Heap} : namesOk (n + 1 + 1) (tidy n H) = true := namesOk_mono (by omega) _ (namesOk_tidyL _).1
@[simp] theorem stk2 {n : Nat} {H : Heap} : takeNew (n + 1 + 1) (frzH (tidy n H)) = [] := takeNew_frz (namesOk_mono (by omega) _ (namesOk_tidyL _).1)
@[simp] theorem stn2 {n : Nat} {H : Heap} : hget (tidy n H) (n + 1 + 1) = none := (no_new tidy_lt).2 2
@[simp] theorem sne3 {n : Nat} : (n + 1 + 1 + 1 = n) = False := eq_false (by omega)
@[simp] theorem slt3 {n : Nat} : (n < n + 1 + 1 + 1) = True := eq_true (by omega)
@[simp] theorem sle3 {n : Nat} : (n ≤ n + 1 + 1 + 1) = True := eq_true (by omega)
@[simp] theorem snm3 {n : Nat} {H : Heap} : namesOk (n + 1 + 1 + 1) (tidy n H) = true := namesOk_mono (by omega) _ (namesOk_tidyL _).1
@[simp] theorem stk3 {n : Nat} {H : Heap} : takeNew (n + 1 + 1 + 1) (frzH (tidy n H)) = [] := takeNew_frz (namesOk_mono (by omega) _ (namesOk_tidyL _).1)
@[simp] theorem stn3 {n : Nat} {H : Heap} : hget (tidy n H) (n + 1 + 1 + 1) = none := (no_new tidy_lt).2 3
@[simp] theorem sne4 {n : Nat} : (n + 1 + 1 + 1 + 1 = n) = False := eq_false (by omega)
@[simp] theorem slt4 {n : Nat} : (n < n + 1 + 1 + 1 + 1) = True := eq_true (by omega)
@[simp] theorem sle4 {n : Nat} : (n ≤ n + 1 + 1 + 1 + 1) = True := eq_true (by omega)
@[simp] theorem snm4 {n : Nat} {H : Heap} : namesOk (n + 1 + 1 + 1 + 1) (tidy n H) = true := namesOk_mono (by omega) _ (namesOk_tidyL _).1
@[simp] theorem stk4 {n : Nat} {H : Heap} : takeNew (n + 1 + 1 + 1 + 1) (frzH (tidy n H)) = [] := takeNew_frz (namesOk_mono (by omega) _ (namesOk_tidyL _).1)
@[simp] theorem stn4 {n : Nat} {H : Heap} : hget (tidy n H) (n + 1 + 1 + 1 + 1) = none := (no_new tidy_lt).2 4
@[simp] theorem sne5 {n : Nat} : (n + 1 + 1 + 1 + 1 + 1 = n) = False := eq_false (by omega)
@[simp] theorem slt5 {n : Nat} : (n < n + 1 + 1 + 1 + 1 + 1) = True := eq_true (by omega)
@[simp] theorem sle5 {n : Nat} : (n ≤ n + 1 + 1 + 1 + 1 + 1) = True := eq_true (by omega)
@[simp] theorem snm5 {n : Nat} {H : Heap} : namesOk (n + 1 + 1 + 1 + 1 + 1) (tidy n H) = true := namesOk_mono (by omega) _ (namesOk_tidyL _).1
@[simp] theorem stk5 {n : Nat} {H : Heap} : takeNew (n + 1 + 1 + 1 + 1 + 1) (frzH (tidy n H)) = [] := takeNew_frz (namesOk_mono (by omega) _ (namesOk_tidyL _).1)
@[simp] theorem stn5 {n : Nat} {H : Heap} : hget (tidy n H) (n + 1 + 1 + 1 + 1 + 1) = none := (no_new tidy_lt).2 5
@[simp] theorem sne6 {n : Nat} : (n + 1 + 1 + 1 + 1 + 1 + 1 = n) = False := eq_false (by omega)
@[simp] theorem slt6 {n : Nat} : (n < n + 1 + 1 + 1 + 1 + 1 + 1) = True := eq_true (by omega)
@[simp] theorem sle6 {n : Nat} : (n ≤ n + 1 + 1 + 1 + 1 + 1 + 1) = True := eq_true (by omega)
@[simp] theorem snm6 {n : Nat} {H : Heap} : namesOk (n + 1 + 1 + 1 + 1 + 1 + 1) (tidy n H) = true := namesOk_mono (by omega) _ (namesOk_tidyL _).1
@[simp] theorem stk6 {n : Nat} {H : Heap} : takeNew (n + 1 + 1 + 1 + 1 + 1 + 1) (frzH (tidy n H)) = [] := takeNew_frz (namesOk_mono (by omega) _ (namesOk_tidyL _).1)
@[simp] theorem stn6 {n : Nat} {H : Heap} : hget (tidy n H) (n + 1 + 1 + 1 + 1 + 1 + 1) = none := (no_new tidy_lt).2 6
@[simp] theorem sne7 {n : Nat} : (n + 1 + 1 + 1 + 1 + 1 + 1 + 1 = n) = False := eq_false (by omega)
@[simp] theorem slt7 {n : Nat} : (n < n + 1 + 1 + 1 + 1 + 1 + 1 + 1) = True := eq_true (by omega)
@[simp] theorem sle7 {n : Nat} : (n ≤ n + 1 + 1 + 1 + 1 + 1 + 1 + 1) = True := eq_true (by omega)
@[simp] theorem snm7 {n : Nat} {H : Heap} : namesOk (n + 1 + 1 + 1 + 1 + 1 + 1 + 1) (tidy n H) = true := namesOk_mono (by omega) _ (namesOk_tidyL _).1
@[simp] theorem stk7 {n : Nat} {H : Heap} : takeNew (n + 1 + 1 + 1 + 1 + 1 + 1 + 1) (frzH (tidy n H)) = [] := takeNew_frz (namesOk_mono (by omega) _ (namesOk_tidyL _).1)
@[simp] theorem stn7 {n : Nat} {H : Heap} : hget (tidy n H) (n + 1 + 1 + 1 + 1 + 1 + 1 + 1) = none := (no_new tidy_lt).2 7
@[simp] theorem sne8 {n : Nat} : (n + 1 + 1 + 1 + 1 + 1 + 1 + 1 + 1 = n) = False := eq_false (by omega)
@[simp] theorem slt8 {n : Nat} : (n < n + 1 + 1 + 1 + 1 + 1 + 1 + 1 + 1) = True := eq_true (by omega)
@[simp] theorem sle8 {n : Nat} : (n ≤ n + 1 + 1 + 1 + 1 + 1 + 1 + 1 + 1) = True := eq_true (by omega)
@[simp] theorem snm8 {n : Nat} {H : Heap} : namesOk (n + 1 + 1 + 1 + 1 + 1 + 1 + 1 + 1) (tidy n H) = true := namesOk_mono (by omega) _ (namesOk_tidyL _).1
@[simp] theorem stk8 {n : Nat} {H : Heap} : takeNew (n + 1 + 1 + 1 + 1 + 1 + 1 + 1 + 1) (frzH (tidy n H)) = [] := takeNew_frz (namesOk_mono (by omega) _ (namesOk_tidyL _).1)
@[simp] theorem stn8 {n : Nat} {H : Heap} : hget (tidy n H) (n + 1 + 1 + 1 + 1 + 1 + 1 + 1 + 1) = none := (no_new tidy_lt).2 8
@[simp] theorem sne9 {n : Nat} : (n + 1 + 1 + 1 + 1 + 1 + 1 + 1 + 1 + 1 = n) = False := eq_false (by omega)
@[simp] theorem slt9 {n : Nat} : (n < n + 1 + 1 + 1 + 1 + 1 + 1 + 1 + 1 + 1) = True := eq_true (by omega)
@[simp] theorem sle9 {n : Nat} : (n ≤ n + 1 + 1 + 1 + 1 + 1 + 1 + 1 + 1 + 1) = True := eq_true (by omega)
@[simp] theorem snm9 {n : Nat} {H : Heap} : namesOk (n + 1 + 1 + 1 + 1 + 1 + 1 + 1 + 1 + 1) (tidy n H) = true := namesOk_mono (by omega) _ (namesOk_tidyL _).1
@[simp] theorem stk9 {n : Nat} {H : Heap} : takeNew (n + 1 + 1 + 1 + 1 + 1 + 1 + 1 + 1 + 1) (frzH (tidy n H)) = [] := takeNew_frz (namesOk_mono (by omega) _ (namesOk_tidyL _).1)
@[simp] theorem stn9 {n : Nat} {H : Heap} : hget (tidy n H) (n + 1 + 1 + 1 + 1 + 1 + 1 + 1 + 1 + 1) = none := (no_new tidy_lt).2 9
theorem hget_set {H : Heap} {b k : Nat} {x : Blk} : hget (hset H b x) k = if b = k then (hget H b).map fun _ => x else hget H k := by
  rw [hget_hset]
theorem Fresh.pair {n n2 : Nat} {H B H1 : Heap} {v u : Value} (h : Fresh n n2 H v B u H1) (e : Int) : Fresh n n2 H (.tuple #[v, Value.int .i64 e]) B (.tuple #[u, Value.int .i64 e]) H1 := by
  obtain ⟨ρ, h1, h2, h3⟩ := h
  exact ⟨ρ, h1, by rw [h2]; simp [ren], h3⟩
theorem namesOk_iff {k : Nat} : ∀ {H : Heap}, namesOk k H = true ↔ ∀ x ∈ H, x.1 < k
  | [] => by simp [namesOk]
  | (i, b) :: H => by
    rw [namesOk]
    by_cases h : i < k
    · rw [(blt_iff _ _).2 h]
      simp [namesOk_iff (H := H), h]
    · have : Nat.blt i k = false := by rw [← Bool.not_eq_true, blt_iff]; exact h
      rw [this]
      simp [h]
theorem hget_in : ∀ {H : Heap} {k : Nat} {b : Blk}, hget H k = some b → ∃ x ∈ H, x.1 = k
  | [], _, _, h => by cases h
  | (j, c) :: H, k, b, h => by
    rw [hget_cons] at h
    split at h
    · rename_i e; exact ⟨(j, c), List.mem_cons_self .., e⟩
    · obtain ⟨x, hx, e⟩ := hget_in h
      exact ⟨x, List.mem_cons_of_mem _ hx, e⟩
theorem namesOk_none {H : Heap} {k : Nat} (h : namesOk k H = true) : ∀ j, k ≤ j → hget H j = none := fun j hj => by
  cases e : hget H j with
  | none => rfl
  | some b =>
    obtain ⟨x, hx, e⟩ := hget_in e
    have := namesOk_iff.1 h x hx
    omega
theorem hdel_mem : ∀ {H : Heap} {k : Nat} {x : Nat × Blk}, x ∈ hdel H k → x ∈ H
  | [], _, _, h => h
  | (i, b) :: H, k, x, h => by
    rw [hdel] at h
    split at h
    · exact List.mem_cons_of_mem _ (hdel_mem h)
    · rcases List.mem_cons.1 h with rfl | h
      · exact List.mem_cons_self ..
      · exact List.mem_cons_of_mem _ (hdel_mem h)
theorem hset_mem : ∀ {H : Heap} {k : Nat} {c : Blk} {x : Nat × Blk}, x ∈ hset H k c → ∃ y ∈ H, y.1 = x.1
  | [], _, _, _, h => by cases h
  | (i, b) :: H, k, c, x, h => by
    rw [hset] at h
    split at h
    · rcases List.mem_cons.1 h with rfl | h
      · exact ⟨(i, b), List.mem_cons_self .., rfl⟩
      · first
        | exact ⟨x, List.mem_cons_of_mem _ h, rfl⟩
        | (obtain ⟨y, hy, e⟩ := hset_mem h; exact ⟨y, List.mem_cons_of_mem _ hy, e⟩)
    · rcases List.mem_cons.1 h with rfl | h
      · exact ⟨(i, b), List.mem_cons_self .., rfl⟩
      · obtain ⟨y, hy, e⟩ := hset_mem h
        exact ⟨y, List.mem_cons_of_mem _ hy, e⟩
theorem namesOk_hdel {H : Heap} {k j : Nat} (h : namesOk k H = true) : namesOk k (hdel H j) = true := namesOk_iff.2 fun x hx => namesOk_iff.1 h x (hdel_mem hx)
theorem namesOk_hset {H : Heap} {k j : Nat} {c : Blk} (h : namesOk k H = true) : namesOk k (hset H j c) = true := namesOk_iff.2 fun x hx => by
  obtain ⟨y, hy, e⟩ := hset_mem hx
  have := namesOk_iff.1 h y hy
  omega
theorem namesOk_put {H : Heap} {k j : Nat} {c : Blk} (hj : j < k) (h : namesOk k H = true) : namesOk k ((j, c) :: H) = true := by
  rw [namesOk, (blt_iff _ _).2 hj]; exact h
theorem takeNew_app {n : Nat} {B : Heap} : ∀ {A : Heap}, (∀ x ∈ A, n ≤ x.1) → takeNew n (A ++ B) = A ++ takeNew n B
  | [], _ => rfl
  | (k, b) :: A, h => by
    have : Nat.ble n k = true := Nat.ble_eq_true_of_le (h (k, b) (List.mem_cons_self ..))
    rw [List.cons_append, takeNew, this]
    simp only
    rw [takeNew_app fun x hx => h x (List.mem_cons_of_mem _ hx)]
    rfl
theorem plainH_app {B : Heap} : ∀ {A : Heap}, plainH A = true → plainH B = true → plainH (A ++ B) = true
  | [], _, h => h
  | (k, b) :: A, h1, h2 => by
    rw [plainH] at h1
    rw [List.cons_append, plainH]
    rw [Bool.and_eq_true] at h1 ⊢
    exact ⟨h1.1, plainH_app h1.2 h2⟩
theorem namesOk_app {n : Nat} {A B : Heap} (h1 : ∀ x ∈ A, x.1 < n) (h2 : namesOk n B = true) : namesOk n (A ++ B) = true := namesOk_iff.2 fun x hx => by
  rcases List.mem_append.1 hx with h | h
  · exact h1 x h
  · exact namesOk_iff.1 h2 x h
def names (c : Nat) : Nat → List Nat
  | 0 => []
  | k + 1 => c :: names (c + 1) k
theorem names_len : ∀ (k c : Nat), (names c k).length = k
  | 0, _ => rfl
  | k + 1, c => by simp [names, names_len k]
theorem names_get : ∀ (k c i : Nat), i < k → (names c k)[i]? = some (c + i)
  | 0, _, _, h => by omega
  | k + 1, c, 0, _ => by simp [names]
  | k + 1, c, i + 1, h => by
    rw [names, List.getElem?_cons_succ, names_get k (c + 1) i (by omega)]
    congr 1; omega
theorem names_at {k c i m : Nat} (h : (names c k)[i]? = some m) : m = c + i ∧ i < k := by
  have hi : i < (names c k).length := (List.getElem?_eq_some_iff.1 h).1
  rw [names_len] at hi
  rw [names_get _ _ _ hi] at h
  injection h with h
  exact ⟨h.symm, hi⟩
/-- how a row that is made lies; 'dec' reads its elements -/
structure RowK (α : Type) (dec : Dec α) where
  val : Nat → List α → Value
  blk : List α → Blk
  ren : ∀ (ρ : Nat → Nat) m l, Ab.ren ρ (val m l) = val (ρ m) l
  sc : ∀ (p : Nat → Prop) m l, p m → Ab.sc p (val m l)
  fix : ∀ (ρ : Nat → Nat) l, renB ρ (blk l) = blk l
  scB : ∀ (p : Nat → Prop) l, Ab.scB p (blk l)
  car : ∀ l, carried (blk l)
  own : ∀ l, (blk l).own = true
  see : ∀ H m l, hget H m = some (blk l) → l.length < 2147483648 → listV 1 dec H (val m l) = some l
/-- how the list of rows lies -/
structure LstK where
  val : Nat → Nat → Value
  blk : List Value → Blk
  ren : ∀ (ρ : Nat → Nat) m k, Ab.ren ρ (val m k) = val (ρ m) k
  sc : ∀ (p : Nat → Prop) m k, p m → Ab.sc p (val m k)
  af : ∀ m k, Ab.af (val m k) = false
  fix : ∀ (ρ : Nat → Nat) l, renB ρ (blk l) = blk (renL ρ l)
  scB : ∀ (p : Nat → Prop) l, scL p l → Ab.scB p (blk l)
  car : ∀ l, carried (blk l)
  own : ∀ l, (blk l).own = true
  cells : ∀ H m l, hget H m = some (blk l) → cellsA H m 0 l.length = some l
  form : ∀ m k, ∃ s c, val m k = .slice (some ⟨m, 0, s⟩) k c ∧ flat ⟨m, 0, s⟩ = true
/-- rows of one cell an element, without addresses -/
structure En (α : Type) (dec : Dec α) where
  to : α → Value
  ren : ∀ (ρ : Nat → Nat) x, Ab.ren ρ (to x) = to x
  sc : ∀ (p : Nat → Prop) x, Ab.sc p (to x)
  one : ∀ H x, dec H [to x] = some x
theorem En.renL {α : Type} {dec : Dec α} (e : En α dec) (ρ : Nat → Nat) : ∀ l : List α, Ab.renL ρ (l.map e.to) = l.map e.to
  | [] => rfl
  | x :: l => by simp only [List.map_cons, Ab.renL, e.ren, e.renL ρ l]
theorem En.scL {α : Type} {dec : Dec α} (e : En α dec) (p : Nat → Prop) : ∀ l : List α, Ab.scL p (l.map e.to)
  | [] => trivial
  | x :: l => ⟨e.sc p x, e.scL p l⟩
theorem En.dec {α : Type} {dec : Dec α} (e : En α dec) {H : Heap} {l : List α} (i : Nat) (v : Value) (h : (l.map e.to)[i]? = some v) : dec H [v] = l[i]? := by
  rw [List.getElem?_map, Option.map_eq_some_iff] at h
  obtain ⟨x, hx, rfl⟩ := h
  rw [e.one, hx]
/-- rows copied by an append to a slice that is empty -/
def kCp {α : Type} {dec : Dec α} (e : En α dec) (t : TypeId) : RowK α dec where
  val := fun m l => if l.length = 0 then .slice (some ⟨m, 0, none⟩) 0 0 else .slice (some ⟨m, 0, some 0⟩) l.length 0
  blk := fun l => if l.length = 0 then .cells [] t else .ext (l.map e.to) t 1
  ren := fun ρ m l => by split <;> rfl
  sc := fun p m l h => by split <;> exact h
  fix := fun ρ l => by
    split
    · simp [renB, Ab.renL]
    · simp only [renB, e.renL]
  scB := fun p l => by
    split
    · trivial
    · exact e.scL p l
  car := fun l => by split <;> trivial
  own := fun l => by split <;> rfl
  see := fun H m l h hl => by
    by_cases h0 : l.length = 0
    · obtain rfl := List.length_eq_zero_iff.1 h0
      rfl
    · rw [if_neg h0] at h ⊢
      exact listV_mk (cs := l.map e.to) rfl (by rw [cellsA_eq, h]; simp [cellsB]; exact List.take_of_length_le (by simp)) (by simp) hl fun i v hv => e.dec i v hv
def oEx (t : TypeId) : LstK where
  val := fun m k => .slice (some ⟨m, 0, some 0⟩) k 0
  blk := fun l => .ext l t 1
  ren := fun ρ m l => rfl
  sc := fun p m l h => h
  af := fun m k => rfl
  fix := fun ρ l => rfl
  scB := fun p l h => h
  car := fun l => trivial
  own := fun l => rfl
  cells := fun H m l h => by rw [cellsA_eq, h]; simp [cellsB]
  form := fun m k => ⟨some 0, 0, rfl, rfl⟩
section
variable {α : Type} {dec : Dec α}
def kvs (K : RowK α dec) : List Nat → List (List α) → List Value
  | m :: ms, l :: ls => K.val m l :: kvs K ms ls
  | _, _ => []
def kbs (K : RowK α dec) : List Nat → List (List α) → Heap
  | m :: ms, l :: ls => (m, K.blk l) :: kbs K ms ls
  | _, _ => []
theorem kvs_len (K : RowK α dec) : ∀ (ms : List Nat) (ls : List (List α)), ms.length = ls.length → (kvs K ms ls).length = ls.length
  | [], [], _ => rfl
  | m :: ms, l :: ls, h => by simp [kvs, kvs_len K ms ls (by simpa using h)]
  | [], _ :: _, h => by simp at h
  | _ :: _, [], h => by simp at h
theorem kvs_get (K : RowK α dec) : ∀ (ms : List Nat) (ls : List (List α)) (i m : Nat) (l : List α), ms[i]? = some m → ls[i]? = some l → (kvs K ms ls)[i]? = some (K.val m l)
  | m' :: ms, l' :: ls, 0, m, _, h1, h2 => by simp at h1 h2; subst h1 h2; simp [kvs]
  | m' :: ms, l' :: ls, i + 1, m, l, h1, h2 => by
    simp only [List.getElem?_cons_succ] at h1 h2
    rw [kvs, List.getElem?_cons_succ]
    exact kvs_get K ms ls i m l h1 h2
  | [], _, i, m, l, h1, _ => by simp at h1
  | _ :: _, [], i, m, l, _, h2 => by simp at h2
theorem kvs_ren (K : RowK α dec) (ρ : Nat → Nat) : ∀ (ms : List Nat) (ls : List (List α)), renL ρ (kvs K ms ls) = kvs K (ms.map ρ) ls
  | m :: ms, l :: ls => by simp only [kvs, renL, K.ren, List.map_cons, kvs_ren K ρ ms ls]
  | [], _ => rfl
  | _ :: _, [] => rfl
theorem kvs_sc (K : RowK α dec) {p : Nat → Prop} : ∀ (ms : List Nat) (ls : List (List α)), (∀ m ∈ ms, p m) → scL p (kvs K ms ls)
  | m :: ms, _l :: ls, h => ⟨K.sc _ _ _ (h m (List.mem_cons_self ..)), kvs_sc K ms ls fun k hk => h k (List.mem_cons_of_mem _ hk)⟩
  | [], _, _ => trivial
  | _ :: _, [], _ => trivial
theorem hget_kbs (K : RowK α dec) : ∀ (ms : List Nat) (ls : List (List α)) (k : Nat) (b : Blk), hget (kbs K ms ls) k = some b → ∃ (i : Nat) (l : List α), ms[i]? = some k ∧ ls[i]? = some l ∧ b = K.blk l
  | m :: ms, l :: ls, k, b, h => by
    rw [kbs, hget_cons] at h
    split at h
    · rename_i e; subst e; injection h with h
      exact ⟨0, l, rfl, rfl, h.symm⟩
    · obtain ⟨i, l', h1, h2, h3⟩ := hget_kbs K ms ls k b h
      exact ⟨i + 1, l', by simpa using h1, by simpa using h2, h3⟩
  | [], _, k, b, h => by simp [kbs] at h
  | _ :: _, [], k, b, h => by simp [kbs] at h
theorem kbs_at (K : RowK α dec) : ∀ (L c : Nat) (ls : List (List α)) (i : Nat) (l : List α), ls.length = L → ls[i]? = some l → ∀ H, hget (kbs K (names c L) ls ++ H) (c + i) = some (K.blk l)
  | 0, c, ls, i, l, h1, h2, H => by
    rw [List.length_eq_zero_iff] at h1; subst h1; simp at h2
  | L + 1, c, l' :: ls, 0, l, h1, h2, H => by
    simp at h2; subst h2
    rw [names, kbs, List.cons_append, hget_cons, if_pos (by omega)]
  | L + 1, c, l' :: ls, i + 1, l, h1, h2, H => by
    simp only [List.getElem?_cons_succ] at h2
    rw [names, kbs, List.cons_append, hget_cons, if_neg (by omega), show c + (i + 1) = c + 1 + i by omega]
    exact kbs_at K L (c + 1) ls i l (by simpa using h1) h2 H
  | L + 1, c, [], i, l, h1, h2, H => by simp at h2
def ndV (O : LstK) (n : Nat) (ls : List (List α)) : Value := O.val n ls.length
def ndB (K : RowK α dec) (O : LstK) (n : Nat) (ls : List (List α)) : Heap := (n, O.blk (kvs K (names (n + 1) ls.length) ls)) :: kbs K (names (n + 1) ls.length) ls
theorem ndB_names {K : RowK α dec} {O : LstK} {n : Nat} {ls : List (List α)} : ∀ x ∈ ndB K O n ls, n ≤ x.1 ∧ x.1 < n + 1 + ls.length := by
  intro x hx
  rcases List.mem_cons.1 hx with rfl | hx
  · exact ⟨Nat.le_refl _, by dsimp only; omega⟩
  · have key : ∀ (L c : Nat) (xs : List (List α)), ∀ x ∈ kbs K (names c L) xs, c ≤ x.1 ∧ x.1 < c + L := by
      intro L
      induction L with
      | zero => intro c xs x hx; cases hx
      | succ L ih =>
        intro c xs x hx
        cases xs with
        | nil => cases hx
        | cons y ys =>
          rcases List.mem_cons.1 hx with rfl | hx
          · exact ⟨Nat.le_refl _, by dsimp only; omega⟩
          · have := ih (c + 1) ys x hx
            omega
    have := key _ _ _ x hx
    omega
theorem sub_nd {K : RowK α dec} {O : LstK} {n : Nat} {ls : List (List α)} {H : Heap} (h : ∀ j, n ≤ j → hget H j = none) : Sub H (ndB K O n ls ++ H) :=
  Sub.app (fun x hx => h _ (ndB_names x hx).1) (Sub.refl _)
theorem nestV_nd {K : RowK α dec} {O : LstK} {n : Nat} {ls : List (List α)} {H : Heap} (h1 : ls.length < 2147483648) (h2 : ∀ l ∈ ls, l.length < 2147483648) : listV 1 (decL 1 dec) (ndB K O n ls ++ H) (ndV O n ls) = some ls := by
  obtain ⟨s, c, hv, hf⟩ := O.form n ls.length
  have hl := kvs_len K (names (n + 1) ls.length) ls (names_len _ _)
  rw [ndV, hv]
  refine listV_mk (cs := kvs K (names (n + 1) ls.length) ls) hf ?_ hl h1 fun i v hi => ?_
  · exact O.cells _ _ _ (by rw [ndB, List.cons_append, hget_cons, if_pos rfl])
  · have hi' : i < ls.length := by
      have := (List.getElem?_eq_some_iff.1 hi).1
      omega
    have e1 := kvs_get K (names (n + 1) ls.length) ls i _ ls[i] (names_get _ _ i hi') (List.getElem?_eq_getElem hi')
    rw [e1] at hi
    injection hi with hi
    subst hi
    rw [List.getElem?_eq_getElem hi']
    refine K.see _ _ _ ?_ (h2 _ (List.getElem_mem hi'))
    rw [ndB, List.cons_append, hget_cons, if_neg (by omega)]
    exact kbs_at K _ _ ls i _ rfl (List.getElem?_eq_getElem hi') H
theorem outK_nd {K : RowK α dec} {O : LstK} {n o : Nat} {ms : List Nat} {ls : List (List α)} {H H1 : Heap} {u : Value} (hu : u = O.val o ls.length) (hlen : ms.length = ls.length) (ho : n ≤ o) (hms : ∀ m ∈ ms, n ≤ m ∧ m ≠ o) (hnd : ms.Nodup) (hO : hget H1 o = some (O.blk (kvs K ms ls))) (hK : ∀ (i m : Nat) (l : List α), ms[i]? = some m → ls[i]? = some l → hget H1 m = some (K.blk l)) (hs : Sub H H1) :
    Fresh n (n + 1 + ls.length) H (ndV O n ls) (ndB K O n ls) u H1 := by
  let ρ : Nat → Nat := fun k => if k < n then k else if k = n then o else ms.getD (k - (n + 1)) 0
  have hlow : ∀ k, k < n → ρ k = k := fun k hk => by simp only [ρ]; rw [if_pos hk]
  have hn : ρ n = o := by simp [ρ]
  have hrow : ∀ i m, ms[i]? = some m → ρ (n + 1 + i) = m := fun i m hi => by
    simp only [ρ]
    rw [if_neg (by omega), if_neg (by omega), show n + 1 + i - (n + 1) = i by omega, List.getD_eq_getElem?_getD, hi]
    rfl
  have hmap : (names (n + 1) ls.length).map ρ = ms := by
    apply List.ext_getElem?
    intro i
    by_cases hi : i < ls.length
    · rw [List.getElem?_map, names_get _ _ _ hi]
      obtain ⟨m, hm⟩ : ∃ m, ms[i]? = some m := ⟨_, List.getElem?_eq_getElem (by omega)⟩
      rw [hm, Option.map_some, hrow i m hm]
    · rw [List.getElem?_eq_none (by rw [List.length_map, names_len]; omega), List.getElem?_eq_none (by omega)]
  have hB : ∀ k b, hget (ndB K O n ls) k = some b → (k = n ∧ b = O.blk (kvs K (names (n + 1) ls.length) ls)) ∨ ∃ (i m : Nat) (l : List α), i < ls.length ∧ k = n + 1 + i ∧ ms[i]? = some m ∧ ls[i]? = some l ∧ b = K.blk l := fun k b hk => by
    rw [ndB, hget_cons] at hk
    split at hk
    · rename_i e; subst e; injection hk with hk; exact .inl ⟨rfl, hk.symm⟩
    · obtain ⟨i, l, h1, h2, h3⟩ := hget_kbs K _ _ k b hk
      have hi : i < ls.length := (List.getElem?_eq_some_iff.1 h2).1
      rw [names_get _ _ _ hi] at h1
      injection h1 with h1
      exact .inr ⟨i, ms[i]'(by omega), l, hi, h1.symm, List.getElem?_eq_getElem (by omega), h2, h3⟩
  refine ⟨ρ, hlow, by rw [hu, ndV, O.ren, hn], fun k b hk => ?_, fun j b k c hj hk e => ?_, hs⟩
  · rcases hB k b hk with ⟨rfl, rfl⟩ | ⟨i, m, l, h1, rfl, h3, h4, rfl⟩
    · refine ⟨Nat.le_refl _, by omega, by rw [hn]; exact ho, ?_, ?_, O.car _, O.own _⟩
      · rw [hn, O.fix, kvs_ren, hmap]; exact hO
      · refine O.scB _ _ (kvs_sc K _ _ fun m hm => ?_)
        obtain ⟨i, hi, rfl⟩ := List.getElem_of_mem hm
        rw [names_len] at hi
        have := names_get ls.length (k + 1) i hi
        rw [List.getElem?_eq_getElem (by rw [names_len]; exact hi)] at this
        injection this with this
        rw [this]
        show k + 1 + i < k + 1 + ls.length
        omega
    · refine ⟨by omega, by omega, ?_, ?_, K.scB _ _, K.car _, K.own _⟩
      · rw [hrow i m h3]; exact (hms m (List.mem_of_getElem? h3)).1
      · rw [hrow i m h3, K.fix]; exact hK i m l h3 h4
  · rcases hB j b hj with ⟨rfl, _⟩ | ⟨i, m, l, h1, rfl, h3, _, _⟩ <;> rcases hB k c hk with ⟨rfl, _⟩ | ⟨i', m', l', h1', rfl, h3', _, _⟩
    · rfl
    · rw [hn, hrow i' m' h3'] at e
      exact absurd e.symm (hms m' (List.mem_of_getElem? h3')).2
    · rw [hn, hrow i m h3] at e
      exact absurd e (hms m (List.mem_of_getElem? h3)).2
    · rw [hrow i m h3, hrow i' m' h3'] at e
      have hi : i < ms.length := (List.getElem?_eq_some_iff.1 h3).1
      have hi' : i' < ms.length := (List.getElem?_eq_some_iff.1 h3').1
      have e1 : ms[i] = m := by rw [List.getElem?_eq_getElem hi] at h3; exact Option.some.inj h3
      have e2 : ms[i'] = m' := by rw [List.getElem?_eq_getElem hi'] at h3'; exact Option.some.inj h3'
      have := (List.nodup_iff_pairwise_ne.1 hnd)
      rw [List.pairwise_iff_getElem] at this
      rcases Nat.lt_trichotomy i i' with h | h | h
      · exact absurd (e1.trans (e.trans e2.symm)) (this i i' hi hi' h)
      · subst h; rfl
      · exact absurd (e2.trans (e.symm.trans e1.symm)) (this i' i hi' hi h)
theorem kvs_snoc (K : RowK α dec) {m : Nat} {l : List α} : ∀ (ms : List Nat) (R : List (List α)), ms.length = R.length → kvs K (ms ++ [m]) (R ++ [l]) = kvs K ms R ++ [K.val m l]
  | [], [], _ => rfl
  | _ :: ms, _ :: R, h => by simp [kvs, kvs_snoc K ms R (by simpa using h)]
  | [], _ :: _, h => by simp at h
  | _ :: _, [], h => by simp at h
end
/-- behind the body: old blocks are written, nothing new is handed back -/
def wroteK (P : Program) (fn : Func) (H' : Heap) (v : Value) (e : Ex) (st : St) : Prop :=
  (e = .normal ∨ e = .ret) ∧ st.marks = [] ∧ (∃ vs, resultsA P st.fr st.H fn.results.toList = some vs ∧ one vs = v) ∧ ∀ k b, hget H' k = some b → hget st.H k = some b
theorem AC.wrote {P : Program} {f : FuncId} {fn : Func} {c : Code} {args : List Value} {H H' : Heap} {n : Nat} {v : Value} (hf : P.funcs[f]? = some fn) (hb : fn.body = some c) (he : enterable P f = true) (hlen : Nat.ble args.length fn.ntmps = true) (vs : List Nat) (hv : af v = true)
    (hw : ∀ k b, hget H' k = some b → k < n ∧ (hget H k = some b ∨ ((∃ b0, hget H k = some b0) ∧ scB (fun _ => False) b)))
    (h : E P n none c { fr := argsFr args 0, sz := fn.ntmps, H, n, marks := [], vs } (wroteK P fn H' v)) : AC P f args H n v H' n := by
  obtain ⟨e, st, hA, hen, hm, ⟨us, hus, hone⟩, hsub⟩ := h
  have hleave : ∃ H1, leaveF P fn args n st = some (v, H1, st.n) ∧ ∀ k b, hget H' k = some b → hget H1 k = some b := by
    unfold leaveF
    rw [hm]
    simp only [shutA, hus, hone]
    cases hc : (af v && args.all dropOk) with
    | true => exact ⟨_, rfl, fun k b hk => by rw [hget_dropNew, if_pos (hw k b hk).1]; exact hsub k b hk⟩
    | false => exact ⟨_, rfl, hsub⟩
  obtain ⟨H1, hl, hs⟩ := hleave
  refine (bodyAT_ok hf hb he (Nat.le_of_ble_eq_true hlen) hen (ATX.at hA) hl).sub hv fun k b hk => ⟨hs k b hk, ?_⟩
  obtain ⟨h1, h2⟩ := hw k b hk
  rcases h2 with h2 | ⟨h2, h3⟩
  · exact .inl h2
  · exact .inr ⟨h1, h2, h3⟩
end Go.Ab

namespace Go.Ab
open Go
def outC (n : Nat) (l : List Value) : Value := if l = [] then .slice none 0 0 else .slice (some ⟨n, 0, some 0⟩) l.length 0
def outCB (n t : Nat) (l : List Value) : Heap := if l = [] then [] else [(n, .ext l t 1)]
@[simp] theorem outC_nil {n : Nat} : outC n [] = .slice none 0 0 := rfl
@[simp] theorem outCB_nil {n t : Nat} : outCB n t [] = [] := rfl
theorem outC_ne {n : Nat} {l : List Value} (h : l ≠ []) : outC n l = .slice (some ⟨n, 0, some 0⟩) l.length 0 := if_neg h
theorem outCB_ne {n t : Nat} {l : List Value} (h : l ≠ []) : outCB n t l = [(n, .ext l t 1)] := if_neg h
theorem sub_outC {n t : Nat} {l : List Value} {H : Heap} (h : hget H n = none) : Sub H (outCB n t l ++ H) := by
  unfold outCB
  split
  · exact Sub.refl _
  · exact Sub.cons h (Sub.refl _)
theorem sc_outC {n : Nat} {p : Nat → Prop} {l : List Value} (h : p n) : sc p (outC n l) := by
  unfold outC
  split
  · trivial
  · exact h
theorem ren_outC {n m : Nat} {ρ : Nat → Nat} {l : List Value} (h : ρ n = m) : ren ρ (outC n l) = outC m l := by
  unfold outC
  split
  · rfl
  · simp [ren, h]
mutual
theorem ren_af (ρ : Nat → Nat) : ∀ v, af v = true → ren ρ v = v
  | .bool _, _ | .int _ _, _ | .float _ _, _ | .complex _ _ _, _ | .string _, _ | .nilFunc, _ | .nilIface, _ | .chan _, _ => by simp [ren]
  | .pointer none, _ | .slice none _ _, _ | .map none, _ => by simp [ren]
  | .pointer (some a), hs | .slice (some _) _ _, hs | .map (some r), hs | .func (.yield l) a b, hs => by simp [af] at hs
  | .func (.func f) a b, hs | .func (.method f) a b, hs | .func (.methodOf _ f) a b, hs | .func (.via _ _ f _) a b, hs => by
    simp only [af, Bool.and_eq_true] at hs
    simp only [ren]
    rw [renL_af ρ _ hs.1, renL_af ρ _ hs.2]
  | .iface t v, hs => by simp only [ren]; rw [ren_af ρ v (by simpa [af] using hs)]
  | .agg cs, hs => by simp only [ren]; rw [renL_af ρ _ (by simpa [af] using hs)]
  | .tuple cs, hs => by simp only [ren]; rw [renL_af ρ _ (by simpa [af] using hs)]
theorem renL_af (ρ : Nat → Nat) : ∀ vs, afL vs = true → renL ρ vs = vs
  | [], _ => rfl
  | v :: vs, hs => by
    simp only [afL, Bool.and_eq_true] at hs
    simp only [renL]; rw [ren_af ρ v hs.1, renL_af ρ vs hs.2]
end
theorem Leads.outC0 {P : Program} {n : Nat} {s s2 : St} {H : Heap} (hold : ∀ k b, hget H k = some b → k < n ∧ scB (· < n) b) (hkeep : Sub H s.H) (hs2 : s2.H = H) (hn : s2.n = n + 1) (hz : s2.sz = s.sz) (hm : s.marks = [] ∧ s2.marks = []) (hf : ∀ x ∈ s2.fr, lk s.fr x.1 = some x.2 ∧ sc (· < n) x.2) : Leads P n s s2 :=
  Leads.renR (A := []) (H := H) id (by simpa using hs2) hold hkeep (fun _ _ => rfl) (by omega) hz hm (fun t v hv => .inl (hf (t, v) (lk_mem _ _ _ hv))) (by simp) (by simp)
theorem Leads.outC1 {P : Program} {n t m : Nat} {s s2 : St} {H : Heap} {l : List Value} (haf : afL l = true) (hold : ∀ k b, hget H k = some b → k < n ∧ scB (· < n) b) (hkeep : Sub H s.H) (hl : l ≠ []) (hs2 : s2.H = outCB n t l ++ H) (hm1 : n ≤ m) (hg : hget s.H m = some (.ext l t 1)) (hn : s2.n = n + 1) (hz : s2.sz = s.sz) (hm : s.marks = [] ∧ s2.marks = [])
    (hf : ∀ x ∈ s2.fr, (lk s.fr x.1 = some x.2 ∧ sc (· < n) x.2) ∨ (x.2 = outC n l ∧ lk s.fr x.1 = some (outC m l))) : Leads P n s s2 := by
  refine Leads.renR (A := outCB n t l) (H := H) (fun k => if k = n then m else k) hs2 hold hkeep (fun k hk => if_neg (by omega)) (by omega) hz hm (fun t v hv => ?_) (fun x hx => ?_) fun x hx y hy _ => ?_
  · rcases hf (t, v) (lk_mem _ _ _ hv) with h | ⟨h1, h2⟩
    · exact .inl h
    · dsimp only at h1 h2
      subst h1
      refine .inr ⟨?_, sc_outC (by omega)⟩
      rw [h2, ren_outC (ρ := fun k => if k = n then m else k) (m := m) (by simp)]
  · rw [outCB_ne hl, List.mem_singleton] at hx
    subst hx
    refine ⟨Nat.le_refl _, by dsimp only; omega, ?_, ?_, scL_af _ _ haf, trivial, rfl⟩
    · simpa using hm1
    · simp [hg, renB, renL_af _ _ haf]
  · rw [outCB_ne hl, List.mem_singleton] at hx hy
    rw [hx, hy]
theorem outK_outC {n m t : Nat} {H H1 : Heap} {l : List Value} {u : Value} (haf : afL l = true) (hu : u = outC m l) (hm : n ≤ m) (hg : l ≠ [] → hget H1 m = some (.ext l t 1)) (hs : Sub H H1) : Fresh n (n + 1) H (outC n l) (outCB n t l) u H1 := by
  refine ⟨fun k => if k = n then m else k, fun k hk => if_neg (by omega), by rw [hu, ren_outC (ρ := fun k => if k = n then m else k) (m := m) (by simp)], fun k b hk => ?_, fun j b k c hj hk _ => ?_, hs⟩
  · by_cases hl : l = []
    · subst hl; cases hk
    · rw [outCB_ne hl, hget_cons] at hk
      split at hk
      · rename_i e
        subst e
        injection hk with hk
        subst hk
        refine ⟨Nat.le_refl _, Nat.lt_succ_self _, by simpa using hm, ?_, scL_af _ _ haf, trivial, rfl⟩
        simp [hg hl, renB, renL_af _ _ haf]
      · cases hk
  · by_cases hl : l = []
    · subst hl; cases hj
    · rw [outCB_ne hl, hget_cons] at hj hk
      split at hj
      · split at hk
        · omega
        · cases hk
      · cases hj
theorem AC.outList {P : Program} {f : FuncId} {fn : Func} {c : Code} {args : List Value} {H : Heap} {n t : Nat} {l : List Value} (hf : P.funcs[f]? = some fn) (hb : fn.body = some c) (he : enterable P f = true) (hlen : Nat.ble args.length fn.ntmps = true) (vs : List Nat) (hl : l ≠ [])
    (h : E P n none c { fr := argsFr args 0, sz := fn.ntmps, H, n, marks := [], vs } (outK P fn (Fresh n (n + 1) H (outC n l) (outCB n t l)))) : AC P f args H n (outC n l) (outCB n t l ++ H) (n + 1) :=
  AC.fresh hf hb he hlen vs (by omega) (sc_outC (by omega)) (fun ρ => by rw [outC_ne hl]; rfl) h
end Go.Ab

namespace Go.Ab
open Go
theorem AC.subV {P : Program} {f : FuncId} {args : List Value} {H : Heap} {n : Nat} {v : Value} {H1 : Heap} {n1 : Nat} {H2 : Heap} (h : AC P f args H n v H1 n1) (hv : sc (· < n) v)
    (hs : ∀ k b, hget H2 k = some b → hget H1 k = some b ∧ (hget H k = some b ∨ (k < n ∧ (∃ b0, hget H k = some b0) ∧ scB (fun _ => False) b))) : AC P f args H n v H2 n := by
  intro p φ w hB hsc
  have key : ∀ φ' w', Dn P p φ n (hget H) w v n1 (hget H1) φ' w' → den φ' v = den φ v ∧ Dn P p φ n (hget H) w v n (hget H2) φ w' := by
    intro φ' w' hd
    obtain ⟨hsm, hscv, hst⟩ := hd
    have hp : ∀ k b, hget H2 k = some b → p k ∧ scB p b := fun k b hk => by
      rcases (hs k b hk).2 with h | ⟨_, ⟨b0, h0⟩, h2⟩
      · exact hB.sm k b h
      · exact ⟨(hB.sm k b0 h0).1, scB_mono (fun _ h => h.elim) _ h2⟩
    have hagr : Agr p φ' φ := fun k hk => ⟨(hst.only k (.inl (hB.lt k hk))).1.symm, (hst.only k (.inl (hB.lt k hk))).2.symm⟩
    have hpv : sc p v := sc_mono (fun k hk => by
      rcases hk.1 with h | h
      · exact h
      · have := hk.2; omega) v (sc_and v hscv hv)
    refine ⟨(den_congr hagr v hpv).symm, fun k b hk => ⟨.inl (hp k b hk).1, scB_mono (fun _ h => .inl h) _ (hp k b hk).2⟩, sc_mono (fun _ h => .inl h) v hpv, Nat.le_refl _, fun _ _ => ⟨rfl, rfl⟩, ?_, fun k b hk ho => ?_, fun k b hk ho => ?_, hst.frm⟩
    · exact (hst.rel.sub fun k b hk => (hs k b hk).1).congr hp hagr hB.rel.glob
    · rcases hst.new k b (hs k b hk).1 ho with h | ⟨k0, b0, h1, h2, h3⟩
      · exact .inl (by rw [(hagr k (hp k b hk).1).1]; exact h)
      · exact .inr ⟨k0, b0, h1, h2, by rw [(hagr k (hp k b hk).1).1]; exact h3⟩
    · exact hst.inp k b (hs k b hk).1 ho
  rcases h p φ w hB hsc with ⟨h1, h2⟩ | ⟨φ', w', h1, h2⟩
  · refine .inl ⟨h1, CallsIn.mono h2 fun e w' hh => ?_⟩
    obtain ⟨φ', he, hd⟩ := hh
    obtain ⟨e1, e2⟩ := key φ' w' hd
    exact ⟨φ, by rw [he, e1], e2⟩
  · obtain ⟨e1, e2⟩ := key φ' w' h2
    exact .inr ⟨φ, w', by rw [h1, e1], e2⟩
/-- old blocks are written, and the result names old blocks alone -/
theorem AC.wroteV {P : Program} {f : FuncId} {fn : Func} {c : Code} {args : List Value} {H H' : Heap} {n : Nat} {v : Value} (hf : P.funcs[f]? = some fn) (hb : fn.body = some c) (he : enterable P f = true) (hlen : Nat.ble args.length fn.ntmps = true) (vs : List Nat) (ha : af v = false) (hv : sc (· < n) v)
    (hw : ∀ k b, hget H' k = some b → k < n ∧ (hget H k = some b ∨ ((∃ b0, hget H k = some b0) ∧ scB (fun _ => False) b)))
    (h : E P n none c { fr := argsFr args 0, sz := fn.ntmps, H, n, marks := [], vs } (wroteK P fn H' v)) : AC P f args H n v H' n := by
  obtain ⟨e, st, hA, hen, hm, ⟨us, hus, hone⟩, hsub⟩ := h
  have hl : leaveF P fn args n st = some (v, st.H, st.n) := by
    unfold leaveF
    rw [hm]
    simp only [shutA, hus, hone, ha, Bool.false_and]
  refine (bodyAT_ok hf hb he (Nat.le_of_ble_eq_true hlen) hen (ATX.at hA) hl).subV hv fun k b hk => ⟨hsub k b hk, ?_⟩
  obtain ⟨h1, h2⟩ := hw k b hk
  rcases h2 with h2 | ⟨h2, h3⟩
  · exact .inl h2
  · exact .inr ⟨h1, h2, h3⟩
theorem plainH_hdel : ∀ {H : Heap} {k : Nat}, plainH H = true → plainH (hdel H k) = true
  | [], _, _ => rfl
  | (i, b) :: H, k, h => by
    simp only [plainH, Bool.and_eq_true] at h
    rw [hdel]
    split
    · exact plainH_hdel h.2
    · simp only [plainH, Bool.and_eq_true]
      exact ⟨h.1, plainH_hdel h.2⟩
theorem cellA_tidy {H : Heap} {n k o : Nat} (hl : ∀ k b, hget H k = some b → k < n) {v : Value} (h : cellA H k o = some v) : cellA (tidy n H) k o = some v := by
  rw [cellA_eq] at h ⊢
  cases hb : hget H k with
  | none => rw [hb] at h; cases h
  | some b =>
    rw [hb] at h
    have hp : plainB2 b = true := by
      cases b <;> first | rfl | cases h
    rw [hget_tidy.2 ⟨hb, hl k b hb, hp⟩]
    exact h
theorem list_all {cs : List Value} {o n : Nat} {f : Nat → Value} (h : ∀ i, i < n → cs[o + i]? = some (f i)) (hn : 0 < n) : o + n ≤ cs.length ∧ (cs.drop o).take n = (List.range n).map f := by
  have h1 := (List.getElem?_eq_some_iff.1 (h (n - 1) (by omega))).1
  refine ⟨by omega, ?_⟩
  apply List.ext_getElem?
  intro i
  by_cases hi : i < n
  · rw [List.getElem?_take, if_pos hi, List.getElem?_drop, h i hi, List.getElem?_map, List.getElem?_range hi]
    rfl
  · rw [List.getElem?_eq_none (by rw [List.length_take]; omega), List.getElem?_eq_none (by simp; omega)]
theorem cells_all {H : Heap} {k o n : Nat} {f : Nat → Value} (h : ∀ i, i < n → cellA H k (o + i) = some (f i)) (hn : 0 < n) : cellsA H k o n = some ((List.range n).map f) := by
  have h0 := h 0 hn
  rw [cellsA_eq]
  rw [cellA_eq] at h0
  cases hb : hget H k with
  | none => rw [hb] at h0; cases h0
  | some b =>
    have hg : ∀ i, i < n → cellB (o + i) b = some (f i) := fun i hi => by
      have := h i hi
      rw [cellA_eq, hb] at this
      exact this
    rw [Option.bind_some]
    cases b with
    | cells cs t =>
      obtain ⟨h1, h2⟩ := list_all (cs := cs) (o := o) hg hn
      simp only [cellsB, if_pos h1, h2]
    | ext cs t sz =>
      obtain ⟨h1, h2⟩ := list_all (cs := cs) (o := o) hg hn
      simp only [cellsB, if_pos h1, h2]
    | row cs sz =>
      obtain ⟨h1, h2⟩ := list_all (cs := cs) (o := o) hg hn
      simp only [cellsB, if_pos h1, h2]
    | inp o' cs =>
      have h3 : o' ≤ o := by
        have := hg 0 hn
        simp only [cellB] at this
        split at this
        · omega
        · cases this
      obtain ⟨h1, h2⟩ := list_all (cs := cs) (o := o - o') (f := f) (n := n) (fun i hi => by
        have := hg i hi
        simp only [cellB] at this
        rw [if_pos (by omega)] at this
        rwa [show o - o' + i = o + i - o' by omega]) hn
      have h4 : o' ≤ o ∧ o - o' + n ≤ cs.length := ⟨h3, h1⟩
      simp only [cellsB, if_pos h4, h2]
    | tab cs => cases (hg 0 hn)
    | map es cl => cases (hg 0 hn)
    | iter s p => cases (hg 0 hn)
    | miter m s se la => cases (hg 0 hn)
    | defd => cases (hg 0 hn)
    | loop => cases (hg 0 hn)
def WdsV (H : Heap) (v : Value) (l : List ByteArray) : Prop := ∃ oa c, v = .slice oa l.length c ∧ l.length < 2 ^ 63 ∧ (oa = none → c = 0) ∧ ∀ i (hi : i < l.length), ∃ a, oa = some a ∧ flat a = true ∧ cellA H a.block (a.off + i) = some (.string l[i])
def StpV (H : Heap) (v : Value) (ls : List (List ByteArray)) : Prop := ∃ oa c, v = .slice oa ls.length c ∧ ls.length < 2 ^ 63 ∧ (oa = none → c = 0) ∧ ∀ i (hi : i < ls.length), ∃ a r, oa = some a ∧ flat a = true ∧ cellA H a.block (a.off + i) = some r ∧ WdsV H r ls[i]
theorem WdsV.mono {H H' : Heap} (hs : Sub H H') {v : Value} {l : List ByteArray} (h : WdsV H v l) : WdsV H' v l := by
  obtain ⟨oa, c, e, h1, h2, h3⟩ := h
  refine ⟨oa, c, e, h1, h2, fun i hi => ?_⟩
  obtain ⟨a, e1, e2, e3⟩ := h3 i hi
  exact ⟨a, e1, e2, hs.cell e3⟩
theorem WdsV.tidy {H : Heap} {n : Nat} (hl : ∀ k b, hget H k = some b → k < n) {v : Value} {l : List ByteArray} (h : WdsV H v l) : WdsV (Ab.tidy n H) v l := by
  obtain ⟨oa, c, e, h1, h2, h3⟩ := h
  refine ⟨oa, c, e, h1, h2, fun i hi => ?_⟩
  obtain ⟨a, e1, e2, e3⟩ := h3 i hi
  exact ⟨a, e1, e2, cellA_tidy hl e3⟩
theorem StpV.mono {H H' : Heap} (hs : Sub H H') {v : Value} {ls : List (List ByteArray)} (h : StpV H v ls) : StpV H' v ls := by
  obtain ⟨oa, c, e, h1, h2, h3⟩ := h
  refine ⟨oa, c, e, h1, h2, fun i hi => ?_⟩
  obtain ⟨a, r, e1, e2, e3, e4⟩ := h3 i hi
  exact ⟨a, r, e1, e2, hs.cell e3, e4.mono hs⟩
theorem StpV.tidy {H : Heap} {n : Nat} (hl : ∀ k b, hget H k = some b → k < n) {v : Value} {ls : List (List ByteArray)} (h : StpV H v ls) : StpV (Ab.tidy n H) v ls := by
  obtain ⟨oa, c, e, h1, h2, h3⟩ := h
  refine ⟨oa, c, e, h1, h2, fun i hi => ?_⟩
  obtain ⟨a, r, e1, e2, e3, e4⟩ := h3 i hi
  exact ⟨a, r, e1, e2, cellA_tidy hl e3, e4.tidy hl⟩
theorem WdsV.one {H : Heap} {v : Value} {l k : List ByteArray} (h : WdsV H v l) (h' : WdsV H v k) : l = k := by
  obtain ⟨oa, c, rfl, _, _, h3⟩ := h
  obtain ⟨oa', c', e, _, _, h3'⟩ := h'
  injection e with e1 e2 e3
  subst e1
  apply List.ext_getElem e2
  intro i h1 h2
  obtain ⟨a, f1, _, f3⟩ := h3 i h1
  obtain ⟨a', g1, _, g3⟩ := h3' i h2
  rw [f1] at g1
  injection g1 with g1
  subst g1
  rw [f3] at g3
  injection g3 with g3
  injection g3
theorem StpV.one {H : Heap} {v : Value} {l k : List (List ByteArray)} (h : StpV H v l) (h' : StpV H v k) : l = k := by
  obtain ⟨oa, c, rfl, _, _, h3⟩ := h
  obtain ⟨oa', c', e, _, _, h3'⟩ := h'
  injection e with e1 e2 e3
  subst e1
  apply List.ext_getElem e2
  intro i h1 h2
  obtain ⟨a, r, f1, _, f3, f4⟩ := h3 i h1
  obtain ⟨a', r', g1, _, g3, g4⟩ := h3' i h2
  rw [f1] at g1
  injection g1 with g1
  subst g1
  rw [f3] at g3
  injection g3 with g3
  subst g3
  exact f4.one g4
theorem WdsV.small {H : Heap} {v : Value} {l : List ByteArray} (h : WdsV H v l) (hl : l.length < 2147483648) : strV H v = some l := by
  obtain ⟨oa, c, rfl, _, h2, h3⟩ := h
  cases oa with
  | none =>
    have : l.length = 0 := by
      rcases Nat.eq_zero_or_pos l.length with h | h
      · exact h
      · obtain ⟨a, e, _⟩ := h3 0 h
        cases e
    rw [this, h2 rfl, List.length_eq_zero_iff.1 this]
    rfl
  | some a =>
    by_cases h0 : l.length = 0
    · rw [List.length_eq_zero_iff.1 h0]
      rfl
    · obtain ⟨a', e, hf, _⟩ := h3 0 (by omega)
      injection e with e
      subst e
      have hc : cellsA H a.block a.off l.length = some ((List.range l.length).map fun i => .string (l.getD i default)) := cells_all (fun i hi => by
        obtain ⟨a', e, _, e3⟩ := h3 i hi
        injection e with e
        subst e
        rw [e3, List.getD_eq_getElem?_getD, List.getElem?_eq_getElem hi]
        rfl) (by omega)
      refine listV_mk (cs := (List.range l.length).map fun i => .string (l.getD i default)) hf (by simpa using hc) (by simp) hl fun i v hv => ?_
      rw [List.getElem?_map] at hv
      by_cases hi : i < l.length
      · rw [List.getElem?_range hi] at hv
        injection hv with hv
        subst hv
        dsimp only
        rw [List.getD_eq_getElem?_getD, List.getElem?_eq_getElem hi]
        rfl
      · rw [List.getElem?_eq_none (by simp; omega)] at hv
        cases hv
abbrev nestS (H : Heap) (v : Value) : Option (List (List ByteArray)) := listV 1 (decL 1 decS) H v
theorem nestS_form {H : Heap} {v : Value} {l : List (List ByteArray)} (h : nestS H v = some l) :
    ∃ oa c, v = .slice oa l.length c ∧ l.length < 2147483648 ∧ (oa = none → c = 0) ∧ ∀ i (hi : i < l.length), ∃ a r, oa = some a ∧ flat a = true ∧ cellA H a.block (a.off + i) = some r ∧ strV H r = some l[i] := decL_form h
theorem StpV.small {H : Heap} {v : Value} {ls : List (List ByteArray)} (h : StpV H v ls) (hl : ls.length < 2147483648) (hr : ∀ l ∈ ls, l.length < 2147483648) : nestS H v = some ls := by
  obtain ⟨oa, c, rfl, _, h2, h3⟩ := h
  cases oa with
  | none =>
    have : ls.length = 0 := by
      rcases Nat.eq_zero_or_pos ls.length with h | h
      · exact h
      · obtain ⟨a, r, e, _⟩ := h3 0 h
        cases e
    rw [this, h2 rfl, List.length_eq_zero_iff.1 this]
    rfl
  | some a =>
    by_cases h0 : ls.length = 0
    · rw [List.length_eq_zero_iff.1 h0]
      rfl
    · obtain ⟨_, _, e, hf, _⟩ := h3 0 (by omega)
      injection e with e
      subst e
      have hg : ∀ i, i < ls.length → ∃ r, cellA H a.block (a.off + i) = some r ∧ decL 1 decS H [r] = ls[i]? := fun i hi => by
        obtain ⟨a', r, e, _, e3, e4⟩ := h3 i hi
        injection e with e
        subst e
        refine ⟨r, e3, ?_⟩
        rw [List.getElem?_eq_getElem hi]
        exact e4.small (hr _ (List.getElem_mem hi))
      have hc : cellsA H a.block a.off ls.length = some ((List.range ls.length).map fun i => (cellA H a.block (a.off + i)).getD default) := cells_all (fun i hi => by
        obtain ⟨r, e, _⟩ := hg i hi
        rw [e]
        rfl) (by omega)
      refine listV_mk (cs := (List.range ls.length).map fun i => (cellA H a.block (a.off + i)).getD default) hf (by simpa using hc) (by simp) hl fun i v hv => ?_
      rw [List.getElem?_map] at hv
      by_cases hi : i < ls.length
      · rw [List.getElem?_range hi] at hv
        injection hv with hv
        subst hv
        obtain ⟨r, e, e2⟩ := hg i hi
        dsimp only
        rw [e]
        exact e2
      · rw [List.getElem?_eq_none (by simp; omega)] at hv
        cases hv
end Go.Ab

namespace Go.Ab
open Go
/-- how a row that is made lies; what it is, and how it lies, is told by 'δ' -/
structure RowD (δ α : Type) (dec : Dec α) where
  val : Nat → δ → Value
  blk : δ → Blk
  row : δ → List α
  ren : ∀ (ρ : Nat → Nat) m l, Ab.ren ρ (val m l) = val (ρ m) l
  sc : ∀ (p : Nat → Prop) m l, p m → Ab.sc p (val m l)
  fix : ∀ (ρ : Nat → Nat) l, renB ρ (blk l) = blk l
  scB : ∀ (p : Nat → Prop) l, Ab.scB p (blk l)
  car : ∀ l, carried (blk l)
  own : ∀ l, (blk l).own = true
  see : ∀ H m l, hget H m = some (blk l) → (row l).length < 2147483648 → listV 1 dec H (val m l) = some (row l)
section
variable {δ α : Type} {dec : Dec α}
def kvd (K : RowD δ α dec) : List Nat → List δ → List Value
  | m :: ms, l :: ls => K.val m l :: kvd K ms ls
  | _, _ => []
def kbd (K : RowD δ α dec) : List Nat → List δ → Heap
  | m :: ms, l :: ls => (m, K.blk l) :: kbd K ms ls
  | _, _ => []
theorem kvd_len (K : RowD δ α dec) : ∀ (ms : List Nat) (ls : List δ), ms.length = ls.length → (kvd K ms ls).length = ls.length
  | [], [], _ => rfl
  | m :: ms, l :: ls, h => by simp [kvd, kvd_len K ms ls (by simpa using h)]
  | [], _ :: _, h => by simp at h
  | _ :: _, [], h => by simp at h
theorem kvd_get (K : RowD δ α dec) : ∀ (ms : List Nat) (ls : List δ) (i m : Nat) (l : δ), ms[i]? = some m → ls[i]? = some l → (kvd K ms ls)[i]? = some (K.val m l)
  | m' :: ms, l' :: ls, 0, m, _, h1, h2 => by simp at h1 h2; subst h1 h2; simp [kvd]
  | m' :: ms, l' :: ls, i + 1, m, l, h1, h2 => by
    simp only [List.getElem?_cons_succ] at h1 h2
    rw [kvd, List.getElem?_cons_succ]
    exact kvd_get K ms ls i m l h1 h2
  | [], _, i, m, l, h1, _ => by simp at h1
  | _ :: _, [], i, m, l, _, h2 => by simp at h2
theorem kvd_ren (K : RowD δ α dec) (ρ : Nat → Nat) : ∀ (ms : List Nat) (ls : List δ), renL ρ (kvd K ms ls) = kvd K (ms.map ρ) ls
  | m :: ms, l :: ls => by simp only [kvd, renL, K.ren, List.map_cons, kvd_ren K ρ ms ls]
  | [], _ => rfl
  | _ :: _, [] => rfl
theorem kvd_sc (K : RowD δ α dec) {p : Nat → Prop} : ∀ (ms : List Nat) (ls : List δ), (∀ m ∈ ms, p m) → scL p (kvd K ms ls)
  | m :: ms, _l :: ls, h => ⟨K.sc _ _ _ (h m (List.mem_cons_self ..)), kvd_sc K ms ls fun k hk => h k (List.mem_cons_of_mem _ hk)⟩
  | [], _, _ => trivial
  | _ :: _, [], _ => trivial
theorem hget_kbd (K : RowD δ α dec) : ∀ (ms : List Nat) (ls : List δ) (k : Nat) (b : Blk), hget (kbd K ms ls) k = some b → ∃ (i : Nat) (l : δ), ms[i]? = some k ∧ ls[i]? = some l ∧ b = K.blk l
  | m :: ms, l :: ls, k, b, h => by
    rw [kbd, hget_cons] at h
    split at h
    · rename_i e; subst e; injection h with h
      exact ⟨0, l, rfl, rfl, h.symm⟩
    · obtain ⟨i, l', h1, h2, h3⟩ := hget_kbd K ms ls k b h
      exact ⟨i + 1, l', by simpa using h1, by simpa using h2, h3⟩
  | [], _, k, b, h => by simp [kbd] at h
  | _ :: _, [], k, b, h => by simp [kbd] at h
theorem kbd_at (K : RowD δ α dec) : ∀ (L c : Nat) (ls : List δ) (i : Nat) (l : δ), ls.length = L → ls[i]? = some l → ∀ H, hget (kbd K (names c L) ls ++ H) (c + i) = some (K.blk l)
  | 0, c, ls, i, l, h1, h2, H => by
    rw [List.length_eq_zero_iff] at h1; subst h1; simp at h2
  | L + 1, c, l' :: ls, 0, l, h1, h2, H => by
    simp at h2; subst h2
    rw [names, kbd, List.cons_append, hget_cons, if_pos (by omega)]
  | L + 1, c, l' :: ls, i + 1, l, h1, h2, H => by
    simp only [List.getElem?_cons_succ] at h2
    rw [names, kbd, List.cons_append, hget_cons, if_neg (by omega), show c + (i + 1) = c + 1 + i by omega]
    exact kbd_at K L (c + 1) ls i l (by simpa using h1) h2 H
  | L + 1, c, [], i, l, h1, h2, H => by simp at h2
def ndvD (O : LstK) (n : Nat) (ls : List δ) : Value := O.val n ls.length
def ndbD (K : RowD δ α dec) (O : LstK) (n : Nat) (ls : List δ) : Heap := (n, O.blk (kvd K (names (n + 1) ls.length) ls)) :: kbd K (names (n + 1) ls.length) ls
theorem ndbD_names {K : RowD δ α dec} {O : LstK} {n : Nat} {ls : List δ} : ∀ x ∈ ndbD K O n ls, n ≤ x.1 ∧ x.1 < n + 1 + ls.length := by
  intro x hx
  rcases List.mem_cons.1 hx with rfl | hx
  · exact ⟨Nat.le_refl _, by dsimp only; omega⟩
  · have key : ∀ (L c : Nat) (xs : List δ), ∀ x ∈ kbd K (names c L) xs, c ≤ x.1 ∧ x.1 < c + L := by
      intro L
      induction L with
      | zero => intro c xs x hx; cases hx
      | succ L ih =>
        intro c xs x hx
        cases xs with
        | nil => cases hx
        | cons y ys =>
          rcases List.mem_cons.1 hx with rfl | hx
          · exact ⟨Nat.le_refl _, by dsimp only; omega⟩
          · have := ih (c + 1) ys x hx
            omega
    have := key _ _ _ x hx
    omega
theorem nestV_ndD {K : RowD δ α dec} {O : LstK} {n : Nat} {ls : List δ} {H : Heap} (h1 : ls.length < 2147483648) (h2 : ∀ l ∈ ls, (K.row l).length < 2147483648) : listV 1 (decL 1 dec) (ndbD K O n ls ++ H) (ndvD O n ls) = some (ls.map K.row) := by
  obtain ⟨s, c, hv, hf⟩ := O.form n ls.length
  have hl := kvd_len K (names (n + 1) ls.length) ls (names_len _ _)
  have hm : (ls.map K.row).length = ls.length := List.length_map ..
  rw [ndvD, hv, ← hm]
  refine listV_mk (cs := kvd K (names (n + 1) ls.length) ls) hf ?_ (by rw [hl, hm]) (by rw [hm]; exact h1) fun i v hi => ?_
  · exact O.cells _ _ _ (by rw [ndbD, List.cons_append, hget_cons, if_pos rfl])
  · have hi' : i < ls.length := by
      have := (List.getElem?_eq_some_iff.1 hi).1
      omega
    have e1 := kvd_get K (names (n + 1) ls.length) ls i _ ls[i] (names_get _ _ i hi') (List.getElem?_eq_getElem hi')
    rw [e1] at hi
    injection hi with hi
    subst hi
    rw [List.getElem?_map, List.getElem?_eq_getElem hi']
    refine K.see _ _ _ ?_ (h2 _ (List.getElem_mem hi'))
    rw [ndbD, List.cons_append, hget_cons, if_neg (by omega)]
    exact kbd_at K _ _ ls i _ rfl (List.getElem?_eq_getElem hi') H
theorem outK_ndD {K : RowD δ α dec} {O : LstK} {n o : Nat} {ms : List Nat} {ls : List δ} {H H1 : Heap} {u : Value} (hu : u = O.val o ls.length) (hlen : ms.length = ls.length) (ho : n ≤ o) (hms : ∀ m ∈ ms, n ≤ m ∧ m ≠ o) (hnd : ms.Nodup) (hO : hget H1 o = some (O.blk (kvd K ms ls))) (hK : ∀ (i m : Nat) (l : δ), ms[i]? = some m → ls[i]? = some l → hget H1 m = some (K.blk l)) (hs : Sub H H1) :
    Fresh n (n + 1 + ls.length) H (ndvD O n ls) (ndbD K O n ls) u H1 := by
  let ρ : Nat → Nat := fun k => if k < n then k else if k = n then o else ms.getD (k - (n + 1)) 0
  have hlow : ∀ k, k < n → ρ k = k := fun k hk => by simp only [ρ]; rw [if_pos hk]
  have hn : ρ n = o := by simp [ρ]
  have hrow : ∀ i m, ms[i]? = some m → ρ (n + 1 + i) = m := fun i m hi => by
    simp only [ρ]
    rw [if_neg (by omega), if_neg (by omega), show n + 1 + i - (n + 1) = i by omega, List.getD_eq_getElem?_getD, hi]
    rfl
  have hmap : (names (n + 1) ls.length).map ρ = ms := by
    apply List.ext_getElem?
    intro i
    by_cases hi : i < ls.length
    · rw [List.getElem?_map, names_get _ _ _ hi]
      obtain ⟨m, hm⟩ : ∃ m, ms[i]? = some m := ⟨_, List.getElem?_eq_getElem (by omega)⟩
      rw [hm, Option.map_some, hrow i m hm]
    · rw [List.getElem?_eq_none (by rw [List.length_map, names_len]; omega), List.getElem?_eq_none (by omega)]
  have hB : ∀ k b, hget (ndbD K O n ls) k = some b → (k = n ∧ b = O.blk (kvd K (names (n + 1) ls.length) ls)) ∨ ∃ (i m : Nat) (l : δ), i < ls.length ∧ k = n + 1 + i ∧ ms[i]? = some m ∧ ls[i]? = some l ∧ b = K.blk l := fun k b hk => by
    rw [ndbD, hget_cons] at hk
    split at hk
    · rename_i e; subst e; injection hk with hk; exact .inl ⟨rfl, hk.symm⟩
    · obtain ⟨i, l, h1, h2, h3⟩ := hget_kbd K _ _ k b hk
      have hi : i < ls.length := (List.getElem?_eq_some_iff.1 h2).1
      rw [names_get _ _ _ hi] at h1
      injection h1 with h1
      exact .inr ⟨i, ms[i]'(by omega), l, hi, h1.symm, List.getElem?_eq_getElem (by omega), h2, h3⟩
  refine ⟨ρ, hlow, by rw [hu, ndvD, O.ren, hn], fun k b hk => ?_, fun j b k c hj hk e => ?_, hs⟩
  · rcases hB k b hk with ⟨rfl, rfl⟩ | ⟨i, m, l, h1, rfl, h3, h4, rfl⟩
    · refine ⟨Nat.le_refl _, by omega, by rw [hn]; exact ho, ?_, ?_, O.car _, O.own _⟩
      · rw [hn, O.fix, kvd_ren, hmap]; exact hO
      · refine O.scB _ _ (kvd_sc K _ _ fun m hm => ?_)
        obtain ⟨i, hi, rfl⟩ := List.getElem_of_mem hm
        rw [names_len] at hi
        have := names_get ls.length (k + 1) i hi
        rw [List.getElem?_eq_getElem (by rw [names_len]; exact hi)] at this
        injection this with this
        rw [this]
        show k + 1 + i < k + 1 + ls.length
        omega
    · refine ⟨by omega, by omega, ?_, ?_, K.scB _ _, K.car _, K.own _⟩
      · rw [hrow i m h3]; exact (hms m (List.mem_of_getElem? h3)).1
      · rw [hrow i m h3, K.fix]; exact hK i m l h3 h4
  · rcases hB j b hj with ⟨rfl, _⟩ | ⟨i, m, l, h1, rfl, h3, _, _⟩ <;> rcases hB k c hk with ⟨rfl, _⟩ | ⟨i', m', l', h1', rfl, h3', _, _⟩
    · rfl
    · rw [hn, hrow i' m' h3'] at e
      exact absurd e.symm (hms m' (List.mem_of_getElem? h3')).2
    · rw [hn, hrow i m h3] at e
      exact absurd e (hms m (List.mem_of_getElem? h3)).2
    · rw [hrow i m h3, hrow i' m' h3'] at e
      have hi : i < ms.length := (List.getElem?_eq_some_iff.1 h3).1
      have hi' : i' < ms.length := (List.getElem?_eq_some_iff.1 h3').1
      have e1 : ms[i] = m := by rw [List.getElem?_eq_getElem hi] at h3; exact Option.some.inj h3
      have e2 : ms[i'] = m' := by rw [List.getElem?_eq_getElem hi'] at h3'; exact Option.some.inj h3'
      have := (List.nodup_iff_pairwise_ne.1 hnd)
      rw [List.pairwise_iff_getElem] at this
      rcases Nat.lt_trichotomy i i' with h | h | h
      · exact absurd (e1.trans (e.trans e2.symm)) (this i i' hi hi' h)
      · subst h; rfl
      · exact absurd (e2.trans (e.symm.trans e1.symm)) (this i' i hi' hi h)
theorem kvd_snoc (K : RowD δ α dec) {m : Nat} {l : δ} : ∀ (ms : List Nat) (R : List δ), ms.length = R.length → kvd K (ms ++ [m]) (R ++ [l]) = kvd K ms R ++ [K.val m l]
  | [], [], _ => rfl
  | _ :: ms, _ :: R, h => by simp [kvd, kvd_snoc K ms R (by simpa using h)]
  | [], _ :: _, h => by simp at h
  | _ :: _, [], h => by simp at h
end
def svL (l : List ByteArray) : List Value := l.map sv
theorem svL_ren (ρ : Nat → Nat) : ∀ l : List ByteArray, renL ρ (svL l) = svL l
  | [] => rfl
  | s :: l => by
    have := svL_ren ρ l
    unfold svL at this ⊢
    simp only [List.map_cons, renL, ren, this]
theorem svL_sc (p : Nat → Prop) : ∀ l : List ByteArray, scL p (svL l)
  | [] => trivial
  | _ :: l => ⟨trivial, svL_sc p l⟩
theorem svL_one : ∀ l : List ByteArray, oneL (svL l) = true
  | [] => rfl
  | s :: l => by
    have := svL_one l
    unfold svL at this ⊢
    simp [oneL, this]
@[simp] theorem svL_len (l : List ByteArray) : (svL l).length = l.length := by simp [svL]
theorem svL_snoc (l : List ByteArray) (s : ByteArray) : svL (l ++ [s]) = svL l ++ [sv s] := by simp [svL]
theorem svL_app (l k : List ByteArray) : svL (l ++ k) = svL l ++ svL k := by simp [svL]
theorem svL_nil : svL [] = [] := rfl
theorem svL_ne {l : List ByteArray} : svL l = [] ↔ l = [] := by simp [svL]
/-- a row of texts: made of a literal, or by an append -/
def kTx (t : TypeId) : RowD (Bool × List ByteArray) ByteArray decS where
  val := fun m d => if d.1 then .slice (some ⟨m, 0, none⟩) d.2.length d.2.length else .slice (some ⟨m, 0, some 0⟩) d.2.length 0
  blk := fun d => if d.1 then .cells (svL d.2) t else .ext (svL d.2) t 1
  row := fun d => d.2
  ren := fun ρ m d => by split <;> rfl
  sc := fun p m d h => by split <;> exact h
  fix := fun ρ d => by split <;> simp only [renB, svL_ren]
  scB := fun p d => by split <;> exact svL_sc p d.2
  car := fun d => by split <;> trivial
  own := fun d => by split <;> rfl
  see := fun H m d h hl => by
    obtain ⟨b, l⟩ := d
    cases b with
    | true => exact listV_mk (cs := svL l) rfl (by rw [cellsA_eq, h]; simp [cellsB]; exact List.take_of_length_le (by simp)) (by simp) hl dec_sv
    | false => exact listV_mk (cs := svL l) rfl (by rw [cellsA_eq, h]; simp [cellsB]; exact List.take_of_length_le (by simp)) (by simp) hl dec_sv
/-- a list of rows: a literal of one row, or made by appends -/
def oLit (t : TypeId) : LstK where
  val := fun m k => if k = 1 then .slice (some ⟨m, 0, none⟩) 1 1 else .slice (some ⟨m, 0, some 0⟩) k 0
  blk := fun l => if l.length = 1 then .cells l t else .ext l t 1
  ren := fun ρ m l => by split <;> rfl
  sc := fun p m l h => by split <;> exact h
  af := fun m k => by split <;> rfl
  fix := fun ρ l => by
    have : (renL ρ l).length = l.length := by rw [renL_eq, List.length_map]
    rw [this]
    split <;> rfl
  scB := fun p l h => by split <;> exact h
  car := fun l => by split <;> trivial
  own := fun l => by split <;> rfl
  cells := fun H m l h => by
    rw [cellsA_eq, h]
    split <;> simp [cellsB]
  form := fun m k => by
    by_cases h : k = 1
    · subst h; exact ⟨none, 1, rfl, rfl⟩
    · exact ⟨some 0, 0, if_neg h, rfl⟩
end Go.Ab

namespace Go.Ab
open Go Go.ChangeShapes Go.WideShapes
structure WV where
  blk : Nat
  off : Nat
  cs : List Value
structure RD where
  A : Option Addr
  L : Nat
  C : Nat
  Z : List Value
def RD.val (r : RD) : Value := .slice r.A r.L r.C
def RD.ok (w : World) (r : RD) : Prop := r.L ≤ r.C ∧ r.Z.length = r.C ∧ (r.A = none → r.C = 0) ∧ afL r.Z = true ∧ ∀ a, r.A = some a → ∀ (c : Nat) v, r.Z[c]? = some v → w.cell? (a.add c) = some v
def RD.view (r : RD) : WV := match r.A with
  | some a => if 0 < r.C then ⟨a.block, a.off, r.Z.take r.L⟩ else ⟨0, 0, []⟩
  | none => ⟨0, 0, []⟩
def RD.dead (r : RD) : Nat := match r.A with
  | some a => a.block
  | none => 0
def RD.abs (vn dn : Nat) (r : RD) : Value := match r.A with
  | none => .slice none 0 0
  | some a => if 0 < r.C then .slice (some ⟨vn, a.off, none⟩) r.L r.C else match a.spot with
    | none => .slice (some ⟨dn, a.off, none⟩) 0 0
    | some s => .slice (some ⟨dn, a.off, some (a.off + 1 + s)⟩) 0 1
section
variable {w : World} {r : RD}
theorem RD.spot (h : r.ok w) {a : Addr} (ha : r.A = some a) (hc : 0 < r.C) : a.spot = none ∧ ∃ c t fz, w.heap[a.block]? = some (.cells c t fz) ∧ ∀ (i : Nat) v, r.Z[i]? = some v → c[a.off + i]? = some v := by
  obtain ⟨_, h2, _, _, h4⟩ := h
  have h0 := h4 a ha 0 r.Z[0] (List.getElem?_eq_getElem (by omega))
  have ha0 : a.add 0 = a := by simp [Addr.add]
  rw [ha0] at h0
  unfold World.cell? at h0
  split at h0
  · rename_i c t fz hw
    split at h0
    · cases h0
    · rename_i hs
      have hs : a.spot = none := by simpa using hs
      refine ⟨hs, c, t, fz, hw, fun i v hi => ?_⟩
      have := h4 a ha i v hi
      obtain ⟨b, o, s⟩ := a
      dsimp only at hs hw
      subst hs
      rw [add_none, cell_get hw] at this
      exact this
  · cases h0
theorem RD.den {φ : Vl} {vn dn : Nat} (h : r.ok w) (hv : φ.loc vn = r.view.blk) (hd : φ.loc dn = r.dead) (hc : φ.cap dn = 0) : Ab.den φ (r.abs vn dn) = r.val := by
  have h0 := h
  obtain ⟨h1, h2, h3, _⟩ := h0
  unfold RD.abs RD.val
  unfold RD.view at hv
  unfold RD.dead at hd
  cases hA : r.A with
  | none =>
    have := h3 hA
    have hL : r.L = 0 := by omega
    rw [hL, this]
    rfl
  | some a =>
    rw [hA] at hv hd
    dsimp only at hv hd ⊢
    by_cases hC : 0 < r.C
    · obtain ⟨hs, _⟩ := RD.spot h hA hC
      rw [if_pos hC] at hv ⊢
      obtain ⟨b, o, s⟩ := a
      dsimp only at hs hv
      subst hs
      simp [Ab.den, hv]
    · have hC0 : r.C = 0 := by omega
      have hL : r.L = 0 := by omega
      rw [if_neg hC, hL, hC0]
      obtain ⟨b, o, s⟩ := a
      dsimp only at hd
      cases s with
      | none => simp [Ab.den, hd]
      | some s =>
        have h5 : o < o + 1 + s := by omega
        have h6 : o + 1 + s - o - 1 = s := by omega
        simp [Ab.den, hd, hc, h5, h6]
theorem RD.sc {p : Nat → Prop} {vn dn : Nat} (h1 : p vn) (h2 : p dn) : Ab.sc p (r.abs vn dn) := by
  unfold RD.abs
  split
  · trivial
  · split
    · exact h1
    · split
      · exact h2
      · exact h2
theorem RD.form {vn dn : Nat} (h : r.ok w) : ∃ a c, r.abs vn dn = .slice a r.L c := by
  obtain ⟨h1, h2, h3, _⟩ := h
  unfold RD.abs
  cases hA : r.A with
  | none =>
    have hL : r.L = 0 := by have := h3 hA; omega
    exact ⟨_, _, by rw [hL]⟩
  | some a =>
    dsimp only
    split
    · exact ⟨_, _, rfl⟩
    · have hL : r.L = 0 := by omega
      split <;> exact ⟨_, _, by rw [hL]⟩
/-- what the walks see of a row: its elements, read one by one -/
theorem RD.seen {α : Type} {dec : Dec α} {H : Heap} {vn dn : Nat} {xs : List α} (h : r.ok w) (hv : hget H vn = some (.inp r.view.off r.view.cs)) (hl : r.L < 2147483648) (hlen : xs.length = r.L) (hd : ∀ (i : Nat) v, (r.Z.take r.L)[i]? = some v → dec H [v] = xs[i]?) : listV 1 dec H (r.abs vn dn) = some xs := by
  have h0 := h
  obtain ⟨h1, h2, h3, _⟩ := h0
  have hnil : r.L = 0 → xs = [] := fun e => List.length_eq_zero_iff.1 (by rw [hlen, e])
  unfold RD.abs
  unfold RD.view at hv
  cases hA : r.A with
  | none =>
    rw [hnil (by have := h3 hA; omega)]
    rfl
  | some a =>
    rw [hA] at hv
    dsimp only at hv ⊢
    by_cases hC : 0 < r.C
    · rw [if_pos hC] at hv ⊢
      have hz : (r.Z.take r.L).length = r.L := by rw [List.length_take]; omega
      rw [← hlen]
      refine listV_mk (cs := r.Z.take r.L) rfl ?_ (by rw [hz, hlen]) (by omega) hd
      rw [cellsA_eq, hv]
      simp [cellsB]
      exact List.take_of_length_le (by rw [List.length_take]; omega)
    · rw [if_neg hC, hnil (by omega)]
      split <;> rfl
end
section
variable {w : World} {v : Value} {rds : List RD}
end
section
variable {Hy : Type} {enc : TypeId × Value → Hy} {P : Program} {w : World} {base : Nat} {held : Bool}
end
end Go.Ab

namespace Go.Ab
open Go
end Go.Ab

namespace Go.Soft
section
variable {α : Type} (vol : α → Int)
/-- an element put into a list that lies backwards, the greatest first -/
def insR (x : α) : List α → List α
  | [] => [x]
  | y :: ys => if vol x < vol y then y :: insR x ys else x :: y :: ys
def srtR (l : List α) : List α := l.foldl (fun acc x => insR vol x acc) []
end
section
variable {α β : Type} {vol : α → Int} {f : β → α}
theorem insR_map (x : β) : ∀ l : List β, insR vol (f x) (l.map f) = (insR (fun i => vol (f i)) x l).map f
  | [] => rfl
  | y :: ys => by
    simp only [List.map_cons, insR]
    split
    · rw [insR_map x ys]; rfl
    · rfl
theorem foldl_map (l : List β) : ∀ acc : List β, (l.map f).foldl (fun acc x => insR vol x acc) (acc.map f) = (l.foldl (fun acc x => insR (fun i => vol (f i)) x acc) acc).map f := by
  induction l with
  | nil => intro acc; rfl
  | cons x l ih =>
    intro acc
    simp only [List.map_cons, List.foldl_cons]
    rw [insR_map, ih]
theorem srtR_map (l : List β) : srtR vol (l.map f) = (srtR (fun i => vol (f i)) l).map f := foldl_map l []
theorem insR_mem {x y : α} : ∀ {l : List α}, y ∈ insR vol x l ↔ y = x ∨ y ∈ l
  | [] => by simp [insR]
  | z :: zs => by
    rw [insR]
    split
    · rw [List.mem_cons, insR_mem (l := zs), List.mem_cons]
      constructor
      · rintro (h | h | h)
        · exact .inr (.inl h)
        · exact .inl h
        · exact .inr (.inr h)
      · rintro (h | h | h)
        · exact .inr (.inl h)
        · exact .inl h
        · exact .inr (.inr h)
    · rw [List.mem_cons]
theorem insR_len {x : α} : ∀ l : List α, (insR vol x l).length = l.length + 1
  | [] => rfl
  | z :: zs => by
    rw [insR]
    split
    · simp [insR_len zs]
    · rfl
theorem foldl_len (l : List α) : ∀ acc : List α, (l.foldl (fun acc x => insR vol x acc) acc).length = acc.length + l.length := by
  induction l with
  | nil => intro acc; rfl
  | cons x l ih =>
    intro acc
    rw [List.foldl_cons, ih, insR_len, List.length_cons]
    omega
theorem srtR_len (l : List α) : (srtR vol l).length = l.length := by
  unfold srtR
  rw [foldl_len]
  simp
theorem foldl_mem {y : α} (l : List α) : ∀ acc : List α, y ∈ l.foldl (fun acc x => insR vol x acc) acc ↔ y ∈ acc ∨ y ∈ l := by
  induction l with
  | nil => intro acc; simp
  | cons x l ih =>
    intro acc
    rw [List.foldl_cons, ih, insR_mem, List.mem_cons]
    constructor
    · rintro ((h | h) | h)
      · exact .inr (.inl h)
      · exact .inl h
      · exact .inr (.inr h)
    · rintro (h | h | h)
      · exact .inl (.inr h)
      · exact .inl (.inl h)
      · exact .inr h
theorem srtR_mem {y : α} (l : List α) : y ∈ srtR vol l ↔ y ∈ l := by
  unfold srtR
  rw [foldl_mem]
  simp
end
section
variable (vol : Nat → Int)
def Lt (a b : Nat) : Prop := vol a < vol b ∨ (vol a = vol b ∧ a < b)
end
section
variable {vol : Nat → Int}
theorem Lt.asymm {a b : Nat} (h : Lt vol a b) (h' : Lt vol b a) : False := by
  rcases h with h | ⟨h1, h2⟩ <;> rcases h' with h' | ⟨h3, h4⟩ <;> omega
theorem Lt.trans {a b c : Nat} (h : Lt vol a b) (h' : Lt vol b c) : Lt vol a c := by
  unfold Lt at *
  rcases h with h | ⟨h1, h2⟩ <;> rcases h' with h' | ⟨h3, h4⟩
  · exact .inl (by omega)
  · exact .inl (by omega)
  · exact .inl (by omega)
  · exact .inr ⟨by omega, by omega⟩
theorem only : ∀ {l m : List Nat}, l.Pairwise (Lt vol) → m.Pairwise (Lt vol) → (∀ x, x ∈ l ↔ x ∈ m) → l = m
  | [], [], _, _, _ => rfl
  | [], b :: m, _, _, h => by
    have := (h b).2 (List.mem_cons_self ..)
    cases this
  | a :: l, [], _, _, h => by
    have := (h a).1 (List.mem_cons_self ..)
    cases this
  | a :: l, b :: m, h1, h2, h => by
    rw [List.pairwise_cons] at h1 h2
    have e : a = b := by
      rcases List.mem_cons.1 ((h a).1 (List.mem_cons_self ..)) with e | h3
      · exact e
      · rcases List.mem_cons.1 ((h b).2 (List.mem_cons_self ..)) with e | h4
        · exact e.symm
        · exact absurd (h1.1 b h4) fun h5 => Lt.asymm h5 (h2.1 a h3)
    subst e
    congr 1
    refine only h1.2 h2.2 fun x => ⟨fun hx => ?_, fun hx => ?_⟩
    · rcases List.mem_cons.1 ((h x).1 (List.mem_cons_of_mem _ hx)) with e | h3
      · subst e; exact absurd (h1.1 x hx) fun h5 => Lt.asymm h5 h5
      · exact h3
    · rcases List.mem_cons.1 ((h x).2 (List.mem_cons_of_mem _ hx)) with e | h3
      · subst e; exact absurd (h2.1 x hx) fun h5 => Lt.asymm h5 h5
      · exact h3
/-- put in, what is in order backwards stays so, if the new one is the last of its kind -/
theorem insR_ord {x : Nat} : ∀ {l : List Nat}, l.Pairwise (fun a b => Lt vol b a) → (∀ y ∈ l, y < x) → (insR vol x l).Pairwise (fun a b => Lt vol b a)
  | [], _, _ => by simp [insR]
  | y :: ys, h, hx => by
    rw [List.pairwise_cons] at h
    rw [insR]
    split
    · rename_i hlt
      rw [List.pairwise_cons]
      refine ⟨fun z hz => ?_, insR_ord h.2 fun z hz => hx z (List.mem_cons_of_mem _ hz)⟩
      rcases insR_mem.1 hz with rfl | hz
      · exact .inl hlt
      · exact h.1 z hz
    · rename_i hge
      have hy : Lt vol y x := by
        have := hx y (List.mem_cons_self ..)
        unfold Lt
        omega
      rw [List.pairwise_cons]
      refine ⟨fun z hz => ?_, List.pairwise_cons.2 h⟩
      rcases List.mem_cons.1 hz with rfl | hz
      · exact hy
      · exact (h.1 z hz).trans hy
theorem foldl_ord (l : List Nat) : ∀ acc : List Nat, acc.Pairwise (fun a b => Lt vol b a) → l.Pairwise (· < ·) → (∀ a ∈ acc, ∀ x ∈ l, a < x) → (l.foldl (fun acc x => insR vol x acc) acc).Pairwise (fun a b => Lt vol b a) := by
  induction l with
  | nil => intro acc h _ _; exact h
  | cons x l ih =>
    intro acc h hl hx
    rw [List.pairwise_cons] at hl
    refine ih _ (insR_ord h fun y hy => hx y hy x (List.mem_cons_self ..)) hl.2 fun a ha z hz => ?_
    rcases insR_mem.1 ha with rfl | ha
    · exact hl.1 z hz
    · exact hx a ha z (List.mem_cons_of_mem _ hz)
/-- the list of the numbers below 'n', by their volumes, equal ones in their order -/
def byVol (vol : Nat → Int) (n : Nat) : List Nat := (srtR vol (List.range n)).reverse
theorem byVol_ord (n : Nat) : (byVol vol n).Pairwise (Lt vol) := by
  unfold byVol srtR
  rw [List.pairwise_reverse]
  exact foldl_ord _ _ List.Pairwise.nil List.pairwise_lt_range fun a ha => by cases ha
theorem byVol_mem {n x : Nat} : x ∈ byVol vol n ↔ x < n := by
  unfold byVol
  rw [List.mem_reverse, srtR_mem, List.mem_range]
/-- by buckets: the volumes from 'v' on, so many -/
def bucket (vol : Nat → Int) (n : Nat) : Nat → Int → List Nat
  | 0, _ => []
  | k + 1, v => (List.range n).filter (fun i => decide (vol i = v)) ++ bucket vol n k (v + 1)
theorem bucket_mem {n x : Nat} : ∀ (k : Nat) (v : Int), x ∈ bucket vol n k v ↔ x < n ∧ v ≤ vol x ∧ vol x < v + k
  | 0, v => by simp [bucket]
  | k + 1, v => by
    rw [bucket, List.mem_append, List.mem_filter, List.mem_range, bucket_mem k (v + 1)]
    simp only [decide_eq_true_eq]
    omega
theorem bucket_ord (n : Nat) : ∀ (k : Nat) (v : Int), (bucket vol n k v).Pairwise (Lt vol)
  | 0, _ => List.Pairwise.nil
  | k + 1, v => by
    rw [bucket, List.pairwise_append]
    refine ⟨?_, bucket_ord n k (v + 1), fun a ha b hb => ?_⟩
    · have h1 : ((List.range n).filter fun i => decide (vol i = v)).Pairwise (· < ·) := List.Pairwise.filter _ List.pairwise_lt_range
      refine List.Pairwise.imp_of_mem (fun {a b} ha hb hab => ?_) h1
      rw [List.mem_filter] at ha hb
      simp only [decide_eq_true_eq] at ha hb
      exact .inr ⟨by omega, hab⟩
    · rw [List.mem_filter] at ha
      simp only [decide_eq_true_eq] at ha
      have := (bucket_mem k (v + 1)).1 hb
      exact .inl (by omega)
theorem bucket_eq {n : Nat} {k : Nat} (h : ∀ i, i < n → 1 ≤ vol i ∧ vol i ≤ k) : bucket vol n k 1 = byVol vol n :=
  only (bucket_ord n k 1) (byVol_ord n) fun x => by
    rw [bucket_mem, byVol_mem]
    constructor
    · exact fun h => h.1
    · intro hx
      have := h x hx
      exact ⟨hx, this.1, by omega⟩
end
end Go.Soft

namespace Go.Soft
def sumTo (V : List Int) (k : Nat) : Int := (V.take k).foldl (· + ·) 0
theorem sumTo_succ {V : List Int} {k : Nat} (h : k < V.length) : sumTo V (k + 1) = sumTo V k + V[k] := by
  unfold sumTo
  rw [List.take_succ_eq_append_getElem h, List.foldl_append]
  rfl
/-- the end of the step that begins at 'from', looked for from 'to' on -/
def stopAt (V : List Int) (from' : Nat) : Nat → Nat → Nat
  | 0, to => to
  | k + 1, to => if to < V.length ∧ sumTo V (to + 1) ≤ 2 * sumTo V from' then stopAt V from' k (to + 1) else to
theorem stopAt_go {V : List Int} {from' to : Nat} (h : to < V.length ∧ sumTo V (to + 1) ≤ 2 * sumTo V from') : stopAt V from' (V.length - to) to = stopAt V from' (V.length - (to + 1)) (to + 1) := by
  obtain ⟨k, hk⟩ : ∃ k, V.length - to = k + 1 := ⟨V.length - to - 1, by omega⟩
  rw [hk, stopAt, if_pos h, show V.length - (to + 1) = k by omega]
theorem stopAt_end {V : List Int} {from' to : Nat} (h : ¬ (to < V.length ∧ sumTo V (to + 1) ≤ 2 * sumTo V from')) : stopAt V from' (V.length - to) to = to := by
  cases e : V.length - to with
  | zero => rfl
  | succ k => rw [stopAt, if_neg h]
theorem stopAt_ge {V : List Int} {from' : Nat} : ∀ (k to : Nat), to ≤ stopAt V from' k to ∧ (to ≤ V.length → stopAt V from' k to ≤ V.length)
  | 0, to => ⟨Nat.le_refl _, fun h => h⟩
  | k + 1, to => by
    rw [stopAt]
    split
    · rename_i h
      have := stopAt_ge (V := V) (from' := from') k (to + 1)
      exact ⟨by omega, fun _ => this.2 (by omega)⟩
    · exact ⟨Nat.le_refl _, fun h => h⟩
/-- the next step's begin -/
def nextS (V : List Int) (from' : Nat) : Nat := stopAt V from' (V.length - (from' + 1)) (from' + 1)
theorem nextS_gt {V : List Int} {from' : Nat} (h : from' < V.length) : from' < nextS V from' ∧ nextS V from' ≤ V.length := by
  have := stopAt_ge (V := V) (from' := from') (V.length - (from' + 1)) (from' + 1)
  unfold nextS
  exact ⟨by omega, this.2 (by omega)⟩
/-- the steps from 'from' on, as pairs of begin and end -/
def cuts (V : List Int) : Nat → Nat → List (Nat × Nat)
  | 0, _ => []
  | k + 1, from' => if from' < V.length then (from', nextS V from') :: cuts V k (nextS V from') else []
theorem cuts_go {V : List Int} {from' : Nat} (h : from' < V.length) : ∀ k, V.length - from' ≤ k → cuts V k from' = (from', nextS V from') :: cuts V (V.length - nextS V from') (nextS V from') := by
  have key : ∀ (m k j from' : Nat), V.length - from' ≤ m → V.length - from' ≤ k → V.length - from' ≤ j → cuts V k from' = cuts V j from' := by
    intro m
    induction m with
    | zero =>
      intro k j from' h0 _ _
      have hf : ¬ from' < V.length := by omega
      cases k <;> cases j <;> simp [cuts, hf]
    | succ m ih =>
      intro k j from' h0 h1 h2
      by_cases hf : from' < V.length
      · obtain ⟨k', rfl⟩ : ∃ k', k = k' + 1 := ⟨k - 1, by omega⟩
        obtain ⟨j', rfl⟩ : ∃ j', j = j' + 1 := ⟨j - 1, by omega⟩
        have := nextS_gt hf
        rw [cuts, cuts, if_pos hf, if_pos hf, ih k' j' (nextS V from') (by omega) (by omega) (by omega)]
      · cases k <;> cases j <;> simp [cuts, hf]
  intro k hk
  obtain ⟨k', rfl⟩ : ∃ k', k = k' + 1 := ⟨k - 1, by omega⟩
  have := nextS_gt h
  rw [cuts, if_pos h, key _ k' (V.length - nextS V from') (nextS V from') (Nat.le_refl _) (by omega) (Nat.le_refl _)]
end Go.Soft
