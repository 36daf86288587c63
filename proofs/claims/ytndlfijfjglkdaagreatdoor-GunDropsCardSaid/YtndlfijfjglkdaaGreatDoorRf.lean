/-
Contracts and plain reckonings behind the law GunDrops, part 6 of 8 (each under the conditions in its statement).
-/
import Derived.Test.YtndlfijfjglkdaaGreatDoorRe
import Derived.Test.YtndlfijfjglkdaaGreatDoorRc
import Derived.Test.YtndlfijfjglkdaaGreatDoorRd
import Derived.Test.YtndlfijfjglkdaaGreatDoorKa
namespace Go.Proofs.YtndlfijfjglkdaaGreatDoor
section
open Go Go.Ab Go.Proofs
def orcN : Oracle := fun f args H n => match Nat.beq f 164 with
 | true => g164 args H n
 | false => none
theorem orcN_ok : OracleOk Tryz.prog orcN := by
 intro f args H n v H' n' h
 unfold orcN at h
 split at h
 · rename_i hf
   have hf := Nat.eq_of_beq_eq_true hf
   subst hf
   exact ok164 _ _ _ _ _ _ h
 · cases h
def setsOf : Nat → List (List Int)
 | 1 => [[0], []]
 | 2 => [[0, 1], [0], [1], []]
 | 3 => [[0, 1, 2], [0, 1], [0, 2], [1, 2], [0], [1], [2], []]
 | 4 => [[0, 1, 2, 3], [0, 1, 2], [0, 1, 3], [0, 2, 3], [1, 2, 3], [0, 1], [0, 2], [0, 3], [1, 2], [1, 3], [2, 3], [0], [1], [2], [3], []]
 | 5 => [[0, 1, 2, 3, 4], [0, 1, 2, 3], [0, 1, 2, 4], [0, 1, 3, 4], [0, 2, 3, 4], [1, 2, 3, 4], [0, 1, 2], [0, 1, 3], [0, 1, 4], [0, 2, 3], [0, 2, 4], [0, 3, 4], [1, 2, 3], [1, 2, 4], [1, 3, 4], [2, 3, 4], [0, 1], [0, 2], [0, 3], [0, 4], [1, 2], [1, 3], [1, 4], [2, 3], [2, 4], [3, 4], [0], [1], [2], [3], [4], []]
 | 6 => [[0, 1, 2, 3, 4, 5], [0, 1, 2, 3, 4], [0, 1, 2, 3, 5], [0, 1, 2, 4, 5], [0, 1, 3, 4, 5], [0, 2, 3, 4, 5], [1, 2, 3, 4, 5], [0, 1, 2, 3], [0, 1, 2, 4], [0, 1, 2, 5], [0, 1, 3, 4], [0, 1, 3, 5], [0, 1, 4, 5], [0, 2, 3, 4], [0, 2, 3, 5], [0, 2, 4, 5], [0, 3, 4, 5], [1, 2, 3, 4], [1, 2, 3, 5], [1, 2, 4, 5], [1, 3, 4, 5], [2, 3, 4, 5], [0, 1, 2], [0, 1, 3], [0, 1, 4], [0, 1, 5], [0, 2, 3], [0, 2, 4], [0, 2, 5], [0, 3, 4], [0, 3, 5], [0, 4, 5], [1, 2, 3], [1, 2, 4], [1, 2, 5], [1, 3, 4], [1, 3, 5], [1, 4, 5], [2, 3, 4], [2, 3, 5], [2, 4, 5], [3, 4, 5], [0, 1], [0, 2], [0, 3], [0, 4], [0, 5], [1, 2], [1, 3], [1, 4], [1, 5], [2, 3], [2, 4], [2, 5], [3, 4], [3, 5], [4, 5], [0], [1], [2], [3], [4], [5], []]
 | _ => []
def fS : Fr := [(3, .pointer (some ⟨12, 0, none⟩)), (4, .pointer (some ⟨13, 0, none⟩)), (5, .pointer (some ⟨14, 0, none⟩)), (6, .slice none 0 0), (7, iv 0), (8, iv 0)]
def hS (k : Nat) : Heap := [(12, .cells [.slice (some ⟨10, 0, some 0⟩) k 0] 32)]
def sS (k : Nat) : St := { fr := fS, sz := 64, H := hS k, n := 16, marks := [], vs := [3, 4, 5, 6, 7, 8, 9, 10, 11, 12, 13, 28, 29, 34, 35] }
def lowS : Heap → Bool
 | [] => true
 | (j, _) :: H => (Nat.ble 16 j || Nat.beq j 12) && lowS H
def endS (k : Nat) (s : St) : Bool := Nat.beq s.sz 64 && s.marks.isEmpty && frIn s.fr fS && heapIn s.H (hS k) && Nat.ble 16 s.n && namesOk s.n s.H && plainH s.H && lowS s.H && (match lk s.fr 9 with
 | some v => nestV s.H v == some (setsOf k)
 | none => false)
noncomputable def runS (i : Nat) (st : St) : Option (Ex × St) := (ev Tryz.prog orcN 100000).code none (cAt (bodyOf Tryz.f93) i) st
noncomputable def okS (k : Nat) : Bool := match runS 2 (sS k) with
 | some (.normal, s4) => (match runS 3 s4 with
   | some (.normal, s5) => (match runS 4 s5 with
     | some (.normal, s) => lowS s4.H && lowS s5.H && endS k s
     | _ => false)
   | _ => false)
 | _ => false
set_option maxRecDepth 100000 in
theorem okS1 : okS 1  = true := by kernel_rfl
set_option maxRecDepth 100000 in
theorem okS2 : okS 2  = true := by kernel_rfl
set_option maxRecDepth 100000 in
theorem okS3 : okS 3  = true := by kernel_rfl
set_option maxRecDepth 100000 in
theorem okS4 : okS 4  = true := by kernel_rfl
set_option maxRecDepth 100000 in
theorem okS5 : okS 5  = true := by kernel_rfl
theorem okS_all {k : Nat} (h : 1 ≤ k) (h4 : k ≤ 5) : okS k  = true := by
 match k, h, h4 with
 | 1, _, _ => exact okS1
 | 2, _, _ => exact okS2
 | 3, _, _ => exact okS3
 | 4, _, _ => exact okS4
 | 5, _, _ => exact okS5
theorem lowS_ok : ∀ {H : Heap}, lowS H = true → ∀ k b, hget H k = some b → 16 ≤ k ∨ k = 12
 | [], _, k, b, h => by simp [hget] at h
 | (j, c) :: H, hl, k, b, h => by
   simp only [lowS, Bool.and_eq_true, Bool.or_eq_true] at hl
   rw [hget_cons] at h
   by_cases e : j = k
   · subst e
     rcases hl.1 with h1 | h1
     · exact .inl (Nat.le_of_ble_eq_true h1)
     · exact .inr (Nat.eq_of_beq_eq_true h1)
   · rw [if_neg e] at h
     exact lowS_ok hl.2 k b h
theorem runS_ok {i : Nat} {st s : St} (h : runS i st = some (.normal, s)) : AT Tryz.prog none (cAt (bodyOf Tryz.f93) i) st .normal s := (ev_sound mixed orcN_ok 100000).code _ _ _ _ _ h
def f6 : Fr := [(30, .bool false), (3, .pointer (some ⟨12, 0, none⟩)), (4, .pointer (some ⟨13, 0, none⟩)), (5, .pointer (some ⟨14, 0, none⟩)), (6, .slice none 0 0), (7, iv 0), (8, iv 0), (9, .slice (some ⟨527, 0, some 0⟩) 64 0), (10, iv 63), (11, .slice (some ⟨525, 0, some 0⟩) 6 0), (12, iv 5), (28, iv 64), (29, iv 64), (34, iv 6), (35, iv 6)]
def h6 : Heap := [(527, .ext [.slice none 0 0, .slice (some ⟨19, 0, some 0⟩) 1 0, .slice (some ⟨23, 0, some 0⟩) 1 0, .slice (some ⟨29, 0, some 0⟩) 2 0, .slice (some ⟨33, 0, some 0⟩) 1 0, .slice (some ⟨39, 0, some 0⟩) 2 0, .slice (some ⟨45, 0, some 0⟩) 2 0, .slice (some ⟨53, 0, some 0⟩) 3 0, .slice (some ⟨57, 0, some 0⟩) 1 0, .slice (some ⟨63, 0, some 0⟩) 2 0, .slice (some ⟨69, 0, some 0⟩) 2 0, .slice (some ⟨77, 0, some 0⟩) 3 0, .slice (some ⟨83, 0, some 0⟩) 2 0, .slice (some ⟨91, 0, some 0⟩) 3 0, .slice (some ⟨99, 0, some 0⟩) 3 0, .slice (some ⟨109, 0, some 0⟩) 4 0, .slice (some ⟨113, 0, some 0⟩) 1 0, .slice (some ⟨119, 0, some 0⟩) 2 0, .slice (some ⟨125, 0, some 0⟩) 2 0, .slice (some ⟨133, 0, some 0⟩) 3 0, .slice (some ⟨139, 0, some 0⟩) 2 0, .slice (some ⟨147, 0, some 0⟩) 3 0, .slice (some ⟨155, 0, some 0⟩) 3 0, .slice (some ⟨165, 0, some 0⟩) 4 0, .slice (some ⟨171, 0, some 0⟩) 2 0, .slice (some ⟨179, 0, some 0⟩) 3 0, .slice (some ⟨187, 0, some 0⟩) 3 0, .slice (some ⟨197, 0, some 0⟩) 4 0, .slice (some ⟨205, 0, some 0⟩) 3 0, .slice (some ⟨215, 0, some 0⟩) 4 0, .slice (some ⟨225, 0, some 0⟩) 4 0, .slice (some ⟨237, 0, some 0⟩) 5 0, .slice (some ⟨241, 0, some 0⟩) 1 0, .slice (some ⟨247, 0, some 0⟩) 2 0, .slice (some ⟨253, 0, some 0⟩) 2 0, .slice (some ⟨261, 0, some 0⟩) 3 0, .slice (some ⟨267, 0, some 0⟩) 2 0, .slice (some ⟨275, 0, some 0⟩) 3 0, .slice (some ⟨283, 0, some 0⟩) 3 0, .slice (some ⟨293, 0, some 0⟩) 4 0, .slice (some ⟨299, 0, some 0⟩) 2 0, .slice (some ⟨307, 0, some 0⟩) 3 0, .slice (some ⟨315, 0, some 0⟩) 3 0, .slice (some ⟨325, 0, some 0⟩) 4 0, .slice (some ⟨333, 0, some 0⟩) 3 0, .slice (some ⟨343, 0, some 0⟩) 4 0, .slice (some ⟨353, 0, some 0⟩) 4 0, .slice (some ⟨365, 0, some 0⟩) 5 0, .slice (some ⟨371, 0, some 0⟩) 2 0, .slice (some ⟨379, 0, some 0⟩) 3 0, .slice (some ⟨387, 0, some 0⟩) 3 0, .slice (some ⟨397, 0, some 0⟩) 4 0, .slice (some ⟨405, 0, some 0⟩) 3 0, .slice (some ⟨415, 0, some 0⟩) 4 0, .slice (some ⟨425, 0, some 0⟩) 4 0, .slice (some ⟨437, 0, some 0⟩) 5 0, .slice (some ⟨445, 0, some 0⟩) 3 0, .slice (some ⟨455, 0, some 0⟩) 4 0, .slice (some ⟨465, 0, some 0⟩) 4 0, .slice (some ⟨477, 0, some 0⟩) 5 0, .slice (some ⟨487, 0, some 0⟩) 4 0, .slice (some ⟨499, 0, some 0⟩) 5 0, .slice (some ⟨511, 0, some 0⟩) 5 0, .slice (some ⟨525, 0, some 0⟩) 6 0] 229 1), (525, .ext [iv 0, iv 1, iv 2, iv 3, iv 4, iv 5] 3 1), (511, .ext [iv 1, iv 2, iv 3, iv 4, iv 5] 3 1), (499, .ext [iv 0, iv 2, iv 3, iv 4, iv 5] 3 1), (487, .ext [iv 2, iv 3, iv 4, iv 5] 3 1), (477, .ext [iv 0, iv 1, iv 3, iv 4, iv 5] 3 1), (465, .ext [iv 1, iv 3, iv 4, iv 5] 3 1), (455, .ext [iv 0, iv 3, iv 4, iv 5] 3 1), (445, .ext [iv 3, iv 4, iv 5] 3 1), (437, .ext [iv 0, iv 1, iv 2, iv 4, iv 5] 3 1), (425, .ext [iv 1, iv 2, iv 4, iv 5] 3 1), (415, .ext [iv 0, iv 2, iv 4, iv 5] 3 1), (405, .ext [iv 2, iv 4, iv 5] 3 1), (397, .ext [iv 0, iv 1, iv 4, iv 5] 3 1), (387, .ext [iv 1, iv 4, iv 5] 3 1), (379, .ext [iv 0, iv 4, iv 5] 3 1), (371, .ext [iv 4, iv 5] 3 1), (365, .ext [iv 0, iv 1, iv 2, iv 3, iv 5] 3 1), (353, .ext [iv 1, iv 2, iv 3, iv 5] 3 1), (343, .ext [iv 0, iv 2, iv 3, iv 5] 3 1), (333, .ext [iv 2, iv 3, iv 5] 3 1), (325, .ext [iv 0, iv 1, iv 3, iv 5] 3 1), (315, .ext [iv 1, iv 3, iv 5] 3 1), (307, .ext [iv 0, iv 3, iv 5] 3 1), (299, .ext [iv 3, iv 5] 3 1), (293, .ext [iv 0, iv 1, iv 2, iv 5] 3 1), (283, .ext [iv 1, iv 2, iv 5] 3 1), (275, .ext [iv 0, iv 2, iv 5] 3 1), (267, .ext [iv 2, iv 5] 3 1), (261, .ext [iv 0, iv 1, iv 5] 3 1), (253, .ext [iv 1, iv 5] 3 1), (247, .ext [iv 0, iv 5] 3 1), (241, .ext [iv 5] 3 1), (237, .ext [iv 0, iv 1, iv 2, iv 3, iv 4] 3 1), (225, .ext [iv 1, iv 2, iv 3, iv 4] 3 1), (215, .ext [iv 0, iv 2, iv 3, iv 4] 3 1), (205, .ext [iv 2, iv 3, iv 4] 3 1), (197, .ext [iv 0, iv 1, iv 3, iv 4] 3 1), (187, .ext [iv 1, iv 3, iv 4] 3 1), (179, .ext [iv 0, iv 3, iv 4] 3 1), (171, .ext [iv 3, iv 4] 3 1), (165, .ext [iv 0, iv 1, iv 2, iv 4] 3 1), (155, .ext [iv 1, iv 2, iv 4] 3 1), (147, .ext [iv 0, iv 2, iv 4] 3 1), (139, .ext [iv 2, iv 4] 3 1), (133, .ext [iv 0, iv 1, iv 4] 3 1), (125, .ext [iv 1, iv 4] 3 1), (119, .ext [iv 0, iv 4] 3 1), (113, .ext [iv 4] 3 1), (109, .ext [iv 0, iv 1, iv 2, iv 3] 3 1), (99, .ext [iv 1, iv 2, iv 3] 3 1), (91, .ext [iv 0, iv 2, iv 3] 3 1), (83, .ext [iv 2, iv 3] 3 1), (77, .ext [iv 0, iv 1, iv 3] 3 1), (69, .ext [iv 1, iv 3] 3 1), (63, .ext [iv 0, iv 3] 3 1), (57, .ext [iv 3] 3 1), (53, .ext [iv 0, iv 1, iv 2] 3 1), (45, .ext [iv 1, iv 2] 3 1), (39, .ext [iv 0, iv 2] 3 1), (33, .ext [iv 2] 3 1), (29, .ext [iv 0, iv 1] 3 1), (23, .ext [iv 1] 3 1), (19, .ext [iv 0] 3 1), (12, .cells [.slice (some ⟨10, 0, some 0⟩) 6 0] 32)]
def s6 : St := { fr := f6, sz := 64, H := h6, n := 528, marks := [], vs := [3, 4, 5, 6, 7, 8, 9, 10, 11, 12, 13, 28, 29, 34, 35] }
def chk1 (r : Option (Ex × St)) (p : St → Bool) : Bool := match r with
 | some (.normal, s) => p s
 | _ => false
theorem chk1_ex {r : Option (Ex × St)} {p : St → Bool} (h : chk1 r p = true) : ∃ s, r = some (.normal, s) ∧ p s = true := by
 unfold chk1 at h
 split at h
 · exact ⟨_, rfl, h⟩
 · cases h
def made6 (s4 s5 : St) : Bool := lowS s4.H && lowS s5.H && Nat.beq s5.sz 64 && s5.marks.isEmpty && Nat.beq s5.n 528 && frIn s5.fr f6 && heapIn s5.H h6 && lowS h6
noncomputable def okC6 : Bool := chk1 (runS 2 (sS 6)) fun s4 => chk1 (runS 3 s4) fun s5 => made6 s4 s5
noncomputable def okD6 : Bool := chk1 (runS 4 s6) (endS 6)
set_option maxRecDepth 100000 in
theorem okC6_ok : okC6 = true := by kernel_rfl
set_option maxRecDepth 100000 in
theorem okD6_ok : okD6 = true := by kernel_rfl
theorem Leads.keepL {P : Program} {n0 : Nat} {s s2 : St} (hn : s2.n = s.n) (hz : s2.sz = s.sz) (hm : s2.marks = s.marks) (hf' : ∀ t v, lk s2.fr t = some v → lk s.fr t = some v) (hh : Sub s2.H s.H) : Leads P n0 s s2 := by
 intro p φ M w0 hg hp a w φ1 hS hs
 rw [hn]
 exact ⟨φ1, ⟨⟨hS.base.rel.sub hh, hn ▸ hS.base.lt, hS.base.gl, hn ▸ hS.base.gn, fun k b hk => hS.base.sm k b (hh k b hk), fun t v hv => hS.base.ar t v (hf' t v hv), fun t v hv => hS.base.sf t v (hf' t v hv)⟩, hz ▸ hS.size, hm ▸ hS.defs, hm ▸ hS.marks⟩, hs.sub hh⟩
theorem sub_beside {A B Z : Heap} (h : Sub A B) (hd : ∀ j b, hget Z j = some b → hget B j = none) : Sub (A ++ Z) (B ++ Z) := fun j b hb => by
 rw [hget_append] at hb ⊢
 cases hA : hget A j with
 | some c =>
   rw [hA] at hb
   rw [h j c hA]
   exact hb
 | none =>
   rw [hA] at hb
   rw [hd j b hb]
   exact hb
theorem okC6_ex : ∃ s4 s5, runS 2 (sS 6) = some (.normal, s4) ∧ runS 3 s4 = some (.normal, s5) ∧ made6 s4 s5 = true := by
 obtain ⟨s4, h1, h2⟩ := chk1_ex (r := runS 2 (sS 6)) (p := fun s4 => chk1 (runS 3 s4) fun s5 => made6 s4 s5) okC6_ok
 obtain ⟨s5, h3, h4⟩ := chk1_ex h2
 exact ⟨s4, s5, h1, h3, h4⟩
theorem okD6_ex : ∃ s, runS 4 s6 = some (.normal, s) ∧ endS 6 s = true := chk1_ex (r := runS 4 s6) (p := endS 6) okD6_ok
theorem sets_run {k : Nat} (h : 1 ≤ k) (h6 : k ≤ 6) {Z : Heap} (hZ : ∀ j b, hget Z j = some b → j < 16 ∧ j ≠ 12) : ∃ s4 s5 t5 s : St, AT Tryz.prog none (cAt (bodyOf Tryz.f93) 2) { sS k with H := hS k ++ Z } .normal { s4 with H := s4.H ++ Z } ∧ AT Tryz.prog none (cAt (bodyOf Tryz.f93) 3) { s4 with H := s4.H ++ Z } .normal { s5 with H := s5.H ++ Z } ∧
   (t5.n = s5.n ∧ t5.sz = s5.sz ∧ t5.marks = s5.marks ∧ (∀ t v, lk t5.fr t = some v → lk s5.fr t = some v) ∧ Sub (t5.H ++ Z) (s5.H ++ Z)) ∧ AT Tryz.prog none (cAt (bodyOf Tryz.f93) 4) { t5 with H := t5.H ++ Z } .normal { s with H := s.H ++ Z } ∧
   s.sz = 64 ∧ s.marks = [] ∧ (∀ t v, lk fS t = some v → lk s.fr t = some v) ∧ hget s.H 12 = some (.cells [.slice (some ⟨10, 0, some 0⟩) k 0] 32) ∧ 16 ≤ s.n ∧ namesOk s.n s.H = true ∧ plainH s.H = true ∧ (∀ j b, hget s.H j = some b → 16 ≤ j ∨ j = 12) ∧ ∃ v, lk s.fr 9 = some v ∧ nestV s.H v = some (setsOf k) := by
 have hfree : ∀ {H : Heap}, lowS H = true → ∀ j b, hget Z j = some b → hget H j = none := fun {H} hl j b hb => by
   cases hc : hget H j with
   | none => rfl
   | some c =>
     have h1 := lowS_ok hl j c hc
     have h2 := hZ j b hb
     omega
 have h12 : ∀ j b, hget Z j = some b → hget (sS k).H j = none := fun j b hb => by
   have := (hZ j b hb).2
   simp only [sS, hS, hget_cons]
   rw [if_neg (by omega)]
   rfl
 have hend : ∀ s, endS k s = true → s.sz = 64 ∧ s.marks = [] ∧ (∀ t v, lk fS t = some v → lk s.fr t = some v) ∧ hget s.H 12 = some (.cells [.slice (some ⟨10, 0, some 0⟩) k 0] 32) ∧ 16 ≤ s.n ∧ namesOk s.n s.H = true ∧ plainH s.H = true ∧ (∀ j b, hget s.H j = some b → 16 ≤ j ∨ j = 12) ∧ ∃ v, lk s.fr 9 = some v ∧ nestV s.H v = some (setsOf k) := fun s hs => by
   simp only [endS, Bool.and_eq_true] at hs
   obtain ⟨⟨⟨⟨⟨⟨⟨⟨h1, h2⟩, h3⟩, h4⟩, h5⟩, h6⟩, h7⟩, h8⟩, h9⟩ := hs
   refine ⟨Nat.eq_of_beq_eq_true h1, List.isEmpty_iff.1 h2, frIn_ok _ _ h3, heapIn_ok _ _ h4 _ _ (by simp [hS]), Nat.le_of_ble_eq_true h5, h6, h7, lowS_ok h8, ?_⟩
   split at h9
   · rename_i v hv
     exact ⟨v, hv, eq_of_beq h9⟩
   · cases h9
 by_cases h5 : k ≤ 5
 · have hk := okS_all h h5
   unfold okS at hk
   split at hk
   · rename_i s4 e4
     split at hk
     · rename_i s5 e5
       split at hk
       · rename_i s e6
         rw [Bool.and_eq_true, Bool.and_eq_true] at hk
         exact ⟨s4, s5, s5, s, (runS_ok e4).frameR fun j b hb => .inl (h12 j b hb), (runS_ok e5).frameR fun j b hb => .inl (hfree hk.1.1 j b hb), ⟨rfl, rfl, rfl, fun _ _ h => h, Sub.refl _⟩, (runS_ok e6).frameR fun j b hb => .inl (hfree hk.1.2 j b hb), hend s hk.2⟩
       · cases hk
     · cases hk
   · cases hk
 · obtain rfl : k = 6 := by omega
   obtain ⟨s4, s5, e4, e5, hA⟩ := okC6_ex
   obtain ⟨s, e6, hB⟩ := okD6_ex
   unfold made6 at hA
   simp only [Bool.and_eq_true] at hA
   obtain ⟨⟨⟨⟨⟨⟨⟨a1, a2⟩, a3⟩, a4⟩, a5⟩, a6⟩, a7⟩, a8⟩ := hA
   exact ⟨s4, s5, s6, s, (runS_ok e4).frameR fun j b hb => .inl (h12 j b hb), (runS_ok e5).frameR fun j b hb => .inl (hfree a1 j b hb), ⟨(Nat.eq_of_beq_eq_true a5).symm, (Nat.eq_of_beq_eq_true a3).symm, (List.isEmpty_iff.1 a4).symm, frIn_ok _ _ a6, sub_beside (heapIn_ok _ _ a7) (hfree a2)⟩, (runS_ok e6).frameR fun j b hb => .inl (hfree a8 j b hb), hend s hB⟩
open Classical in
noncomputable def g171 (ps : Nat) (l : List Gun) (args : List Value) (H : Heap) (n : Nat) : R := match args with
 | [v, fv] => if fv = cl172 ps ∧ KStr ps l H then (intV H v).bind fun zs => if ∀ z ∈ zs, 0 ≤ z ∧ z.toNat < l.length then some (outS n zs.length, outSB n 9 1 zs.length (nmsC l zs) ++ H, n + 1) else none else none
 | _ => none
theorem g171_at {H : Heap} {n ps : Nat} {l : List Gun} {zs : List Int} {v : Value} (hK : KStr ps l H) (hV : intV H v = some zs) (hz : ∀ z ∈ zs, 0 ≤ z ∧ z.toNat < l.length) : g171 ps l [v, cl172 ps] H n = some (outS n zs.length, outSB n 9 1 zs.length (nmsC l zs) ++ H, n + 1) := by
 simp only [g171]
 rw [if_pos ⟨rfl, hK⟩, hV, Option.bind_some, if_pos hz]
theorem ok171 {ps : Nat} {l : List Gun} : EntOk Tryz.prog (171, g171 ps l) := by
 intro args H n v H' n' h
 simp only [g171] at h
 split at h
 · split at h
   · rename_i hc
     obtain ⟨rfl, h1⟩ := hc
     obtain ⟨zs, h4, h5⟩ := Option.bind_eq_some_iff.1 h
     split at h5
     · rename_i h6
       injection h5 with h; injection h with e1 e2; injection e2 with e2 e3; subst e1 e2 e3
       exact w171 h1 h4 h6
     · cases h5
   · cases h
 · cases h
def lrgE (l : List Gun) (rs : List Rul) (w : Int) : Int := firstV [strE l, rulsE rs, withinV w 1 64]
def lrgI (l : List Gun) (rs : List Rul) (W : Nat) : Int := fstT (freeAt l rs W (setsOf l.length)) (setsOf l.length).length
def lrgS (l : List Gun) (rs : List Rul) (W : Nat) : List Int := match (setsOf l.length)[(lrgI l rs W).toNat]? with
 | some zs => zs
 | none => []
def lrgZ (l : List Gun) (rs : List Rul) (w : Int) : List Int := if lrgE l rs w = 0 then lrgS l rs w.toNat else []
theorem setsOf_lt {k : Nat} (h : 1 ≤ k) (h4 : k ≤ 6) : (∀ zs ∈ setsOf k, ∀ z ∈ zs, 0 ≤ z ∧ z.toNat < k) ∧ ∃ i, ∃ hi : i < (setsOf k).length, (setsOf k)[i] = [] := by
 match k, h, h4 with
 | 1, _, _ => exact ⟨by decide, 1, by decide, rfl⟩
 | 2, _, _ => exact ⟨by decide, 3, by decide, rfl⟩
 | 3, _, _ => exact ⟨by decide, 7, by decide, rfl⟩
 | 4, _, _ => exact ⟨by decide, 15, by decide, rfl⟩
 | 5, _, _ => exact ⟨by decide, 31, by decide, rfl⟩
 | 6, _, _ => exact ⟨by decide +kernel, 63, by decide, rfl⟩
theorem outB_nil : outB [] = fun _ => true := by
 funext i
 simp [outB]
theorem bandAt_nonneg {b : Nat → Bool} {l : List Gun} {d : ByteArray} {W : Nat} {k : Int} (hst : strE l = 0) (hW : W ≤ 64) : 0 ≤ bandAt (bandF b l d W) k := by
 obtain ⟨h1, h2, h3⟩ := bandF_bd (b := b) (d := d) hst hW
 unfold bandAt
 split
 · exact h1.1
 · split
   · exact h2.1
   · exact h3.1
theorem refB_none {l : List Gun} {q : Rul} {W : Nat} (hst : strE l = 0) (hrz : rulE q = 0) (hW : W ≤ 64) : refB (outB []) l q W = false := by
 obtain ⟨_, _, h1, h2⟩ := rulE_zero hrz
 have hb := bandAt_nonneg (b := fun _ => true) (d := q.dir) (k := q.band) hst hW
 rw [outB_nil]
 unfold refB
 rw [decide_eq_false_iff_not, Int.not_lt]
 exact Int.mul_le_mul_of_nonneg_right h2 hb
theorem anyB_none {l : List Gun} {rs : List Rul} {W : Nat} (hst : strE l = 0) (hrz : rulsE rs = 0) (hW : W ≤ 64) : anyB (outB []) l rs W = false := by
 have : fstT (refAt (outB []) l rs W) rs.length = -1 := fstT_miss fun j hj => by
   rw [refAt_at hj]
   exact refB_none hst ((rulsE_zero hrz).2 j hj) hW
 rw [anyB, this]
 rfl
theorem lrg_at {l : List Gun} {rs : List Rul} {W : Nat} (hst : strE l = 0) (h4 : l.length ≤ 6) (hrz : rulsE rs = 0) (hW : W ≤ 64) : ∃ i, ∃ hi : i < (setsOf l.length).length, lrgI l rs W = i ∧ lrgS l rs W = (setsOf l.length)[i] := by
 obtain ⟨h1, i, hi, he⟩ := setsOf_lt (k := l.length) (by have := strE_len hst; omega) h4
 rcases fstT_cases (freeAt l rs W (setsOf l.length)) (setsOf l.length).length with ⟨j, h2, h3, _, h5⟩ | ⟨h2, _⟩
 · refine ⟨j, h2, h5, ?_⟩
   rw [lrgS, lrgI, h5, Int.toNat_natCast, List.getElem?_eq_getElem h2]
 · have := h2 i hi
   rw [freeAt_at hi, he, anyB_none hst hrz hW] at this
   cases this
set_option maxRecDepth 20000 in
set_option maxHeartbeats 2000000 in
theorem w93c {H : Heap} {rv : Value} {l : List Gun} {rs : List Rul} {w : Int} (g0 : hget H 0 = some (.inp 0 names0)) (hG : OwnG H (.slice (some ⟨10, 0, some 0⟩) l.length 0) l) (hR : rulV H rv = some rs) (h6 : strE l = 0 → l.length ≤ 6) :
   AC Tryz.prog 93 [.agg ⟨[.slice (some ⟨10, 0, some 0⟩) l.length 0]⟩, rv, iv w] H 12 (.tuple #[outS 12 (lrgZ l rs w).length, iv (lrgE l rs w)]) (outSB 12 9 1 (lrgZ l rs w).length (nmsC l (lrgZ l rs w)) ++ H) (12 + 1) := by
 refine AC.given fun hold hsc hgn => AC.tidied (fun x hx => outSB_ge x hx) ?_
 have hlt0 := fun k b h => (hold k b h).1
 replace g0 : hget (tidy 12 H) 0 = some (.inp 0 names0) := hget_tidy.2 ⟨g0, (hold 0 _ g0).1, rfl⟩
 replace hG := hG.tidy hlt0
 replace hR : rulV (tidy 12 H) rv = some rs := listV_tidy decR_tidy hlt0 hR
 obtain ⟨oa, c, rfl, hlt, hrow⟩ := rulV_form hR
 obtain ⟨rv, hrv⟩ : ∃ rv, Value.slice oa rs.length c = rv := ⟨_, rfl⟩
 obtain ⟨v, hv⟩ : ∃ v, Value.slice (some ⟨10, 0, some 0⟩) l.length 0 = v := ⟨_, rfl⟩
 rw [hrv] at hR
 rw [hv] at hG
 have hr := recT_ok (P := Tryz.prog) (l := [(31, g31), (102, g102), (113, g113), (127, g1 fun a => withinV a 1 64), (165, g165 13 12 14 l rs w.toNat), (171, g171 12 l)]) (by simp only [List.forall_mem_cons]; exact ⟨ok31, ok102, ok113, ok127, ok165, ok171, by simp⟩)
 obtain ⟨X0, hX0⟩ : ∃ X0, (14, Blk.cells [iv w] 3) :: (13, Blk.cells [rv] 154) :: (12, .cells [v] 32) :: tidy 12 H = X0 := ⟨_, rfl⟩
 have hno : ∀ k, 12 ≤ k → hget (tidy 12 H) k = none := fun k hk => namesOk_none namesOk_tidy k hk
 have hS0 : Sub (tidy 12 H) X0 := by rw [← hX0]; exact Sub.cons (hno 14 (by omega)) (Sub.cons (hno 13 (by omega)) (Sub.cons (hno 12 (by omega)) (Sub.refl _)))
 have hm0 : namesOk 15 X0 = true := by rw [← hX0]; exact namesOk_put (by omega) (namesOk_put (by omega) (namesOk_put (by omega) (namesOk_mono (by omega) _ namesOk_tidy)))
 have hp0 : plainH X0 = true := by rw [← hX0]; simp [plainH, plainB2]
 have hb0 : hget X0 12 = some (.cells [v] 32) := by rw [← hX0, hget_cons, if_neg (by omega), hget_cons, if_neg (by omega), hget_cons, if_pos rfl]
 have hb1 : hget X0 13 = some (.cells [rv] 154) := by rw [← hX0, hget_cons, if_neg (by omega), hget_cons, if_pos rfl]
 have hb2 : hget X0 14 = some (.cells [iv w] 3) := by rw [← hX0, hget_cons, if_pos rfl]
 have c0 : cellsA X0 12 0 1 = some [v] := by rw [cellsA_eq, hb0]; rfl
 have c1 : cellA X0 13 0 = some rv := by rw [cellA_eq, hb1]; rfl
 have c2 : cellA X0 14 0 = some (iv w) := by rw [cellA_eq, hb2]; rfl
 have c0f : cellsA (frzH X0) 12 0 1 = some [v] := by rw [cellsA_frz, c0]
 have c1f : cellA (frzH X0) 13 0 = some rv := by rw [cellA_frz, c1]
 have c2f : cellA (frzH X0) 14 0 = some (iv w) := by rw [cellA_frz, c2]
 obtain ⟨z1, hz1⟩ : ∃ z, strE l = z := ⟨_, rfl⟩
 obtain ⟨z2, hz2⟩ : ∃ z, rulsE rs = z := ⟨_, rfl⟩
 obtain ⟨z3, hz3⟩ : ∃ z, withinV w 1 64 = z := ⟨_, rfl⟩
 have hGx := hG.mono hS0
 have hRx : rulV X0 rv = some rs := listV_mono decR_mono hS0 hR
 have h31 : ∀ m, g31 [.agg ⟨[v]⟩] X0 m = some (iv z1, X0, m) := fun m => by rw [← hz1]; exact hGx.check m
 have h31f : ∀ m, g31 [.agg ⟨[v]⟩] (frzH X0) m = some (iv z1, frzH X0, m) := fun m => by rw [← hz1]; exact hGx.frz.check m
 have h102 : ∀ m, g102 [rv] X0 m = some (iv z2, X0, m) := fun m => by
   simp only [g102, hRx, Option.map_some, hz2]
   rw [if_pos (hS0 _ _ g0)]
 have h102f : ∀ m, g102 [rv] (frzH X0) m = some (iv z2, frzH X0, m) := fun m => by
   have e : rulV (frzH X0) rv = some rs := by rw [← hRx]; exact listV_frz decR_frz X0 rv
   simp only [g102, e, Option.map_some, hz2]
   rw [if_pos (by rw [hget_frz, hS0 _ _ g0]; rfl)]
 obtain ⟨z, hz⟩ : ∃ z, firstV [z1, z2, z3] = z := ⟨_, rfl⟩
 have hE : lrgE l rs w = z := by rw [lrgE, hz1, hz2, hz3, hz]
 have htk := takeNew_frz hm0
 obtain ⟨X1, hX1⟩ : ∃ X1, (15, Blk.cells [iv z1, iv z2, iv z3] 27) :: X0 = X1 := ⟨_, rfl⟩
 have hS1 : Sub X0 X1 := by rw [← hX1]; exact Sub.cons (namesOk_none hm0 _ (Nat.le_refl _)) (Sub.refl _)
 have hm1 : namesOk 16 X1 = true := by rw [← hX1]; exact namesOk_put (by omega) (namesOk_mono (by omega) _ hm0)
 have hp1 : plainH X1 = true := by rw [← hX1]; simp [plainH, plainB2, hp0]
 have h113 : ∀ m, g113 [.slice (some ⟨15, 0, none⟩) 3 3] X1 m = some (iv z, X1, m) := fun m => by
   have : intsAt X1 ⟨15, 0, none⟩ 3 = some [z1, z2, z3] := intsAt_iv rfl (by rw [← hX1, cellsA_cons, if_pos rfl]; rfl) (by omega)
   simp only [g113, this, Option.map_some, hz]
 have hm0' : namesOk 16 X0 = true := namesOk_mono (by omega) _ hm0
 refine AC.grownE Tryz.func93 rfl (by kernel_rfl) rfl [3, 4, 5, 6, 7, 8, 9, 10, 11, 12, 13, 28, 29, 34, 35] ?_
 refine E.seq (E.reg hr (by simp; rfl) ?_)
 rw [hrv, hv, hX0]
 refine E.seq (E.seq ?_)
 refine E.drawU mixed hr [5, 6, 7] [1, 3, 5, 6, 7] [0, 1, 3, 5, 6, 7] (by kernel_rfl) (by simp [-cellsA, -cellA, -readA, cellA_read, cellsA_read, hm0, hp0, htk, c0, c1, c2, h31f, h102f, g1, hz3, hX1, h113, hm1]; rfl) ?_
 refine E.seq (E.reg hr (by simp; rfl) ?_)
 by_cases hz0 : z = 0
 case neg =>
   have hL : lrgZ l rs w = [] := by rw [lrgZ, if_neg (by rw [hE]; exact hz0)]
   rw [hL, hE]
   refine E.cond (t := true) (by simp [hz0]) (fun _ => ?_) (fun h => by cases h)
   refine E.seq (E.reg hr (by simp; rfl) ?_)
   refine E.ret ?_
   exact outK.ret rfl rfl ((fresh_none (hS0.trans hS1)).pair z)
 refine E.cond (t := false) (by simp [hz0]) (fun h => by cases h) (fun _ => ?_)
 refine E.skip ?_
 subst hz0
 have hst : strE l = 0 := by rw [hz1]; exact (firstV_zero _).1 hz z1 (by simp)
 have h4 := h6 hst
 have hrs : rulsE rs = 0 := by rw [hz2]; exact (firstV_zero _).1 hz z2 (by simp)
 have hww : 1 ≤ w ∧ w ≤ 64 := (withinV_zero _ _ _).1 (by rw [hz3]; exact (firstV_zero _).1 hz z3 (by simp))
 obtain ⟨W, rfl⟩ := Int.eq_ofNat_of_zero_le (show 0 ≤ w by omega)
 rw [Int.toNat_natCast] at hr
 have hWW : 1 ≤ W ∧ W ≤ 64 := by omega
 rw [lrgZ, if_pos hE, hE, Int.toNat_natCast]
 obtain ⟨Z, hZ⟩ : ∃ Z, (15, Blk.cells [iv z1, iv z2, iv z3] 27) :: (14, Blk.cells [iv W] 3) :: (13, Blk.cells [rv] 154) :: tidy 12 H = Z := ⟨_, rfl⟩
 have hZl : ∀ j b, hget Z j = some b → j < 16 ∧ j ≠ 12 := fun j b hb => by
   rw [← hZ, hget_cons, hget_cons, hget_cons] at hb
   by_cases e1 : 15 = j
   · omega
   by_cases e2 : 14 = j
   · omega
   by_cases e3 : 13 = j
   · omega
   rw [if_neg e1, if_neg e2, if_neg e3] at hb
   rcases Nat.lt_or_ge j 12 with h | h
   · omega
   · rw [hno j h] at hb; cases hb
 have hZt : Sub (tidy 12 H) Z := by rw [← hZ]; exact Sub.cons (hno 15 (by omega)) (Sub.cons (hno 14 (by omega)) (Sub.cons (hno 13 (by omega)) (Sub.refl _)))
 have hSX : Sub (hS l.length ++ Z) X1 := fun j b hb => by
   rw [hget_append] at hb
   rw [← hX1, ← hX0, hget_cons, hget_cons, hget_cons, hget_cons]
   by_cases e : 12 = j
   · subst e
     rw [show hget (hS l.length) 12 = some (.cells [v] 32) by rw [← hv]; simp [hS]] at hb
     injection hb with hb
     subst hb
     rfl
   · rw [show hget (hS l.length) j = none by simp [hS, e]] at hb
     dsimp only at hb
     rw [← hZ, hget_cons, hget_cons, hget_cons] at hb
     rw [if_neg e]
     exact hb
 obtain ⟨s4, s5, t5, s, a4, a5, ⟨l1, l2, l3, l4, l5⟩, a6, q1, q2, q3, q4, q5, q6, q7, q8, u9, q9, q10⟩ := sets_run (k := l.length) (by have := strE_len hst; omega) h4 hZl
 refine E.lead { sS l.length with H := hS l.length ++ Z } (.keep rfl rfl rfl (by simp [sS, fS]) hSX) ?_
 refine E.seq (E.at a4 ?_)
 refine E.seq (E.at a5 ?_)
 refine E.lead { t5 with H := t5.H ++ Z } (Leads.keepL l1 l2 l3 l4 l5) ?_
 refine E.seq (E.at a6 ?_)
 obtain ⟨N, hN⟩ : ∃ N, s.n = N := ⟨_, rfl⟩
 obtain ⟨Y, hY⟩ : ∃ Y, s.H ++ Z = Y := ⟨_, rfl⟩
 have hYs : Sub s.H Y := fun j b hb => by rw [← hY, hget_append, hb]
 have hYz : Sub Z Y := fun j b hb => by
   rw [← hY, hget_append]
   cases hc : hget s.H j with
   | none => exact hb
   | some c' =>
     have h1 := q8 j c' hc
     have h2 := hZl j b hb
     omega
 have hYt := hZt.trans hYz
 have hbs : hget Y 12 = some (.cells [v] 32) := by rw [← hv]; exact hYs _ _ q4
 have hbr : hget Y 13 = some (.cells [rv] 154) := hYz _ _ (by rw [← hZ, hget_cons, if_neg (by omega), hget_cons, if_neg (by omega), hget_cons, if_pos rfl])
 have hbw : hget Y 14 = some (.cells [iv W] 3) := hYz _ _ (by rw [← hZ, hget_cons, if_neg (by omega), hget_cons, if_pos rfl])
 have hK : K166 13 12 14 l rs W Y := ⟨⟨v, hbs, hG.mono hYt⟩, hbw, rv, hbr, listV_mono decR_mono hYt hR⟩
 have hKs : KStr 12 l Y := ⟨v, hbs, hG.mono hYt⟩
 have hnest : nestV Y u9 = some (setsOf l.length) := listV_mono (decL_mono decI_mono) hYs q10
 obtain ⟨i, hi, hI, hSS⟩ := lrg_at (rs := rs) (W := W) hst h4 hrs hWW.2
 have hlen : (setsOf l.length).length < 100 := by
   have : 1 ≤ l.length := by have := strE_len hst; omega
   match l.length, this, h4 with
   | 1, _, _ => decide
   | 2, _, _ => decide
   | 3, _, _ => decide
   | 4, _, _ => decide
   | 5, _, _ => decide
   | 6, _, _ => decide
 obtain ⟨oa9, c9, he9, _, _, hrow9⟩ := nestV_form hnest
 obtain ⟨a, u, rfl, hf, hc, hu⟩ := hrow9 i hi
 have h165 : ∀ m, g165 13 12 14 l rs W [u9, cl166 13 12 14] Y m = some (iv i, Y, m) := fun m => by
   rw [g165_at hK hst hrs hWW hnest, ← lrgI, hI]
 rw [hSS]
 have hin := (setsOf_lt (k := l.length) (by have := strE_len hst; omega) h4).1 _ (List.getElem_mem hi)
 have h171 := fun m => g171_at (n := m) hKs hu hin
 rw [he9] at h165
 obtain ⟨zs, hzs⟩ : ∃ zs, (setsOf l.length)[i] = zs := ⟨_, rfl⟩
 rw [hzs] at hin h171 hu ⊢
 have hiI : (i : Int) < (setsOf l.length).length := by omega
 obtain ⟨L9, hL9⟩ : ∃ L, (setsOf l.length).length = L := ⟨_, rfl⟩
 rw [hL9] at hi hiI h165 he9
 have hl9 := q9
 rw [he9] at hl9
 refine E.lead { fr := [(3, .pointer (some ⟨12, 0, none⟩)), (4, .pointer (some ⟨13, 0, none⟩)), (5, .pointer (some ⟨14, 0, none⟩)), (6, .slice none 0 0), (7, iv 0), (9, .slice (some a) L9 c9)], sz := 64, H := Y, n := N, marks := [], vs := [3, 4, 5, 6, 7, 9, 13] } (.keep hN.symm q1.symm q2.symm (fun x hx => ?_) (by rw [hY]; exact Sub.refl _)) ?_
 · simp only [List.mem_cons, List.not_mem_nil, or_false] at hx
   rcases hx with rfl | rfl | rfl | rfl | rfl | rfl
   · exact q3 _ _ (by simp [fS])
   · exact q3 _ _ (by simp [fS])
   · exact q3 _ _ (by simp [fS])
   · exact q3 _ _ (by simp [fS])
   · exact q3 _ _ (by simp [fS])
   · exact hl9
 refine E.seq (E.reg hr (by simp [opMakefunc, h165]; rfl) ?_)
 refine E.seq (E.reg hr (by simp [-cellA, -flat, opMakefunc, hiI, hf, hc, h171]; rfl) ?_)
 refine E.ret ?_
 have hN12 : 12 ≤ N := by omega
 exact outK.ret rfl rfl ((fresh_sb (afL_sv _) (fun ρ => renL_af ρ _ (afL_sv _)) hN12 hYt (hno N hN12)).pair 0)
def RulA (H : Heap) (rv : Value) (rs : List Rul) : Prop := (rs = [] ∧ rv = .slice none 0 0) ∨ ∃ a c, rv = .slice (some a) rs.length c ∧ flat a = true ∧ cellsA H a.block a.off (rs.length * 3) = some (rlsL rs) ∧ rs.length < 2147483648
theorem RulA.mono {H H' : Heap} (hs : Sub H H') {rv : Value} {rs : List Rul} (h : RulA H rv rs) : RulA H' rv rs := by
 rcases h with h | ⟨a, c, h1, h2, h3, h4⟩
 · exact .inl h
 · exact .inr ⟨a, c, h1, h2, hs.cells h3, h4⟩
theorem RulA.out {N : Nat} {Z : Heap} {l : List Rul} (hlt : l.length < 2147483648) : RulA (outSB N 182 3 l.length (rlsL l) ++ Z) (outS N l.length) l := by
 by_cases h0 : l.length = 0
 · rw [List.length_eq_zero_iff.1 h0]
   exact .inl ⟨rfl, rfl⟩
 · rw [outS_ne h0, outSB, if_neg h0]
   refine .inr ⟨_, _, rfl, rfl, ?_, hlt⟩
   show cellsA ((N, .ext (rlsL l) 182 3) :: Z) N 0 _ = _
   have hl : (rlsL l).length = l.length * 3 := flat_len (fun r => Rul.cells_length r) l
   rw [cellsA_eq, hget_cons, if_pos rfl]
   simp only [Option.bind_some, cellsB]
   rw [if_pos (by omega), List.drop_zero, List.take_of_length_le (by omega)]
theorem RulA.rul {H : Heap} {rv : Value} {rs : List Rul} (h : RulA H rv rs) : rulV H rv = some rs := by
 rcases h with ⟨rfl, rfl⟩ | ⟨a, c, rfl, h2, h3, h4⟩
 · rfl
 · exact listV_flat (dec := decR) (fun r => Rul.cells_length r) (fun r => decR_cells H r) h2 h3 h4
end
section
open Go Go.Ab Go.Proofs Ieee
theorem intV_src {H : Heap} {v : Value} {l : List Int} (h : intV H v = some l) (hne : l.length ≠ 0) : ∃ a c, v = .slice (some a) l.length c ∧ flat a = true ∧ l.length < 2147483648 ∧ cellsA H a.block a.off l.length = some (l.map iv) := by
 obtain ⟨oa, c, e, hlt, _, hrow⟩ := intV_form h
 obtain ⟨a, rfl, hf, _⟩ := hrow 0 (by omega)
 refine ⟨a, c, e, hf, hlt, ?_⟩
 subst e
 unfold intV listV at h
 simp only [if_pos hlt, if_neg hne, hf, if_true, Nat.mul_one] at h
 obtain ⟨cs, hc, hm⟩ := Option.bind_eq_some_iff.1 h
 rw [hc]
 have hl := mapO_get hm
 have hcl : cs.length = l.length := by
   have := hl.1
   rw [chunks_len] at this
   have h2 := cellsA_cell hc (i := 0) (by omega)
   exact h2.2
 congr 1
 refine List.ext_getElem? fun i => ?_
 by_cases hi : i < l.length
 · obtain ⟨a', e1, _, h3⟩ := hrow i hi
   injection e1 with e1
   subst e1
   have h4 := (cellsA_cell hc hi).1
   rw [← h4, h3, List.getElem?_map, List.getElem?_eq_getElem hi]
   rfl
 · rw [List.getElem?_eq_none (by omega), List.getElem?_eq_none (by simp; omega)]
def MemOk (N : Nat) (X : Heap) : Prop := namesOk N X = true ∧ plainH X = true
theorem MemOk.none {N : Nat} {X : Heap} (h : MemOk N X) {k : Nat} (hk : N ≤ k) : hget X k = none := namesOk_none h.1 k hk
theorem MemOk.put {N : Nat} {X : Heap} (h : MemOk N X) {b : Blk} (hb : plainB2 b = true) : MemOk (N + 1) ((N, b) :: X) ∧ Sub X ((N, b) :: X) :=
 ⟨⟨namesOk_put (Nat.lt_succ_self _) (namesOk_mono (Nat.le_succ _) _ h.1), by rw [plainH, hb, h.2]; rfl⟩, Sub.cons (h.none (Nat.le_refl _)) (Sub.refl _)⟩
theorem MemOk.lt {N : Nat} {X : Heap} (h : MemOk N X) {k : Nat} {b : Blk} (hb : hget X k = some b) : k < N := by
 rcases Nat.lt_or_ge k N with h1 | h1
 · exact h1
 · rw [h.none h1] at hb; cases hb
theorem take_two {α : Type} (cs : List α) (o n m : Nat) : (cs.drop o).take (n + m) = (cs.drop o).take n ++ (cs.drop (o + n)).take m := by
 rw [List.take_add, List.drop_drop]
theorem cellsB_add {o n m : Nat} {b : Blk} {x y : List Value} (h1 : cellsB o n b = some x) (h2 : cellsB (o + n) m b = some y) : cellsB o (n + m) b = some (x ++ y) := by
 cases b with
 | cells cs t =>
   simp only [cellsB] at h1 h2 ⊢
   split at h1 <;> split at h2 <;> first | cases h1; done | cases h2; done | skip
   injection h1 with h1; injection h2 with h2; subst h1 h2
   rw [if_pos (by omega), take_two]
 | ext cs t sz =>
   simp only [cellsB] at h1 h2 ⊢
   split at h1 <;> split at h2 <;> first | cases h1; done | cases h2; done | skip
   injection h1 with h1; injection h2 with h2; subst h1 h2
   rw [if_pos (by omega), take_two]
 | row cs sz =>
   simp only [cellsB] at h1 h2 ⊢
   split at h1 <;> split at h2 <;> first | cases h1; done | cases h2; done | skip
   injection h1 with h1; injection h2 with h2; subst h1 h2
   rw [if_pos (by omega), take_two]
 | inp o' cs =>
   simp only [cellsB] at h1 h2 ⊢
   split at h1 <;> split at h2 <;> first | cases h1; done | cases h2; done | skip
   injection h1 with h1; injection h2 with h2; subst h1 h2
   rw [if_pos (by omega), take_two, show o + n - o' = o - o' + n by omega]
 | _ => cases h1
theorem cellsA_add {H : Heap} {k o n m : Nat} {x y : List Value} (h1 : cellsA H k o n = some x) (h2 : cellsA H k (o + n) m = some y) : cellsA H k o (n + m) = some (x ++ y) := by
 rw [cellsA_eq] at h1 h2 ⊢
 cases hb : hget H k with
 | none => rw [hb] at h1; cases h1
 | some b =>
   rw [hb] at h1 h2
   exact cellsB_add h1 h2
theorem RulsV.rul {H : Heap} {v : Value} {l : List Rul} (h : RulsV H v l) (hl : l.length < 2147483648) : rulV H v = some l := by
 obtain ⟨oa, c, rfl, h1, h2, h3⟩ := h
 by_cases h0 : l.length = 0
 · rw [h0, List.length_eq_zero_iff.1 h0]
   cases oa with
   | none => rw [h2 rfl]; rfl
   | some a => rfl
 · obtain ⟨a, rfl, hf, hc0⟩ := h3 0 (by omega)
   have hall : ∀ k, k + 1 ≤ l.length → cellsA H a.block a.off ((k + 1) * 3) = some (rlsL (l.take (k + 1))) := fun k => by
     induction k with
     | zero =>
       intro hk
       obtain ⟨a', e, _, h4⟩ := h3 0 (by omega)
       injection e with e
       subst e
       rw [Nat.zero_mul, Nat.add_zero] at h4
       rw [show l.take (0 + 1) = [l[0]] by rw [List.take_succ_eq_append_getElem (by omega)]; rfl]
       simpa [rlsL] using h4
     | succ k ih =>
       intro hk
       obtain ⟨a', e, _, h4⟩ := h3 (k + 1) (by omega)
       injection e with e
       subst e
       have := cellsA_add (ih (by omega)) h4
       rw [List.take_succ_eq_append_getElem (by omega : k + 1 < l.length), show (k + 1 + 1) * 3 = (k + 1) * 3 + 3 by omega, this]
       congr 1
       unfold rlsL
       rw [List.flatMap_append, List.flatMap_cons, List.flatMap_nil, List.append_nil]
   have := hall (l.length - 1) (by omega)
   rw [show l.length - 1 + 1 = l.length by omega, List.take_length] at this
   exact listV_flat (dec := decR) (fun r => Rul.cells_length r) (fun r => decR_cells H r) hf this hl
end
section
open Go Go.Ab Go.Proofs
theorem sigF_congr {b b' : Nat → Bool} {l : List Gun} {sh : List Int} {d : ByteArray} {W : Nat} : ∀ k, (∀ i, i < k → b i = b' i) → sigF b l sh d W k = sigF b' l sh d W k
 | 0, _ => rfl
 | k + 1, h => by
   rw [sigF, sigF, h k (Nat.lt_succ_self _), sigF_congr k fun i hi => h i (by omega)]
theorem refB_congr {b b' : Nat → Bool} {l : List Gun} {q : Rul} {W : Nat} (h : ∀ i, i < l.length → b i = b' i) : refB b l q W = refB b' l q W := by
 unfold refB bandF
 rw [sigF_congr l.length h]
theorem refIdx_congr {b b' : Nat → Bool} {l : List Gun} {rs : List Rul} {W : Nat} (h : ∀ i, i < l.length → b i = b' i) : ∀ k, refIdx b l rs W k = refIdx b' l rs W k
 | 0 => rfl
 | k + 1 => by
   rw [refIdx, refIdx, refIdx_congr h k]
   cases rs[k]? with
   | none => rfl
   | some q => simp only [refB_congr (q := q) (W := W) h]
theorem refIdx_nil {b : Nat → Bool} {l : List Gun} {rs : List Rul} {W : Nat} : ∀ k, k ≤ rs.length → (refIdx b l rs W k = [] ↔ ∀ i (_ : i < k), refAt b l rs W i = false)
 | 0, _ => ⟨fun _ i hi => absurd hi (Nat.not_lt_zero i), fun _ => rfl⟩
 | k + 1, hk => by
   have ih := refIdx_nil (b := b) (l := l) (rs := rs) (W := W) k (by omega)
   have hkl : k < rs.length := hk
   rw [refIdx, List.getElem?_eq_getElem hkl]
   dsimp only
   have ha := refAt_at (b := b) (l := l) (W := W) hkl
   constructor
   · intro h
     obtain ⟨h1, h2⟩ := List.append_eq_nil_iff.1 h
     intro i hi
     by_cases e : i = k
     · subst e
       rw [ha]
       cases hc : refB b l rs[i] W
       · rfl
       · rw [hc] at h2; cases h2
     · exact ih.1 h1 i (by omega)
   · intro h
     rw [ih.2 fun i hi => h i (by omega), ← ha, h k (Nat.lt_succ_self _)]
     rfl
theorem anyB_false {b : Nat → Bool} {l : List Gun} {rs : List Rul} {W : Nat} : anyB b l rs W = false ↔ refIdx b l rs W rs.length = [] := by
 rw [refIdx_nil _ (Nat.le_refl _), anyB]
 rcases fstT_cases (refAt b l rs W) rs.length with ⟨i, h1, h2, _, h4⟩ | ⟨h1, h2⟩
 · rw [h4]
   constructor
   · intro h
     have := of_decide_eq_false h
     omega
   · intro h
     rw [h i h1] at h2
     cases h2
 · rw [h2]
   exact ⟨fun _ => h1, fun _ => by decide⟩
theorem hasW_nms {l : List Gun} {zs : List Int} (hst : strE l = 0) (hz : ∀ z ∈ zs, 0 ≤ z ∧ z.toNat < l.length) {i : Nat} (hi : i < l.length) : hasW l[i].name (nmsL l zs) = decide ((i : Int) ∈ zs) := by
 have hd := (strE_zero hst).2.2.1
 rw [Bool.eq_iff_iff, hasW_iff, decide_eq_true_iff, nmsL, List.mem_map]
 constructor
 · rintro ⟨z, h1, h2⟩
   obtain ⟨h3, h4⟩ := hz z h1
   rw [gnmAt_at h4] at h2
   have := hd _ _ h4 hi h2
   rw [show (i : Int) = z by omega]
   exact h1
 · intro h
   exact ⟨i, h, by rw [Int.toNat_natCast, gnmAt_at hi]⟩
theorem stays_nms {l : List Gun} {zs : List Int} (hst : strE l = 0) (hz : ∀ z ∈ zs, 0 ≤ z ∧ z.toNat < l.length) : ∀ i, i < l.length → staysB l (nmsL l zs) i = outB zs i := fun i hi => by
 unfold staysB outB
 rw [List.getElem?_eq_getElem hi]
 dsimp only
 rw [hasW_nms hst hz hi]
theorem refdL_len (l : List Gun) (rs : List Rul) (ws : List ByteArray) (w : Int) : (refdL l rs ws w).length ≤ rs.length := by
 unfold refdL
 split
 · exact refIdx_len _ _ _ _ _
 · simp
section
variable {X : Heap} {N : Nat}
theorem MemOk.sb (hm : MemOk N X) {t sz k : Nat} {cs : List Value} (hp : plainB2 (.ext cs t sz) = true) : MemOk (N + 1) (outSB N t sz k cs ++ X) ∧ Sub X (outSB N t sz k cs ++ X) := by
 by_cases h : k = 0
 · rw [outSB, if_pos h]
   exact ⟨⟨namesOk_mono (Nat.le_succ _) _ hm.1, hm.2⟩, Sub.refl _⟩
 · rw [outSB, if_neg h]
   exact hm.put hp
theorem MemOk.rules (hm : MemOk N X) {rv : Value} {rs : List Rul} (hR : RulsV X rv rs) (hl : rs.length < 2147483648) : ∃ r Y, g92 [rv] X N = some (r, Y, N + 1) ∧ RulA Y r rs ∧ Sub X Y ∧ MemOk (N + 1) Y := by
 obtain ⟨h1, h2⟩ := hm.sb (t := 182) (sz := 3) (k := rs.length) (cs := rlsL rs) rfl
 exact ⟨_, _, g92_at hR hl, RulA.out hl, h2, h1⟩
end
end
section
open Go Go.Ab Go.Proofs Ieee
end
section
open Go Go.Ab Go.Proofs
section
variable {X : Heap} {N : Nat}
theorem MemOk.words (hm : MemOk N X) {u : Value} {ws : List ByteArray} (h : Ab.strV X u = some ws) : ∃ y Y, g94 [u] X N = some (y, Y, N + 1) ∧ OwnW Y y ws ∧ Sub X Y ∧ MemOk (N + 1) Y := by
 have hlt : ws.length < 2147483648 := by
   obtain ⟨_, _, _, h1, _⟩ := strV_form h
   exact h1
 have hp : plainB2 (kS.blk ws) = true := by
   show plainB2 (if ws.length = 0 then _ else _) = true
   split <;> rfl
 obtain ⟨h1, h2⟩ := hm.put hp
 have e : g94 [u] X N = some (kS.val N ws, (N, kS.blk ws) :: X, N + 1) := by simp only [g94, h]; rfl
 refine ⟨_, _, e, ?_, h2, h1⟩
 by_cases h0 : ws.length = 0
 · refine .inr ⟨List.length_eq_zero_iff.1 h0, some ⟨N, 0, Option.none⟩, 0, ?_⟩
   show (if ws.length = 0 then _ else _) = _
   rw [if_pos h0]
 · refine .inl ⟨N, ?_, .inl ?_, by omega, hlt⟩
   · show (if ws.length = 0 then _ else _) = _
     rw [if_neg h0]
   · rw [hget_cons, if_pos rfl]
     show some (if ws.length = 0 then _ else _) = _
     rw [if_neg h0]
     rfl
end
theorem strAt_frz {H : Heap} {x : Value} {l : List Gun} (h : strAt H x = some l) : strAt (frzH H) x = some l := by
 unfold strAt at h ⊢
 split at h
 · exact h
 · unfold gunsAt at h ⊢
   simp only [cellsA_frz]
   exact h
 · cases h
def SeenW (H : Heap) (u : Value) (ws : List ByteArray) : Prop := (∃ a c, u = .slice (some a) ws.length c ∧ strsAt H a ws.length = some ws) ∨ (ws = [] ∧ u = .slice none 0 0)
theorem strsAt_mono {H H' : Heap} (hs : Sub H H') {a : Addr} {k : Nat} {l : List ByteArray} (h : strsAt H a k = some l) : strsAt H' a k = some l := by
 unfold strsAt at h ⊢
 split at h
 · rename_i hf
   rw [Option.bind_eq_some_iff] at h
   obtain ⟨cs, h1, h2⟩ := h
   rw [if_pos hf, hs.cells h1]
   exact h2
 · cases h
theorem strsAt_tidy {H : Heap} {n : Nat} (hl : ∀ k b, hget H k = some b → k < n) {a : Addr} {k : Nat} {l : List ByteArray} (h : strsAt H a k = some l) : strsAt (Ab.tidy n H) a k = some l := by
 unfold strsAt at h ⊢
 split at h
 · rename_i hf
   rw [Option.bind_eq_some_iff] at h
   obtain ⟨cs, h1, h2⟩ := h
   rw [if_pos hf, cellsA_tidy hl h1]
   exact h2
 · cases h
theorem SeenW.mono {H H' : Heap} (hs : Sub H H') {u : Value} {ws : List ByteArray} (h : SeenW H u ws) : SeenW H' u ws := by
 rcases h with ⟨a, c, e, h⟩ | h
 · exact .inl ⟨a, c, e, strsAt_mono hs h⟩
 · exact .inr h
theorem SeenW.tidy {H : Heap} {n : Nat} (hl : ∀ k b, hget H k = some b → k < n) {u : Value} {ws : List ByteArray} (h : SeenW H u ws) : SeenW (Ab.tidy n H) u ws := by
 rcases h with ⟨a, c, e, h⟩ | h
 · exact .inl ⟨a, c, e, strsAt_tidy hl h⟩
 · exact .inr h
theorem SeenW.has {H : Heap} {u : Value} {ws : List ByteArray} (h : SeenW H u ws) (s : ByteArray) (m : Nat) : g67 [u, sv s] H m = some (.bool (hasW s ws), H, m) := by
 rcases h with ⟨a, c, rfl, h⟩ | ⟨rfl, rfl⟩
 · simp only [g67, h, Option.map_some]
 · rfl
theorem SeenW.one {H : Heap} {u : Value} {ws vs : List ByteArray} (h : SeenW H u ws) (h' : SeenW H u vs) : ws = vs := by
 rcases h with ⟨a, c, rfl, h⟩ | ⟨rfl, rfl⟩
 · rcases h' with ⟨a', c', e, h'⟩ | ⟨rfl, e⟩
   · injection e with e1 e2 e3
     injection e1 with e1
     subst e1
     rw [← e2, h] at h'
     injection h'
   · cases e
 · rcases h' with ⟨a', c', e, h'⟩ | ⟨rfl, e⟩
   · cases e
   · rfl
theorem SeenW.none {H : Heap} : SeenW H (.slice none 0 0) [] := .inr ⟨rfl, rfl⟩
def sigD (l : List Gun) (sh : List Int) (ws : List ByteArray) (d : ByteArray) (W : Nat) : List Int := rl (fun i : Nat => sumFb (staysB l ws) l sh d i l.length) W
theorem sigD_len (l : List Gun) (sh : List Int) (ws : List ByteArray) (d : ByteArray) (W : Nat) : (sigD l sh ws d W).length = W := by simp [sigD]
theorem sigD_eq {l : List Gun} {sh : List Int} (hst : strE l = 0) (hsh : shE l sh = 0) (ws : List ByteArray) (d : ByteArray) (W : Nat) : sigF (staysB l ws) l sh d W l.length = sigD l sh ws d W := by
 refine List.ext_getElem? fun j => ?_
 by_cases hj : j < W
 · rw [sigF_get hst hsh d hj _ (Nat.le_refl _), sigD, List.getElem?_eq_getElem (by simpa using hj), rl_getElem]
 · rw [List.getElem?_eq_none (by simp; omega), List.getElem?_eq_none (by simp [sigD]; omega)]
set_option maxRecDepth 20000 in
set_option maxHeartbeats 2000000 in
theorem w45D {H : Heap} {n W : Nat} {v t u : Value} {l : List Gun} {sh : List Int} {ws : List ByteArray} {d : ByteArray} (hs : strAt H v = some l) (ht : intV H t = some sh) (hu : SeenW H u ws) (hst : strE l = 0) (hd : hasW d dirs = true) (hsh : shE l sh = 0) (hW : 1 ≤ W ∧ W ≤ 64) :
   AC Tryz.prog 45 [v, t, u, sv d, iv W] H n (outS n W) (outSB n 3 1 W ((sigD l sh ws d W).map iv) ++ H) (n + 1) := by
 refine AC.given fun hold hsc hgn => AC.tidied (fun x hx => outSB_ge x hx) ?_
 have hlt0 := fun k b h => (hold k b h).1
 replace hs := strAt_tidy hlt0 hs
 replace ht := int_tidy hold ht
 replace hu := hu.tidy hlt0
 have hr := recT_ok (P := Tryz.prog) (l := [(67, g67), (30, g30), (130, g3 pulseV)]) (by simp only [List.forall_mem_cons]; exact ⟨ok67, ok30, ok130, by simp⟩)
 obtain ⟨h1, h8⟩ := strE_len hst
 obtain ⟨hse, hsb⟩ := shE_zero hsh
 obtain ⟨oa', c', rfl⟩ := strAt_form hs
 have hne : l ≠ [] := fun e => by rw [e] at h1; simp at h1
 obtain ⟨ga, gc, gv, hgf, hgc, _, _⟩ := strAt_guns hs hne (by omega)
 injection gv with gv1 gv2 gv3
 subst gv1 gv3
 obtain ⟨ta, tc, rfl, htf, _, htc⟩ := intV_src ht (by omega)
 have hgl : ga.block < n := by
   rw [cellsA_eq] at hgc
   obtain ⟨b, hb, _⟩ := Option.bind_eq_some_iff.1 hgc
   exact tidy_lt _ _ hb
 have htl : ta.block < n := by
   rw [cellsA_eq] at htc
   obtain ⟨b, hb, _⟩ := Option.bind_eq_some_iff.1 htc
   exact tidy_lt _ _ hb
 obtain ⟨X0, hX0⟩ : ∃ X0, (n, Blk.cells [.slice (some ga) l.length c'] 24) :: tidy n H = X0 := ⟨_, rfl⟩
 have hM : MemOk n (tidy n H) := ⟨namesOk_tidy, by simp⟩
 obtain ⟨hM0, hS0⟩ := hM.put (b := Blk.cells [.slice (some ga) l.length c'] 24) rfl
 rw [hX0] at hM0 hS0
 have hb0 : hget X0 n = some (.cells [.slice (some ga) l.length c'] 24) := by rw [← hX0, hget_cons, if_pos rfl]
 have hlt1 : ∀ k b, hget X0 k = some b → k < n + 1 := fun k b hb => hM0.lt hb
 obtain ⟨B, hB⟩ : ∃ B, staysB l ws = B := ⟨_, rfl⟩
 rw [sigD, hB]
 refine AC.grown Tryz.func45 rfl (by kernel_rfl) rfl [1, 2, 3, 4, 5, 11, 12, 13, 14] ?_
 refine E.seq (E.reg hr (by simp; rfl) ?_)
 rw [hX0]
 refine E.seq (E.reg hr (by simp; rfl) ?_)
 refine E.seq (E.seq (E.reg hr (by simp; rfl) ?_))
 refine E.block (E.loop ?_)
 refine EL.ind (fun x : Nat × Heap × Nat × Nat => { fr := [(1, .slice (some ta) sh.length tc), (2, u), (3, sv d), (4, iv W), (5, .pointer (some ⟨n, 0, none⟩)), (11, outS x.2.2.2 x.1), (12, iv x.1)], sz := 60, H := x.2.1, n := x.2.2.1, marks := [], vs := [1, 2, 3, 4, 5, 11, 12, 13, 14] }) (fun x => W - x.1) (fun x => x.1 ≤ W ∧ GL X0 (n + 1) 3 1 ((rl (fun i : Nat => sumFb B l sh d i l.length) x.1).map iv) x.1 x.2.1 x.2.2.1 x.2.2.2) (0, X0, n + 1, n + 1) (.keep rfl rfl rfl (by simp) (Sub.refl _)) ⟨Nat.zero_le _, by simpa using GL.start (t := 3) (sz := 1) (Sub.refl X0) hM0.1 (Nat.le_refl _) hM0.2⟩ (fun _ => rfl) ?_
 rintro ⟨i, Hx, N, o⟩ ⟨hi, hG⟩
 dsimp only at hi hG ⊢
 have hw : IntKind.i64.wrap ((i : Int) + 1) = (i : Int) + 1 := W_in (by omega) (by omega)
 refine E.seq (E.seq (E.reg hr (by simp; rfl) ?_))
 by_cases hiW : i < W
 · have hiI : (i : Int) < W := by omega
   refine E.cond (t := true) (by simp [hiW]) (fun _ => ?_) (fun h => by cases h)
   refine E.skip (E.seq ?_)
   refine E.block (E.seq (E.reg hr (by simp; rfl) ?_))
   refine E.seq (E.seq (E.reg hr (by simp; rfl) ?_))
   have hSx : Sub (tidy n H) Hx := hS0.trans hG.sub
   have hcb : cellA Hx n 0 = some (.slice (some ga) l.length c') := by rw [cellA_eq, hG.sub _ _ hb0]; rfl
   have hcs : cellsA Hx n 0 1 = some [.slice (some ga) l.length c'] := by rw [cellsA_eq, hG.sub _ _ hb0]; rfl
   have hux := hu.mono hSx
   have hsx : strAt Hx (.agg ⟨[.slice (some ga) l.length c']⟩) = some l := strAt_mono hSx hs
   have hsf := strAt_frz hsx
   refine E.block (E.loop ?_)
   refine EL.ind (fun k : Nat => { fr := [(1, .slice (some ta) sh.length tc), (2, u), (3, sv d), (4, iv W), (5, .pointer (some ⟨n, 0, none⟩)), (11, outS o i), (12, iv i), (13, iv (sumFb B l sh d i k)), (14, iv k)], sz := 60, H := Hx, n := N, marks := [], vs := [1, 2, 3, 4, 5, 11, 12, 13, 14] }) (fun k => l.length - k) (fun k => k ≤ l.length) 0 (.keep rfl rfl rfl (by simp [sumFb]) (Sub.refl _)) (Nat.zero_le _) (fun _ => rfl) ?_
   intro k hk
   have hwk : IntKind.i64.wrap ((k : Int) + 1) = (k : Int) + 1 := W_in (by omega) (by omega)
   refine E.seq (E.seq (E.reg hr (by simp [-cellA, hcb]; rfl) ?_))
   by_cases hkl : k < l.length
   · have hkI : (k : Int) < l.length := by omega
     have hks : k < sh.length := by omega
     have hksI : (k : Int) < sh.length := by omega
     have hka : k < (arrL d l).length := by rw [arrL_length]; omega
     have hav : arrV d l k = (arrL d l)[k] := by rw [← arr_same hst hd hkl, getD_at hka]
     have hab := arrL_bounds hst d _ (List.getElem_mem hka)
     obtain ⟨hvb, _⟩ := gun_nums hst l[k] (List.getElem_mem hkl)
     have hsb' := sumFb_bound (b := B) (sh := sh) hst d i k (by omega)
     have hnx : sumFb B l sh d i (k + 1) = sumFb B l sh d i k + if B k then pulseV l[k].v sh[k] ((i : Int) - (arrL d l)[k]) else 0 := by
       rw [sumFb, vAt_at hkl, getD_at hka, getD_at hks]
     have hpb := pulse256 (s := sh[k]) (i := (i : Int) - (arrL d l)[k]) hvb
     have hBk : B k = !hasW l[k].name ws := by
       rw [← hB]
       unfold staysB
       rw [List.getElem?_eq_getElem hkl]
     have hgk := cells_part hgc hkl
     rw [gcs_atB hkl] at hgk
     have hgn : cellA Hx ga.block (ga.off + k * 7) = some (sv l[k].name) := hSx.cell (cellsA_cell hgk (i := 0) (by omega)).1
     have hgv : cellA Hx ga.block (ga.off + k * 7 + 1) = some (iv l[k].v) := hSx.cell (cellsA_cell hgk (i := 1) (by omega)).1
     have hgs : cellA Hx ta.block (ta.off + k) = some (iv sh[k]) := by
       have := (cellsA_cell htc (i := k) (by omega)).1
       rw [List.getElem?_map, List.getElem?_eq_getElem hks] at this
       exact hSx.cell this
     have h30 : ∀ m, g30 [.agg ⟨[.slice (some ga) l.length c']⟩, iv k, sv d] (frzH Hx) m = some (iv (arrL d l)[k], frzH Hx, m) := fun m => by
       simp only [g30, hsf]
       rw [if_pos ⟨hst, hd, by omega, hkI⟩, Int.toNat_natCast, hav]
     have h30' : ∀ m, g30 [.agg ⟨[.slice (some ga) l.length c']⟩, iv k, sv d] Hx m = some (iv (arrL d l)[k], Hx, m) := fun m => by
       simp only [g30, hsx]
       rw [if_pos ⟨hst, hd, by omega, hkI⟩, Int.toNat_natCast, hav]
     have h67 := fun m => hux.has l[k].name m
     obtain ⟨A, hA⟩ : ∃ A, (arrL d l)[k] = A := ⟨_, rfl⟩
     obtain ⟨g, hg⟩ : ∃ g, l[k] = g := ⟨_, rfl⟩
     obtain ⟨s, hss⟩ : ∃ s, sh[k] = s := ⟨_, rfl⟩
     rw [hA] at h30 h30' hab hpb hnx
     rw [hg] at hgn hgv h67 hBk hpb hnx
     rw [hss] at hgs hpb hnx
     obtain ⟨b, hb⟩ : ∃ b, hasW g.name ws = b := ⟨_, rfl⟩
     rw [hb] at h67 hBk
     rw [hBk] at hnx
     have q1 : IntKind.i64.wrap ((i : Int) - A) = (i : Int) - A := W_in (by omega) (by omega)
     obtain ⟨p, hp⟩ : ∃ p, pulseV g.v s ((i : Int) - A) = p := ⟨_, rfl⟩
     rw [hp] at hpb hnx
     obtain ⟨S0, hS0'⟩ : ∃ z, sumFb B l sh d i k = z := ⟨_, rfl⟩
     rw [hS0'] at hnx hsb' ⊢
     have q2 : IntKind.i64.wrap (S0 + p) = S0 + p := W_in (by omega) (by omega)
     refine E.cond (t := true) (by simp [hkl]) (fun _ => ?_) (fun h => by cases h)
     refine E.skip (E.seq ?_)
     refine E.block (E.seq (E.reg hr (by simp [-cellA, -flat, hcb, hgf, hkl, hkI, hgn, h67]; rfl) ?_))
     cases b with
     | false =>
       have hn2 := hG.nm
       have htk := takeNew_frz hG.nm
       have hx1 : n < N := by have := hG.big; omega
       have hx2 : ga.block < N := by omega
       have hx3 : ta.block < N := by omega
       refine E.cond (t := true) (by simp) (fun _ => ?_) (fun h => by cases h)
       refine E.drawU mixed hr [17] [15, 17] [2, 6, 10, 12, 15, 17] (by kernel_rfl) (by simp [-cellA, -cellsA, -flat, -readA, cellA_read, cellsA_read, hn2, hG.pl, htk, hx1, hx2, hx3, hcb, hcs, hgf, htf, hkI, hksI, hgv, hgs, h30, q1, g3, hp, q2]; rfl) ?_
       refine E.reg hr (by simp [hwk]; rfl) ?_
       exact ⟨k + 1, .keep rfl rfl rfl (by simp [hnx]) (Sub.refl _), hkl, by dsimp only; omega⟩
     | true =>
       refine E.cond (t := false) (by simp) (fun h => by cases h) (fun _ => ?_)
       refine E.skip (E.reg hr (by simp [hwk]; rfl) ?_)
       exact ⟨k + 1, .keep rfl rfl rfl (by simp [hnx]) (Sub.refl _), hkl, by dsimp only; omega⟩
   · have hkl' : k = l.length := by omega
     subst hkl'
     refine E.cond (t := false) (by simp) (fun h => by cases h) (fun _ => ?_)
     refine E.exit ?_
     obtain ⟨Hz, happ, hGz⟩ := hG.app (P := Tryz.prog) (st := 45) (i := Tryz.t3) (new := [iv (sumFb B l sh d i l.length)]) hlt1 Tryz.underlying45 inf3 sz3i zo3 by3 (by omega) rfl (by omega) rfl rfl
     have hcn : (rl (fun i : Nat => sumFb B l sh d i l.length) (i + 1)).map iv = (rl (fun i : Nat => sumFb B l sh d i l.length) i).map iv ++ [iv (sumFb B l sh d i l.length)] := by rw [rl_succ, List.map_append]; rfl
     rw [← hcn] at hGz
     refine E.reg hr (by simp [-builtinA, happ]; rfl) ?_
     refine E.reg hr (by simp [hw]; rfl) ?_
     exact ⟨(i + 1, Hz, N + 1 + 1, N + 1), .keep rfl rfl rfl (by simp) (Sub.refl _), ⟨hiW, hGz⟩, by dsimp only; omega⟩
 · have hiW' : i = W := by omega
   subst hiW'
   refine E.cond (t := false) (by simp) (fun h => by cases h) (fun _ => ?_)
   refine E.exit ?_
   refine E.seq (E.reg hr (by simp; rfl) ?_)
   refine E.ret ?_
   exact outK.ret rfl rfl ((hG.fresh (n0 := n) (by omega) (afL_iv _) fun ρ => renL_af ρ _ (afL_iv _)).lower hS0)
open Classical in
noncomputable def g45D (args : List Value) (H : Heap) (n : Nat) : R := match args with
 | [v, t, u, .string d, .int .i64 w] => match strAt H v, intV H t with
   | some l, some sh => if h : ∃ ws, SeenW H u ws then (if strE l = 0 ∧ hasW d dirs = true ∧ shE l sh = 0 ∧ 1 ≤ w ∧ w ≤ 64 then some (outS n w.toNat, outSB n 3 1 w.toNat ((sigD l sh (Classical.choose h) d w.toNat).map iv) ++ H, n + 1) else none) else none
   | _, _ => none
 | _ => none
theorem g45D_at {H : Heap} {n W : Nat} {v t u : Value} {l : List Gun} {sh : List Int} {ws : List ByteArray} {d : ByteArray} (hs : strAt H v = some l) (ht : intV H t = some sh) (hu : SeenW H u ws) (hst : strE l = 0) (hd : hasW d dirs = true) (hsh : shE l sh = 0) (hW : 1 ≤ W ∧ W ≤ 64) :
   g45D [v, t, u, sv d, iv W] H n = some (outS n W, outSB n 3 1 W ((sigD l sh ws d W).map iv) ++ H, n + 1) := by
 have he : ∃ ws, SeenW H u ws := ⟨ws, hu⟩
 simp only [g45D, hs, ht]
 rw [dif_pos he, if_pos ⟨hst, hd, hsh, by omega, by omega⟩, Int.toNat_natCast, (Classical.choose_spec he).one hu]
theorem ok45D : EntOk Tryz.prog (45, g45D) := by
 intro args H n v H' n' h
 simp only [g45D] at h
 split at h
 · rename_i v t u d w
   split at h
   · rename_i l sh h1 h2
     split at h
     · rename_i he
       split at h
       · rename_i hc
         obtain ⟨c1, c2, c3, c4, c5⟩ := hc
         injection h with h; injection h with e1 e2; injection e2 with e2 e3; subst e1 e2 e3
         obtain ⟨W, rfl⟩ := Int.eq_ofNat_of_zero_le (show 0 ≤ w by omega)
         rw [Int.toNat_natCast]
         exact w45D h1 h2 (Classical.choose_spec he) c1 c2 c3 (by omega)
       · cases h
     · cases h
   · cases h
 · cases h
def HandW (H : Heap) (u : Value) (ws : List ByteArray) : Prop := (∃ b o c, u = .slice (some ⟨b, o, none⟩) ws.length c ∧ ws.length ≤ c ∧ strsAt H ⟨b, o, none⟩ ws.length = some ws) ∨ (ws = [] ∧ u = .slice none 0 0)
theorem HandW.mono {H H' : Heap} (hs : Sub H H') {u : Value} {ws : List ByteArray} (h : HandW H u ws) : HandW H' u ws := by
 rcases h with ⟨b, o, c, e, h1, h⟩ | h
 · exact .inl ⟨b, o, c, e, h1, strsAt_mono hs h⟩
 · exact .inr h
theorem HandW.tidy {H : Heap} {n : Nat} (hl : ∀ k b, hget H k = some b → k < n) {u : Value} {ws : List ByteArray} (h : HandW H u ws) : HandW (Ab.tidy n H) u ws := by
 rcases h with ⟨b, o, c, e, h1, h⟩ | h
 · exact .inl ⟨b, o, c, e, h1, strsAt_tidy hl h⟩
 · exact .inr h
theorem HandW.seen {H : Heap} {u : Value} {ws : List ByteArray} (h : HandW H u ws) : SeenW H u ws := by
 rcases h with ⟨b, o, c, e, _, h⟩ | h
 · exact .inl ⟨_, c, e, h⟩
 · exact .inr h
theorem strsAt_cell {H : Heap} {a : Addr} {ws : List ByteArray} (h : strsAt H a ws.length = some ws) : flat a = true ∧ ws.length < 2147483648 ∧ (∀ i (hi : i < ws.length), cellA H a.block (a.off + i) = some (sv ws[i])) ∧ ∀ i, i ≤ ws.length → strsAt H a i = some (ws.take i) := by
 obtain ⟨h1, h2, _, h4⟩ := strsAt_ok h
 refine ⟨h1, h4, fun i hi => ?_, fun i hi => ?_⟩
 · rw [(cellsA_cell h2 hi).1, List.getElem?_map, List.getElem?_eq_getElem hi]
   rfl
 · have hc : cellsA H a.block a.off i = some ((ws.take i).map sv) := by
     rw [cellsA_eq] at h2 ⊢
     obtain ⟨b, hb, h3⟩ := Option.bind_eq_some_iff.1 h2
     rw [hb, Option.bind_some]
     cases b with
     | cells cs t =>
       simp only [cellsB] at h3 ⊢
       split at h3
       · injection h3 with h3
         rw [if_pos (by omega), List.map_take, ← h3, List.take_take, Nat.min_eq_left hi]
       · cases h3
     | ext cs t sz =>
       simp only [cellsB] at h3 ⊢
       split at h3
       · injection h3 with h3
         rw [if_pos (by omega), List.map_take, ← h3, List.take_take, Nat.min_eq_left hi]
       · cases h3
     | row cs sz =>
       simp only [cellsB] at h3 ⊢
       split at h3
       · injection h3 with h3
         rw [if_pos (by omega), List.map_take, ← h3, List.take_take, Nat.min_eq_left hi]
       · cases h3
     | inp o' cs =>
       simp only [cellsB] at h3 ⊢
       split at h3
       · injection h3 with h3
         rw [if_pos (by omega), List.map_take, ← h3, List.take_take, Nat.min_eq_left hi]
       · cases h3
     | _ => cases h3
   unfold strsAt
   rw [if_pos (by rw [h1, Bool.true_and, Nat.blt_eq]; omega), hc, Option.bind_some, strsOf_map]
theorem strsAt_frz {H : Heap} {a : Addr} {k : Nat} {l : List ByteArray} (h : strsAt H a k = some l) : strsAt (frzH H) a k = some l := by
 unfold strsAt at h ⊢
 rw [cellsA_frz]
 exact h
theorem slice_hiH {fr : Fr} {H : Heap} {n b o L c : Nat} {x y : Operand} {i : Nat} (hi : i < L) (hc : L ≤ c) (hx : evO Tryz.prog fr x = some (.slice (some ⟨b, o, none⟩) L c)) (hy : evO Tryz.prog fr y = some (iv i)) :
   opSlice Tryz.prog 102 x none (some y) none fr H n = some (.slice (some ⟨b, o, none⟩) i c, H, n) := by
 have h1 : i ≤ c := by omega
 have h2 : c ≠ 0 := by omega
 simp only [opSlice, hx, evI, hy, Tryz.underlying102, show szA Tryz.prog 9 = some 1 from by simp]
 simp [sliceA, boundA, h1, h2]
set_option maxRecDepth 20000 in
set_option maxHeartbeats 2000000 in
theorem w98 {H : Heap} {n : Nat} {v u : Value} {l : List Gun} {ws : List ByteArray} (hs : strAt H v = some l) (hu : HandW H u ws) (hst : strE l = 0) : AC Tryz.prog 98 [v, u] H n (iv (dropE l ws)) H n := by
 refine AC.given fun hold hsc hgn => AC.tidied (B := []) (by simp) ?_
 have hlt0 := fun k b h => (hold k b h).1
 replace hs := strAt_tidy hlt0 hs
 replace hu := hu.tidy hlt0
 have hr := recT_ok (P := Tryz.prog) (l := [(75, g75), (67, g67)]) (by simp only [List.forall_mem_cons]; exact ⟨ok75, ok67, by simp⟩)
 obtain ⟨h1, h8⟩ := strE_len hst
 obtain ⟨oa', c', rfl⟩ := strAt_form hs
 have hne : l ≠ [] := fun e => by rw [e] at h1; simp at h1
 have hG := strAt_guns hs hne (by omega)
 obtain ⟨ga, gc, gv, hgf, hgc, hg0, hg31⟩ := hG
 injection gv with gv1 gv2 gv3
 subst gv1 gv3
 have hM : MemOk n (tidy n H) := ⟨namesOk_tidy, by simp⟩
 obtain ⟨hM0, hS0⟩ := hM.put (b := Blk.cells [.slice (some ga) l.length c'] 24) rfl
 obtain ⟨X, hX⟩ : ∃ X0, (n, Blk.cells [.slice (some ga) l.length c'] 24) :: tidy n H = X0 := ⟨_, rfl⟩
 rw [hX] at hM0 hS0
 have hb0 : hget X n = some (.cells [.slice (some ga) l.length c'] 24) := by rw [← hX, hget_cons, if_pos rfl]
 have hcb : cellA X n 0 = some (.slice (some ga) l.length c') := by rw [cellA_eq, hb0]; rfl
 have hcs : cellsA X n 0 1 = some [.slice (some ga) l.length c'] := by rw [cellsA_eq, hb0]; rfl
 have hux := hu.mono hS0
 have hGx : GunsAt X (.slice (some ga) l.length c') l := ⟨ga, c', rfl, hgf, hS0.cells hgc, hg0, hg31⟩
 have hGf : gunsAt (frzH X) ga l.length = some l := GunsAt.at (GunsAt.frzA hGx)
 have hGa : gunsAt X ga l.length = some l := GunsAt.at hGx
 obtain ⟨oa, L, c, hue, hul⟩ : ∃ oa L c, u = .slice oa L c ∧ L = ws.length := by
   rcases hu with ⟨b, o, c, e, _⟩ | ⟨e1, e2⟩
   · exact ⟨_, _, _, e, rfl⟩
   · exact ⟨_, _, _, e2, by rw [e1]; rfl⟩
 subst hul
 have hwl : ws.length < 2147483648 := by
   rcases hu with ⟨b, o, c, e, _, h⟩ | ⟨e1, e2⟩
   · exact (strsAt_cell h).2.1
   · rw [e1]; decide
 have hn2 := hM0.1
 have htk := takeNew_frz hM0.1
 have hn1 : n < n + 1 := Nat.lt_succ_self _
 rw [hue]
 refine AC.pure Tryz.func98 rfl (by kernel_rfl) rfl [1, 2, 5] rfl ?_
 refine E.seq (E.reg hr (by simp; rfl) ?_)
 rw [hX]
 refine E.seq (E.seq (E.reg hr (by simp; rfl) ?_))
 refine E.block (E.loop ?_)
 refine EL.ind (fun i : Nat => { fr := [(1, .slice oa ws.length c), (2, .pointer (some ⟨n, 0, none⟩)), (5, iv i)], sz := 30, H := X, n := n + 1, marks := [], vs := [1, 2, 5] }) (fun i => ws.length - i) (fun i => i ≤ ws.length ∧ ∀ j, j < i → dropC l ws j = 0) 0 (.keep rfl rfl rfl (by simp) (Sub.refl _)) ⟨Nat.zero_le _, fun j hj => by omega⟩ (fun _ => rfl) ?_
 rintro i ⟨hi, hz⟩
 have hw : IntKind.i64.wrap ((i : Int) + 1) = (i : Int) + 1 := W_in (by omega) (by omega)
 refine E.seq (E.seq (E.reg hr (by simp; rfl) ?_))
 by_cases hil : i < ws.length
 · have hilI : (i : Int) < ws.length := by omega
   have hC := dropC_at (l := l) hil
   rcases hux with ⟨b, o, c2, e, hLc, hsa⟩ | ⟨e1, _⟩
   case inr => rw [e1] at hil; simp at hil
   rw [hue] at e
   injection e with e1 _ e3
   subst e1 e3
   obtain ⟨hf, _, hcell, htake⟩ := strsAt_cell hsa
   have hcw := hcell i hil
   have hbl : b < n + 1 := by
     have h3 : cellA X b (o + i) = _ := hcw
     rw [cellA_eq] at h3
     cases hg : hget X b with
     | none => rw [hg] at h3; cases h3
     | some b' => exact hM0.lt hg
   have hgl : ga.block < n + 1 := by
     obtain ⟨_, _, e, _, h3, _⟩ := hGx
     injection e with e1 e2 e3
     injection e1 with e1
     subst e1
     rw [cellsA_eq] at h3
     obtain ⟨b', hb', _⟩ := Option.bind_eq_some_iff.1 h3
     exact hM0.lt hb'
   obtain ⟨s, hs'⟩ : ∃ s, ws[i] = s := ⟨_, rfl⟩
   rw [hs'] at hcw hC
   obtain ⟨q, hq⟩ : ∃ q, atV l s l.length = q := ⟨_, rfl⟩
   obtain ⟨hb, hhb⟩ : ∃ z, hasW s (ws.take i) = z := ⟨_, rfl⟩
   rw [hq, hhb] at hC
   have h75 : ∀ m, g75 [.agg ⟨[.slice (some ga) l.length c']⟩, sv s, iv l.length] (frzH X) m = some (iv q, frzH X, m) := fun m => by
     simp only [g75]
     rw [if_pos ⟨by omega, by omega⟩, hGf, Option.map_some, Int.toNat_natCast, hq]
   have h75' : ∀ m, g75 [.agg ⟨[.slice (some ga) l.length c']⟩, sv s, iv l.length] X m = some (iv q, X, m) := fun m => by
     simp only [g75]
     rw [if_pos ⟨by omega, by omega⟩, hGa, Option.map_some, Int.toNat_natCast, hq]
   have h67 : ∀ m, g67 [.slice (some ⟨b, o, none⟩) i c, sv s] (frzH X) m = some (.bool hb, frzH X, m) := fun m => by
     simp only [g67, strsAt_frz (htake i hi), Option.map_some, hhb]
   have h67' : ∀ m, g67 [.slice (some ⟨b, o, none⟩) i c, sv s] X m = some (.bool hb, X, m) := fun m => by
     simp only [g67, htake i hi, Option.map_some, hhb]
   have hcw' : cellA X b (o + i) = some (sv s) := hcw
   refine E.cond (t := true) (by simp [hil]) (fun _ => ?_) (fun h => by cases h)
   refine E.skip (E.seq ?_)
   refine E.block (E.seq ?_)
   refine E.seq (E.drawU mixed hr [8] [8] [0, 4, 6, 8] (by kernel_rfl) (by simp [-cellA, -cellsA, -readA, -flat, cellA_read, cellsA_read, flat_n, hn2, hn1, hbl, hcb, hcs, hil, hilI, hcw', h75']; rfl) ?_)
   by_cases hq0 : q < 0
   · have hC10 : dropC l ws i = 10 := by rw [hC, decide_eq_true hq0]; rfl
     have hd : dropE l ws = 10 := by rw [dropE, firstV_map_hit hil hz (by rw [hC10]; decide), hC10]
     refine E.cond (t := true) (by simp [hq0]) (fun _ => ?_) (fun h => by cases h)
     refine E.seq (E.reg hr (by simp; rfl) ?_)
     refine E.ret ?_
     exact pureK.ret rfl rfl (by rw [hd]; rfl) hS0
   · refine E.cond (t := false) (by simp [hq0]) (fun h => by cases h) (fun _ => ?_)
     refine E.skip (E.seq ?_)
     refine E.drawU mixed hr [7] [7] [2, 6, 7] (by kernel_rfl) (by simp [-cellA, -cellsA, -readA, -flat, cellA_read, flat_n, hn2, hbl, hilI, hcw', slice_hiH (b := b) (o := o) hil hLc, h67']; rfl) ?_
     cases hb with
     | true =>
       have hC9 : dropC l ws i = 9 := by rw [hC, decide_eq_false hq0]; rfl
       have hd : dropE l ws = 9 := by rw [dropE, firstV_map_hit hil hz (by rw [hC9]; decide), hC9]
       refine E.cond (t := true) (by simp) (fun _ => ?_) (fun h => by cases h)
       refine E.seq (E.reg hr (by simp; rfl) ?_)
       refine E.ret ?_
       exact pureK.ret rfl rfl (by rw [hd]; rfl) hS0
     | false =>
       have hC0 : dropC l ws i = 0 := by rw [hC, decide_eq_false hq0]; rfl
       refine E.cond (t := false) (by simp) (fun h => by cases h) (fun _ => ?_)
       refine E.skip (E.reg hr (by simp [hw]; rfl) ?_)
       exact ⟨i + 1, .keep rfl rfl rfl (by simp) (Sub.refl _), ⟨hil, fun j hj => if e : j = i then by rw [e]; exact hC0 else hz j (by omega)⟩, by dsimp only; omega⟩
 · have e : i = ws.length := by omega
   subst e
   have hd : dropE l ws = 0 := by rw [dropE, firstV_map_zero hz]
   refine E.cond (t := false) (by simp) (fun h => by cases h) (fun _ => ?_)
   refine E.exit ?_
   refine E.seq (E.reg hr (by simp; rfl) ?_)
   refine E.ret ?_
   exact pureK.ret rfl rfl (by rw [hd]; rfl) hS0
theorem HandW.one {H : Heap} {u : Value} {ws vs : List ByteArray} (h : HandW H u ws) (h' : HandW H u vs) : ws = vs := h.seen.one h'.seen
open Classical in
noncomputable def g98 (args : List Value) (H : Heap) (n : Nat) : R := match args with
 | [v, u] => match strAt H v with
   | some l => if h : ∃ ws, HandW H u ws then (if strE l = 0 then some (iv (dropE l (Classical.choose h)), H, n) else none) else none
   | none => none
 | _ => none
theorem g98_at {H : Heap} {n : Nat} {v u : Value} {l : List Gun} {ws : List ByteArray} (hs : strAt H v = some l) (hu : HandW H u ws) (hst : strE l = 0) : g98 [v, u] H n = some (iv (dropE l ws), H, n) := by
 have he : ∃ ws, HandW H u ws := ⟨ws, hu⟩
 simp only [g98, hs]
 rw [dif_pos he, if_pos hst, (Classical.choose_spec he).one hu]
theorem ok98 : EntOk Tryz.prog (98, g98) := by
 intro args H n v H' n' h
 simp only [g98] at h
 split at h
 · split at h
   · rename_i l h1
     split at h
     · rename_i he
       split at h
       · rename_i hc
         injection h with h; injection h with e1 e2; injection e2 with e2 e3; subst e1 e2 e3
         exact w98 h1 (Classical.choose_spec he) hc
       · cases h
     · cases h
   · cases h
 · cases h
end
end Go.Proofs.YtndlfijfjglkdaaGreatDoor
namespace Go.Ab
open Go
section
variable {L Hx : Heap} {n t sz k N o : Nat} {cs new : List Value}
theorem GL.appX {P : Program} {st : TypeId} {i : TypeInfo} (hL : ∀ k b, hget L k = some b → k < n) (hu : P.underlying st = some (.slice t)) (hi : P.info? t = some i) (hsz : i.size = sz) (hz : zeroOk i = true) (hb : i.bytes ≤ 128) (h : GL L n t sz cs k Hx N o) (hk : k < 2147483647) (hnew : new.length = sz) (hs0 : 0 < sz) (hone : oneL new = true) (hpn : plainB2 (.cells new t) = true) :
   ∃ Hz, builtinA P .append #[st, st] ((N, .cells new t) :: Hx) (N + 1) [outS o k, .slice (some ⟨N, 0, none⟩) 1 1] = some (outS (N + 1) (k + 1), Hz, N + 1 + 1) ∧ GL L n t sz (cs ++ new) (k + 1) Hz (N + 1 + 1) (N + 1) ∧ ∀ j b, j < n → hget Hx j = some b → hget Hz j = some b := by
 have h2 := h.skip hL (.cells new t) hpn
 have hb' := h.big
 have hlo' := h.low
 refine ⟨_, ?_, h2.grow hL (by rw [List.length_append, h.len, hnew, Nat.succ_mul]), fun j b hj hjb => ?_⟩
 rotate_left
 · rw [hget_cons, if_neg (by omega)]
   have e : hget ((N, .cells new t) :: Hx) j = some b := by rw [hget_cons, if_neg (by omega)]; exact hjb
   split
   · exact e
   · rw [hget_hdel, if_neg (by omega)]; exact e
 have hc : cellsA ((N, .cells new t) :: Hx) N 0 (1 * sz) = some new := by
   rw [cellsA_eq, hget_cons, if_pos rfl]
   simp only [Option.bind_some, cellsB]
   rw [if_pos (by omega), List.drop_zero, List.take_of_length_le (by omega)]
 have hsm1 : smallA i.bytes 1 = true := by
   unfold smallA
   rw [Bool.and_eq_true]
   exact ⟨decide_eq_true (by omega), decide_eq_true (by omega)⟩
 have hsm : smallA i.bytes (k + 1) = true := by
   unfold smallA
   rw [Bool.and_eq_true]
   refine ⟨decide_eq_true ?_, decide_eq_true ?_⟩
   · have := Nat.mul_le_mul_left (k + 1) hb
     omega
   · omega
 have h1 : ¬ 1 * sz = 0 := by omega
 show appendA P #[st, st] _ _ _ _ = _
 unfold appendA
 have hnb : Nat.beq new.length (1 * sz) = true := by rw [hnew, Nat.one_mul, Nat.beq_refl]
 rw [outS_ne (Nat.succ_ne_zero k)]
 by_cases hk0 : k = 0
 · subst hk0
   simp only [outS_nil, List.getElem?_toArray, List.getElem?_cons_zero, List.getElem?_cons_succ, hu, hi, lenX, lenV, srcX, srcA, hsz, if_neg h1, flat_n, if_true, hc, hnb, hone, Bool.and_self]
   unfold appendTo
   have hcs : cs = [] := List.eq_nil_of_length_eq_zero (by rw [h.len, Nat.zero_mul])
   subst hcs
   simp only [and_self, if_true, Nat.one_ne_zero, if_false, hsm1, hz, Bool.and_self, hsz]
   rfl
 · obtain ⟨ho, _⟩ := h2.out hk0
   have hle : ¬ (k + 1) * sz ≤ cs.length := by rw [h.len, Nat.succ_mul]; omega
   have hle2 : k * sz ≤ cs.length := by rw [h.len]; omega
   have htk : cs.take (k * sz) = cs := List.take_of_length_le (by rw [h.len]; omega)
   rw [outS_ne hk0]
   simp only [List.getElem?_toArray, List.getElem?_cons_zero, List.getElem?_cons_succ, hu, hi, lenX, lenV, srcX, srcA, hsz, if_neg h1, flat_n, if_true, hc, hnb, hone, Bool.and_self]
   unfold appendTo
   simp only [ho, hsz, hle2, and_self, if_true, if_neg hle, hsm, hz, Bool.and_self, htk, if_neg hk0]
   rfl
theorem GL.set (h : GL L n t sz cs k Hx N o) {j : Nat} (hj : j < n) (hjL : hget L j = none) {b : Blk} (hp : plainB2 b = true) : GL L n t sz cs k (hset Hx j b) N o := by
 have hlo := h.low
 refine ⟨h.len, fun hk => ⟨?_, (h.out hk).2⟩, fun i c hi => ?_, namesOk_hset h.nm, h.big, h.low, ?_⟩
 · rw [hget_set, if_neg (by omega)]; exact (h.out hk).1
 · rw [hget_set, if_neg (fun e => by rw [e] at hjL; rw [hjL] at hi; cases hi)]
   exact h.sub i c hi
 · have : ∀ {H : Heap}, plainH H = true → plainH (hset H j b) = true := fun {H} => by
     induction H with
     | nil => exact fun _ => rfl
     | cons x H ih =>
       obtain ⟨i, c⟩ := x
       intro hh
       simp only [plainH, Bool.and_eq_true] at hh
       unfold hset
       split
       · simp only [plainH, Bool.and_eq_true]; exact ⟨hp, hh.2⟩
       · simp only [plainH, Bool.and_eq_true]; exact ⟨hh.1, ih hh.2⟩
   exact this h.pl
theorem GL.lowerL (h : GL L n t sz cs k Hx N o) {L' : Heap} (hs : Sub L' L) : GL L' n t sz cs k Hx N o := ⟨h.len, h.out, hs.trans h.sub, h.nm, h.big, h.low, h.pl⟩
end
end Go.Ab
namespace Go.Proofs.YtndlfijfjglkdaaGreatDoor
open Go Go.Ab Go.Proofs
def keptL (l : List Gun) (ws : List ByteArray) (i : Nat) : List Gun := (l.take i).filter fun g => !hasW g.name ws
theorem keptL_succ {l : List Gun} {ws : List ByteArray} {i : Nat} (h : i < l.length) : keptL l ws (i + 1) = keptL l ws i ++ (if hasW l[i].name ws then [] else [l[i]]) := by
 unfold keptL
 rw [List.take_succ_eq_append_getElem h, List.filter_append, List.filter_cons, List.filter_nil]
 cases hasW l[i].name ws <;> rfl
theorem keptL_len (l : List Gun) (ws : List ByteArray) (i : Nat) : (keptL l ws i).length ≤ i := by
 unfold keptL
 refine Nat.le_trans (List.length_filter_le _ _) ?_
 rw [List.length_take]
 exact Nat.min_le_left _ _
theorem sz94i : Tryz.t94.size = 7 := by kernel_rfl
theorem zo94 : zeroOk Tryz.t94 = true := by kernel_rfl
theorem by94 : Tryz.t94.bytes ≤ 128 := by decide +kernel
theorem info94 : Tryz.prog.info? 94 = some Tryz.t94 := by kernel_rfl
theorem gcs_eq (l : List Gun) : gcs l = l.flatMap Gun.cells := by
 induction l with
 | nil => rfl
 | cons g l ih => rw [List.flatMap_cons, ← ih]; rfl
theorem gcs_app (a b : List Gun) : gcs (a ++ b) = gcs a ++ gcs b := by rw [gcs_eq, gcs_eq, gcs_eq, List.flatMap_append]
theorem build24z {fr : Fr} {H : Heap} {n : Nat} : opBuild Tryz.prog 24 #[] fr H n = some (.agg ⟨[.slice none 0 0]⟩, H, n) := by kernel_rfl
theorem AC.grownA {P : Program} {f : FuncId} {fn : Func} {c : Code} {args : List Value} {H : Heap} {n t sz k : Nat} {cs : List Value} {e : Int} (hf : P.funcs[f]? = some fn) (hb : fn.body = some c) (he : enterable P f = true) (hlen : Nat.ble args.length fn.ntmps = true) (vs : List Nat)
   (h : E P n none c { fr := argsFr args 0, sz := fn.ntmps, H, n, marks := [], vs } (outK P fn (Fresh n (n + 1) H (.tuple #[.agg ⟨[outS n k]⟩, .int .i64 e]) (outSB n t sz k cs)))) : AC P f args H n (.tuple #[.agg ⟨[outS n k]⟩, .int .i64 e]) (outSB n t sz k cs ++ H) (n + 1) := by
 by_cases hk : k = 0
 · subst hk
   have h2 : AC P f args H n (.tuple #[.agg ⟨[.slice none 0 0]⟩, .int .i64 e]) H n := AC.pure hf hb he hlen vs rfl (E.mono h fun e st hh => by
     obtain ⟨h1, h2, us, h3, ρ, _, h4, _, _, h5⟩ := hh
     exact ⟨h1, h2, ⟨us, h3, by rw [h4]; rfl⟩, h5⟩)
   exact h2.wider rfl ⟨⟨trivial, trivial⟩, trivial, trivial⟩
 · exact AC.fresh hf hb he hlen vs (by omega) ⟨⟨sc_outS (by omega), trivial⟩, trivial, trivial⟩ (fun ρ => by rw [outS_ne hk]; rfl) h
theorem Fresh.pairA {n n2 : Nat} {H B H1 : Heap} {v u : Value} (h : Fresh n n2 H v B u H1) (e : Int) : Fresh n n2 H (.tuple #[.agg ⟨[v]⟩, Value.int .i64 e]) B (.tuple #[.agg ⟨[u]⟩, Value.int .i64 e]) H1 := by
 obtain ⟨ρ, h1, h2, h3⟩ := h
 exact ⟨ρ, h1, by rw [h2]; simp [ren], h3⟩
set_option maxRecDepth 20000 in
set_option maxHeartbeats 2000000 in
theorem w99 {H : Heap} {n : Nat} {v u : Value} {l : List Gun} {ws : List ByteArray} (hs : strAt H v = some l) (hu : SeenW H u ws) (hst : strE l = 0) :
   AC Tryz.prog 99 [v, u] H n (.tuple #[.agg ⟨[outS n (keptL l ws l.length).length]⟩, iv (whenV (decide ((keptL l ws l.length).length = 0)) 12)]) (outSB n 94 7 (keptL l ws l.length).length (gcs (keptL l ws l.length)) ++ H) (n + 1) := by
 refine AC.given fun hold hsc hgn => AC.tidied (fun x hx => outSB_ge x hx) ?_
 have hlt0 := fun k b h => (hold k b h).1
 replace hs := strAt_tidy hlt0 hs
 replace hu := hu.tidy hlt0
 have hr := recT_ok (P := Tryz.prog) (l := [(67, g67)]) (by simp only [List.forall_mem_cons]; exact ⟨ok67, by simp⟩)
 obtain ⟨h1, h8⟩ := strE_len hst
 obtain ⟨oa', c', rfl⟩ := strAt_form hs
 have hne : l ≠ [] := fun e => by rw [e] at h1; simp at h1
 obtain ⟨ga, gc, gv, hgf, hgc, _, _⟩ := strAt_guns hs hne (by omega)
 injection gv with gv1 gv2 gv3
 subst gv1 gv3
 have hgl : ga.block < n := by
   rw [cellsA_eq] at hgc
   obtain ⟨b, hb, _⟩ := Option.bind_eq_some_iff.1 hgc
   exact tidy_lt _ _ hb
 have hM : MemOk n (tidy n H) := ⟨namesOk_tidy, by simp⟩
 obtain ⟨hM1, hS1⟩ := hM.put (b := Blk.cells [.slice (some ga) l.length c'] 24) rfl
 obtain ⟨hM2, hS2⟩ := hM1.put (b := Blk.cells [.slice none 0 0] 24) rfl
 obtain ⟨L, hL⟩ : ∃ L, (n + 1, Blk.cells [.slice none 0 0] 24) :: (n, Blk.cells [.slice (some ga) l.length c'] 24) :: tidy n H = L := ⟨_, rfl⟩
 rw [hL] at hM2 hS2
 have hSL := hS1.trans hS2
 obtain ⟨hM3, hS3⟩ := hM2.put (b := Blk.cells [.slice none 0 0] 24) rfl
 obtain ⟨X0, hX0⟩ : ∃ X0, (n + 1 + 1, Blk.cells [.slice none 0 0] 24) :: L = X0 := ⟨_, rfl⟩
 rw [hX0] at hM3 hS3
 have hb0 : hget L n = some (.cells [.slice (some ga) l.length c'] 24) := hS2 _ _ (by rw [hget_cons, if_pos rfl])
 have hb1 : hget L (n + 1) = some (.cells [.slice none 0 0] 24) := by rw [← hL, hget_cons, if_pos rfl]
 have hb2 : hget X0 (n + 1 + 1) = some (.cells [.slice none 0 0] 24) := by rw [← hX0, hget_cons, if_pos rfl]
 have hlt1 : ∀ k b, hget L k = some b → k < n + 1 + 1 + 1 := fun k b hb => by have := hM2.lt hb; omega
 have hLn : hget L (n + 1 + 1) = none := hM2.none (Nat.le_refl _)
 refine AC.grownA Tryz.func99 rfl (by kernel_rfl) rfl [1, 2, 4, 5, 6, 7] ?_
 refine E.seq (E.reg hr (by simp; rfl) ?_)
 refine E.seq (E.reg hr (by simp; rfl) ?_)
 rw [hL, hX0]
 refine E.seq (E.seq (E.reg hr (by simp; rfl) ?_))
 refine E.block (E.loop ?_)
 refine EL.ind (fun x : Nat × Heap × Nat × Nat => { fr := [(1, u), (2, .pointer (some ⟨n, 0, none⟩)), (4, .pointer (some ⟨n + 1, 0, none⟩)), (5, iv 0), (6, .pointer (some ⟨n + 1 + 1, 0, none⟩)), (7, iv x.1)], sz := 40, H := x.2.1, n := x.2.2.1, marks := [], vs := [1, 2, 4, 5, 6, 7] }) (fun x => l.length - x.1) (fun x => x.1 ≤ l.length ∧ GL L (n + 1 + 1 + 1) 94 7 (gcs (keptL l ws x.1)) (keptL l ws x.1).length x.2.1 x.2.2.1 x.2.2.2 ∧ hget x.2.1 (n + 1 + 1) = some (.cells [outS x.2.2.2 (keptL l ws x.1).length] 24)) (0, X0, n + 1 + 1 + 1, n + 1 + 1 + 1) (.keep rfl rfl rfl (by simp) (Sub.refl _)) ⟨Nat.zero_le _, by simpa [keptL, gcs] using GL.start (t := 94) (sz := 7) hS3 hM3.1 (Nat.le_refl _) hM3.2, by simpa [keptL] using hb2⟩ (fun _ => rfl) ?_
 rintro ⟨i, Hx, N, o⟩ ⟨hi, hG, hbx⟩
 dsimp only at hi hG hbx ⊢
 have hw : IntKind.i64.wrap ((i : Int) + 1) = (i : Int) + 1 := W_in (by omega) (by omega)
 have hSx := hSL.trans hG.sub
 have hcb : cellA Hx n 0 = some (.slice (some ga) l.length c') := by rw [cellA_eq, hG.sub _ _ hb0]; rfl
 obtain ⟨kl, hkl⟩ : ∃ kl, (keptL l ws i).length = kl := ⟨_, rfl⟩
 have hkle := keptL_len l ws i
 rw [hkl] at hG hbx hkle
 have hcx : cellA Hx (n + 1 + 1) 0 = some (outS o kl) := by rw [cellA_eq, hbx]; rfl
 obtain ⟨oa, oc, hov⟩ : ∃ oa oc, outS o kl = .slice oa kl oc := by
   by_cases h : kl = 0
   · rw [h]; exact ⟨none, 0, rfl⟩
   · rw [outS_ne h]; exact ⟨_, _, rfl⟩
 refine E.seq (E.seq (E.reg hr (by simp [-cellA, hcb]; rfl) ?_))
 by_cases hil : i < l.length
 · have hilI : (i : Int) < l.length := by omega
   have hnx := keptL_succ (ws := ws) hil
   have hgk := cells_part hgc hil
   rw [gcs_atB hil] at hgk
   have hgn : cellA Hx ga.block (ga.off + i * 7) = some (sv l[i].name) := hSx.cell (cellsA_cell hgk (i := 0) (by omega)).1
   have hgx := hSx.cells hgk
   have h67 := fun m => (hu.mono hSx).has l[i].name m
   obtain ⟨g, hg⟩ : ∃ g, l[i] = g := ⟨_, rfl⟩
   rw [hg] at hgn hgx h67 hnx
   obtain ⟨b, hb⟩ : ∃ b, hasW g.name ws = b := ⟨_, rfl⟩
   rw [hb] at h67 hnx
   refine E.cond (t := true) (by simp [hil]) (fun _ => ?_) (fun h => by cases h)
   refine E.skip (E.seq ?_)
   refine E.block (E.seq (E.reg hr (by simp [-cellA, -flat, hcb, hgf, hilI, hgn, h67]; rfl) ?_))
   cases b with
   | true =>
     rw [if_pos rfl, List.append_nil] at hnx
     refine E.cond (t := false) (by simp) (fun h => by cases h) (fun _ => ?_)
     refine E.skip (E.reg hr (by simp [hw]; rfl) ?_)
     exact ⟨(i + 1, Hx, N, o), .keep rfl rfl rfl (by simp) (Sub.refl _), ⟨hil, by dsimp only; rw [hnx, hkl]; exact hG, by dsimp only; rw [hnx, hkl]; exact hbx⟩, by dsimp only; omega⟩
   | false =>
     rw [if_neg (by decide)] at hnx
     have hnl : (keptL l ws (i + 1)).length = kl + 1 := by rw [hnx, List.length_append, hkl]; rfl
     have hnm : gcs (keptL l ws (i + 1)) = gcs (keptL l ws i) ++ g.cells := by rw [hnx, gcs_app]; rfl
     obtain ⟨Hz, happ, hGz, hkeep⟩ := hG.appX (P := Tryz.prog) (st := 22) (i := Tryz.t94) (new := g.cells) hlt1 Tryz.underlying22 info94 sz94i zo94 by94 (by omega) rfl (by omega) rfl rfl
     have hbz := hkeep _ _ (by omega) hbx
     have hG2 := hGz.set (j := n + 1 + 1) (by omega) hLn (b := .cells [outS (N + 1) (kl + 1)] 24) rfl
     have hsto : storeA Hz (n + 1 + 1) 0 [outS (N + 1) (kl + 1)] = some (hset Hz (n + 1 + 1) (.cells [outS (N + 1) (kl + 1)] 24)) := store_at hbz (by simp)
     obtain ⟨Hw, hHw⟩ : ∃ Hw, hset Hz (n + 1 + 1) (.cells [outS (N + 1) (kl + 1)] 24) = Hw := ⟨_, rfl⟩
     rw [hHw] at hsto hG2
     have hbw : hget Hw (n + 1 + 1) = some (.cells [outS (N + 1) (kl + 1)] 24) := by rw [← hHw, hget_set, if_pos rfl, hbz]; rfl
     have hn1 := hG.nm
     have hn2 := namesOk_mono (Nat.le_succ N) _ hG.nm
     have hn3 := hGz.nm
     have hn4 := hG2.nm
     have hbig := hG.big
     have htk := takeNew_frz hG.nm
     have x1 : n < N := by omega
     have x2 : n + 1 + 1 < N := by omega
     have x3 : ga.block < N := by omega
     rw [hov] at happ hcx
     have hov2 := outS_ne (o := N + 1) (Nat.succ_ne_zero kl)
     rw [hov2] at happ hsto hbw
     refine E.cond (t := true) (by simp) (fun _ => ?_) (fun h => by cases h)
     refine E.drawU mixed hr [8, 10] [7, 8, 10] [1, 3, 6, 7, 8, 10] (by kernel_rfl) (by simp [-cellA, -cellsA, -flat, -readA, -builtinA, -storeA, cellA_read, cellsA_read, hn1, hn3, hn4, handA_nil, x1, x2, x3, hcx, hcb, hgf, hilI, hgx, happ, hsto]; rfl) ?_
     refine E.reg hr (by simp [hw]; rfl) ?_
     exact ⟨(i + 1, Hw, N + 1 + 1, N + 1), .keep rfl rfl rfl (by simp) (Sub.refl _), ⟨hil, by dsimp only; rw [hnl, hnm]; exact hG2, by dsimp only; rw [hnl, hov2]; exact hbw⟩, by dsimp only; omega⟩
 · have hil' : i = l.length := by omega
   subst hil'
   refine E.cond (t := false) (by simp) (fun h => by cases h) (fun _ => ?_)
   refine E.exit ?_
   rw [hov] at hcx
   refine E.seq (E.seq (E.reg hr (by simp [-cellA, hcx]; rfl) ?_))
   rw [hkl]
   have hb1x := hG.sub _ _ hb1
   have hres : Tryz.f99.results.toList = [.cell 4 24, .tmp 5] := by kernel_rfl
   have hT1 : hget (tidy n H) (n + 1) = none := namesOk_none namesOk_tidy _ (by omega)
   have hfin := hG.lowerL hSL
   by_cases hk0 : kl = 0
   · have hk0I : (kl : Int) = 0 := by omega
     have hsto : storeA Hx (n + 1) 0 [.slice none 0 0] = some (hset Hx (n + 1) (.cells [.slice none 0 0] 24)) := store_at hb1x (by simp)
     have hF := hfin.set (j := n + 1) (by omega) hT1 (b := .cells [.slice none 0 0] 24) rfl
     obtain ⟨Hw, hHw⟩ : ∃ Hw, hset Hx (n + 1) (.cells [.slice none 0 0] 24) = Hw := ⟨_, rfl⟩
     have hbw : cellsA Hw (n + 1) 0 1 = some [.slice none 0 0] := by rw [cellsA_eq, ← hHw, hget_set, if_pos rfl, hb1x]; rfl
     rw [hHw] at hsto hF
     refine E.cond (t := true) (by simp [hk0]) (fun _ => ?_) (fun h => by cases h)
     refine E.seq (E.reg hr (by simp [-storeA, build24z, hsto]; rfl) ?_)
     refine E.ret ?_
     refine outK.ret (vs := [.agg ⟨[.slice none 0 0]⟩, iv 12]) rfl (by show resultsA _ _ _ Tryz.f99.results.toList = _; rw [hres]; simp [-cellsA, resultsA, resultA, hbw]) ?_
     have := Fresh.pairA (hF.fresh (n0 := n) (by omega) (afL_gcs _) fun ρ => renL_gcs ρ _) 12
     subst hk0
     exact this
   · have hk0I : ¬ (kl : Int) = 0 := by omega
     rw [decide_eq_false hk0]
     have hov2 := outS_ne (o := o) hk0
     have hsto : storeA Hx (n + 1) 0 [outS o kl] = some (hset Hx (n + 1) (.cells [outS o kl] 24)) := store_at hb1x (by simp)
     have hF := hfin.set (j := n + 1) (by omega) hT1 (b := .cells [outS o kl] 24) rfl
     have hcxs : cellsA Hx (n + 1 + 1) 0 1 = some [outS o kl] := by rw [cellsA_eq, hbx]; rfl
     obtain ⟨Hw, hHw⟩ : ∃ Hw, hset Hx (n + 1) (.cells [outS o kl] 24) = Hw := ⟨_, rfl⟩
     have hbw : cellsA Hw (n + 1) 0 1 = some [outS o kl] := by rw [cellsA_eq, ← hHw, hget_set, if_pos rfl, hb1x]; rfl
     rw [hHw] at hsto hF
     rw [hov2] at hsto hcxs hbw
     refine E.cond (t := false) (by simp) (fun h => by cases h) (fun _ => ?_)
     refine E.skip (E.seq (E.reg hr (by simp [-storeA, -cellsA, hcxs, hsto]; rfl) ?_))
     refine E.ret ?_
     refine outK.ret (vs := [.agg ⟨[outS o kl]⟩, iv 0]) rfl (by show resultsA _ _ _ Tryz.f99.results.toList = _; rw [hres, hov2]; simp [-cellsA, resultsA, resultA, hbw]) ?_
     exact Fresh.pairA (hF.fresh (n0 := n) (by omega) (afL_gcs _) fun ρ => renL_gcs ρ _) 0
open Classical in
noncomputable def g99 (args : List Value) (H : Heap) (n : Nat) : R := match args with
 | [v, u] => match strAt H v with
   | some l => if h : ∃ ws, SeenW H u ws then (if strE l = 0 then some (.tuple #[.agg ⟨[outS n (keptL l (Classical.choose h) l.length).length]⟩, iv (whenV (decide ((keptL l (Classical.choose h) l.length).length = 0)) 12)], outSB n 94 7 (keptL l (Classical.choose h) l.length).length (gcs (keptL l (Classical.choose h) l.length)) ++ H, n + 1) else none) else none
   | none => none
 | _ => none
theorem g99_at {H : Heap} {n : Nat} {v u : Value} {l : List Gun} {ws : List ByteArray} (hs : strAt H v = some l) (hu : SeenW H u ws) (hst : strE l = 0) : g99 [v, u] H n = some (.tuple #[.agg ⟨[outS n (keptL l ws l.length).length]⟩, iv (whenV (decide ((keptL l ws l.length).length = 0)) 12)], outSB n 94 7 (keptL l ws l.length).length (gcs (keptL l ws l.length)) ++ H, n + 1) := by
 have he : ∃ ws, SeenW H u ws := ⟨ws, hu⟩
 simp only [g99, hs]
 rw [dif_pos he, if_pos hst, (Classical.choose_spec he).one hu]
theorem ok99 : EntOk Tryz.prog (99, g99) := by
 intro args H n v H' n' h
 simp only [g99] at h
 split at h
 · split at h
   · rename_i l h1
     split at h
     · rename_i he
       split at h
       · rename_i hc
         injection h with h; injection h with e1 e2; injection e2 with e2 e3; subst e1 e2 e3
         exact w99 h1 (Classical.choose_spec he) hc
       · cases h
     · cases h
   · cases h
 · cases h
theorem SeenW.frz {H : Heap} {u : Value} {ws : List ByteArray} (h : SeenW H u ws) : SeenW (frzH H) u ws := by
 rcases h with ⟨a, c, e, h⟩ | h
 · exact .inl ⟨a, c, e, strsAt_frz h⟩
 · exact .inr h
theorem lows_take {l : List Gun} {i : Nat} (h : i < l.length) : lows (l.take (i + 1)) = lows (l.take i) ++ [l[i].lo] := by
 rw [List.take_succ_eq_append_getElem h, lows, List.map_append]
 rfl
set_option maxRecDepth 20000 in
theorem idx50 {fr : Fr} {H : Heap} {n : Nat} {x y : Operand} {p : Int × Int × Int} {k : Int} (hk : 0 ≤ k ∧ k ≤ 2) (hx : evO Tryz.prog fr x = some (bandV p)) (hy : evO Tryz.prog fr y = some (iv k)) : opIndex Tryz.prog 50 x y fr H n = some (iv (bandAt p k), H, n) := by
 have h : k = 0 ∨ k = 1 ∨ k = 2 := by omega
 unfold opIndex
 rw [hx, hy]
 rcases h with rfl | rfl | rfl
 · rfl
 · rfl
 · rfl
theorem band_sig {l : List Gun} {ws : List ByteArray} {d : ByteArray} {W : Nat} (hst : strE l = 0) : bacc (sigD l (lows l) ws d W) ((sigD l (lows l) ws d W).length / 4) = bandF (staysB l ws) l d W := by
 rw [sigD_len, bandF, sigD_eq hst (lows_ok hst)]
theorem band_all {l : List Gun} {d : ByteArray} {W : Nat} (hst : strE l = 0) : bacc (sigD l (lows l) [] d W) ((sigD l (lows l) [] d W).length / 4) = bandF (fun _ => true) l d W := by
 rw [band_sig hst]
 unfold bandF
 rw [sigF_congr l.length fun i hi => ?_]
 unfold staysB
 rw [List.getElem?_eq_getElem hi]
 rfl
theorem bandAt_bd {b : Nat → Bool} {l : List Gun} {d : ByteArray} {W : Nat} {k : Int} (hst : strE l = 0) (hW : W ≤ 64) : 0 ≤ bandAt (bandF b l d W) k ∧ bandAt (bandF b l d W) k ≤ 68719476736 := by
 obtain ⟨h1, h2, h3⟩ := bandF_bd (b := b) (d := d) hst hW
 unfold bandAt
 split
 · exact h1
 · split
   · exact h2
   · exact h3
set_option maxRecDepth 20000 in
set_option maxHeartbeats 4000000 in
theorem w100 {H : Heap} {n W : Nat} {v rv u : Value} {l : List Gun} {rs : List Rul} {ws : List ByteArray} (hs : strAt H v = some l) (hR : RulsV H rv rs) (hu : SeenW H u ws) (hst : strE l = 0) (hrs : rulsE rs = 0) (hW : 1 ≤ W ∧ W ≤ 64) :
   AC Tryz.prog 100 [v, rv, u, iv W] H n (outS n (refIdx (staysB l ws) l rs W rs.length).length) (outSB n 3 1 (refIdx (staysB l ws) l rs W rs.length).length ((refIdx (staysB l ws) l rs W rs.length).map iv) ++ H) (n + 1) := by
 refine AC.given fun hold hsc hgn => AC.tidied (fun x hx => outSB_ge x hx) ?_
 have hlt0 := fun k b h => (hold k b h).1
 replace hs := strAt_tidy hlt0 hs
 replace hu := hu.tidy hlt0
 replace hR := hR.tidy hlt0
 have hr := recT_ok (P := Tryz.prog) (l := [(45, g45D), (86, g86)]) (by simp only [List.forall_mem_cons]; exact ⟨ok45D, ok86, by simp⟩)
 obtain ⟨h1, h8⟩ := strE_len hst
 obtain ⟨hr12, hrz⟩ := rulsE_zero hrs
 obtain ⟨oa', c', rfl⟩ := strAt_form hs
 have hne : l ≠ [] := fun e => by rw [e] at h1; simp at h1
 obtain ⟨ga, gc, gv, hgf, hgc, _, _⟩ := strAt_guns hs hne (by omega)
 injection gv with gv1 gv2 gv3
 subst gv1 gv3
 obtain ⟨orr, cr, rfl, _, _, hrow⟩ := hR
 have hgl : ga.block < n := by
   rw [cellsA_eq] at hgc
   obtain ⟨b, hb, _⟩ := Option.bind_eq_some_iff.1 hgc
   exact tidy_lt _ _ hb
 have hM : MemOk n (tidy n H) := ⟨namesOk_tidy, by simp⟩
 obtain ⟨hM0, hS0⟩ := hM.put (b := Blk.cells [.slice (some ga) l.length c'] 24) rfl
 obtain ⟨X0, hX0⟩ : ∃ X0, (n, Blk.cells [.slice (some ga) l.length c'] 24) :: tidy n H = X0 := ⟨_, rfl⟩
 rw [hX0] at hM0 hS0
 have hb0 : hget X0 n = some (.cells [.slice (some ga) l.length c'] 24) := by rw [← hX0, hget_cons, if_pos rfl]
 have hlt1 : ∀ k b, hget X0 k = some b → k < n + 1 := fun k b hb => hM0.lt hb
 have hlows := lows_ok hst
 refine AC.grown Tryz.func100 rfl (by kernel_rfl) rfl [1, 2, 3, 4, 9, 10, 11, 12, 13, 14] ?_
 refine E.seq (E.reg hr (by simp; rfl) ?_)
 rw [hX0]
 refine E.seq (E.reg hr (by simp; rfl) ?_)
 refine E.seq (E.seq (E.reg hr (by simp; rfl) ?_))
 refine E.block (E.loop ?_)
 refine EL.ind (fun x : Nat × Heap × Nat × Nat => { fr := [(1, .slice orr rs.length cr), (2, u), (3, iv W), (4, .pointer (some ⟨n, 0, none⟩)), (9, outS x.2.2.2 x.1), (10, .slice none 0 0), (11, iv x.1)], sz := 86, H := x.2.1, n := x.2.2.1, marks := [], vs := [1, 2, 3, 4, 9, 10, 11, 12, 13, 14] }) (fun x => l.length - x.1) (fun x => x.1 ≤ l.length ∧ GL X0 (n + 1) 3 1 ((lows (l.take x.1)).map iv) x.1 x.2.1 x.2.2.1 x.2.2.2) (0, X0, n + 1, n + 1) (.keep rfl rfl rfl (by simp) (Sub.refl _)) ⟨Nat.zero_le _, by simpa [lows] using GL.start (t := 3) (sz := 1) (Sub.refl X0) hM0.1 (Nat.le_refl _) hM0.2⟩ (fun _ => rfl) ?_
 rintro ⟨i, Hx, N, o⟩ ⟨hi, hG⟩
 dsimp only at hi hG ⊢
 have hw : IntKind.i64.wrap ((i : Int) + 1) = (i : Int) + 1 := W_in (by omega) (by omega)
 have hcb : cellA Hx n 0 = some (.slice (some ga) l.length c') := by rw [cellA_eq, hG.sub _ _ hb0]; rfl
 refine E.seq (E.seq (E.reg hr (by simp [-cellA, hcb]; rfl) ?_))
 by_cases hil : i < l.length
 · have hilI : (i : Int) < l.length := by omega
   have hnx := lows_take hil
   have hgk := cells_part hgc hil
   rw [gcs_atB hil] at hgk
   have hgn : cellA Hx ga.block (ga.off + i * 7 + 5) = some (iv l[i].lo) := (hS0.trans hG.sub).cell (cellsA_cell hgk (i := 5) (by omega)).1
   obtain ⟨z, hz⟩ : ∃ z, l[i].lo = z := ⟨_, rfl⟩
   rw [hz] at hgn hnx
   obtain ⟨Hz, happ, hGz⟩ := hG.app (P := Tryz.prog) (st := 45) (i := Tryz.t3) (new := [iv z]) hlt1 Tryz.underlying45 inf3 sz3i zo3 by3 (by omega) rfl (by omega) rfl rfl
   have hcn : (lows (l.take (i + 1))).map iv = (lows (l.take i)).map iv ++ [iv z] := by rw [hnx, List.map_append]; rfl
   rw [← hcn] at hGz
   refine E.cond (t := true) (by simp [hil]) (fun _ => ?_) (fun h => by cases h)
   refine E.skip (E.seq ?_)
   refine E.block (E.reg hr (by simp [-cellA, -flat, -builtinA, hcb, hgf, hilI, hgn, happ]; rfl) ?_)
   refine E.reg hr (by simp [hw]; rfl) ?_
   exact ⟨(i + 1, Hz, N + 1 + 1, N + 1), .keep rfl rfl rfl (by simp) (Sub.refl _), ⟨hil, hGz⟩, by dsimp only; omega⟩
 have hil' : i = l.length := by omega
 subst hil'
 rw [List.take_length] at hG
 refine E.cond (t := false) (by simp) (fun h => by cases h) (fun _ => ?_)
 refine E.exit ?_
 have hM1 : MemOk N Hx := ⟨hG.nm, hG.pl⟩
 have hS1 := hS0.trans hG.sub
 have hlt2 : ∀ k b, hget Hx k = some b → k < N := fun k b hb => hM1.lt hb
 have hll : (lows l).length = l.length := by simp [lows]
 have hVl : intV Hx (outS o l.length) = some (lows l) := by
   have hG' : GL X0 (n + 1) 3 1 ((lows l).flatMap fun z => [iv z]) (lows l).length Hx N o := by rw [← List.map_eq_flatMap, hll]; exact hG
   have := hG'.list (dec := decI) (c := fun z => [iv z]) (fun _ => rfl) (fun _ _ => rfl) (by omega)
   rw [hll] at this
   exact this
 obtain ⟨osh, csh, hov⟩ : ∃ oa oc, outS o l.length = .slice oa l.length oc := ⟨_, _, outS_ne (by omega)⟩
 rw [hov] at hVl ⊢
 refine E.seq (E.seq (E.reg hr (by simp; rfl) ?_))
 refine E.block (E.loop ?_)
 obtain ⟨B, hB⟩ : ∃ B, staysB l ws = B := ⟨_, rfl⟩
 rw [hB]
 have hnb : n + 1 ≤ N := hG.big
 refine EL.ind (fun x : Nat × Heap × Nat × Nat => { fr := [(1, .slice orr rs.length cr), (2, u), (3, iv W), (4, .pointer (some ⟨n, 0, none⟩)), (9, .slice osh l.length csh), (10, outS x.2.2.2 (refIdx B l rs W x.1).length), (12, iv x.1)], sz := 86, H := x.2.1, n := x.2.2.1, marks := [], vs := [1, 2, 3, 4, 9, 10, 11, 12, 13, 14] }) (fun x => rs.length - x.1) (fun x => x.1 ≤ rs.length ∧ GL Hx N 3 1 ((refIdx B l rs W x.1).map iv) (refIdx B l rs W x.1).length x.2.1 x.2.2.1 x.2.2.2) (0, Hx, N, N) (.keep rfl rfl rfl (by simp [refIdx]) (Sub.refl _)) ⟨Nat.zero_le _, by simpa [refIdx] using GL.start (t := 3) (sz := 1) (Sub.refl Hx) hM1.1 (Nat.le_refl _) hM1.2⟩ (fun _ => rfl) ?_
 rintro ⟨j, Hy, M, p⟩ ⟨hj, hGy⟩
 dsimp only at hj hGy ⊢
 have hwj : IntKind.i64.wrap ((j : Int) + 1) = (j : Int) + 1 := W_in (by omega) (by omega)
 refine E.seq (E.seq (E.reg hr (by simp; rfl) ?_))
 by_cases hjl : j < rs.length
 · have hjI : (j : Int) < rs.length := by omega
   obtain ⟨a, rfl, haf, hac⟩ := hrow j hjl
   have hnx := refIdx_step B l rs W hjl
   have hq0 := hrz j hjl
   obtain ⟨q, hq⟩ : ∃ q, rs[j] = q := ⟨_, rfl⟩
   rw [hq] at hac hnx hq0
   obtain ⟨hqd, hqb, hql, hql2⟩ := rulE_zero hq0
   have hGy1 := hGy.skip hlt2 (.ext ((sigD l (lows l) ws q.dir W).map iv) 3 1) rfl
   have hGy2 := hGy1.skip hlt2 (.ext ((sigD l (lows l) [] q.dir W).map iv) 3 1) rfl
   have hSy := hS1.trans hGy.sub
   have hsy : strAt Hy (.agg ⟨[.slice (some ga) l.length c']⟩) = some l := strAt_mono hSy hs
   have hVy : intV Hy (.slice osh l.length csh) = some (lows l) := listV_mono decI_mono hGy.sub hVl
   have huy := hu.mono hSy
   have hcby : cellsA Hy n 0 1 = some [.slice (some ga) l.length c'] := by rw [cellsA_eq, hGy.sub _ _ (hG.sub _ _ hb0)]; rfl
   have hac' := hSy.cells hac
   have hcd : cellA Hy a.block (a.off + j * 3) = some (sv q.dir) := (cellsA_cell hac' (i := 0) (by omega)).1
   have hcb2 : cellA Hy a.block (a.off + j * 3 + 1) = some (iv q.band) := (cellsA_cell hac' (i := 1) (by omega)).1
   have hcl2 : cellA Hy a.block (a.off + j * 3 + 2) = some (iv q.least) := (cellsA_cell hac' (i := 2) (by omega)).1
   have habl : a.block < n := by
     rw [cellsA_eq] at hac
     obtain ⟨b, hb, _⟩ := Option.bind_eq_some_iff.1 hac
     exact tidy_lt _ _ hb
   obtain ⟨sa, hsa⟩ : ∃ sa, sigD l (lows l) ws q.dir W = sa := ⟨_, rfl⟩
   obtain ⟨sb, hsb⟩ : ∃ sb, sigD l (lows l) [] q.dir W = sb := ⟨_, rfl⟩
   have hsal : sa.length = W := by rw [← hsa, sigD_len]
   have hsbl : sb.length = W := by rw [← hsb, sigD_len]
   have hba := band_sig (ws := ws) (d := q.dir) (W := W) hst
   have hbb := band_all (d := q.dir) (W := W) hst
   have hina : inS sa := by rw [← hsa, ← sigD_eq hst hlows]; exact sigF_in hst hlows
   have hinb : inS sb := by rw [← hsb, ← sigD_eq hst hlows]; exact sigF_in hst hlows
   rw [hsa] at hba hGy1 hGy2
   rw [hsb] at hbb hGy2
   have hW0 : W ≠ 0 := by omega
   have h45 : g45D [.agg ⟨[.slice (some ga) l.length c']⟩, .slice osh l.length csh, u, sv q.dir, iv W] (frzH Hy) M = some (.slice (some ⟨M, 0, some 0⟩) W 0, (M, .ext (sa.map iv) 3 1) :: frzH Hy, M + 1) := by
     rw [g45D_at (strAt_frz hsy) ((listV_frz decI_frz Hy _).trans hVy) huy.frz hst hqd hlows hW, hsa, outS_ne hW0, outSB, if_neg hW0]
     rfl
   have hn1 := hGy.nm
   have hn2 := namesOk_mono (Nat.le_succ M) _ hGy.nm
   have htk := takeNew_frz hGy.nm
   have hbig := hGy.big
   have x1 : n < M := by omega
   have x2 : a.block < M := by omega
   have hi1 := fun {fr Z m x y} hx hy => idx50 (fr := fr) (H := Z) (n := m) (x := x) (y := y) (p := bandF B l q.dir W) hqb hx hy
   have e86 : ∀ m, g86 [.slice (some ⟨M, 0, some 0⟩) W 0] ((M, .row (sa.map iv) 1) :: frzH Hy) m = some (bandV (bandF B l q.dir W), (M, .row (sa.map iv) 1) :: frzH Hy, m) := fun m => by
     have hV : intV ((M, .ext (sa.map iv) 3 1) :: Hy) (.slice (some ⟨M, 0, some 0⟩) sa.length 0) = some sa := intV_ext (by rw [hget_cons, if_pos rfl]) (by omega)
     have hVf : intV ((M, .row (sa.map iv) 1) :: frzH Hy) (.slice (some ⟨M, 0, some 0⟩) W 0) = some sa := by
       rw [hsal] at hV
       exact (listV_frz decI_frz ((M, .ext (sa.map iv) 3 1) :: Hy) _).trans hV
     simp only [g86, hVf]
     rw [if_pos ⟨by omega, hina⟩, hba, hB]
   have htk2 : takeNew (M + 1) ((M, .row (sa.map iv) 1) :: frzH Hy) = [] := takeNew_frz (H := (M, .ext (sa.map iv) 3 1) :: Hy) hGy1.nm
   obtain ⟨Y1, hY1⟩ : ∃ Y1, (M, Blk.ext (sa.map iv) 3 1) :: Hy = Y1 := ⟨_, rfl⟩
   obtain ⟨Y2, hY2⟩ : ∃ Y2, (M + 1, Blk.ext (sb.map iv) 3 1) :: Y1 = Y2 := ⟨_, rfl⟩
   have hm1 : MemOk M Hy := ⟨hGy.nm, hGy.pl⟩
   obtain ⟨hm2, hs2⟩ := hm1.put (b := Blk.ext (sa.map iv) 3 1) rfl
   rw [hY1] at hm2 hs2
   obtain ⟨hm3, hs3⟩ := hm2.put (b := Blk.ext (sb.map iv) 3 1) rfl
   rw [hY2] at hm3 hs3
   rw [hY1] at hGy1
   rw [hY1, hY2] at hGy2
   have hcb21 : cellA Y1 a.block (a.off + j * 3 + 1) = some (iv q.band) := hs2.cell hcb2
   have hcb22 : cellA Y2 a.block (a.off + j * 3 + 1) = some (iv q.band) := hs3.cell hcb21
   have hcl22 : cellA Y2 a.block (a.off + j * 3 + 2) = some (iv q.least) := hs3.cell (hs2.cell hcl2)
   have hcd1 : cellA Y1 a.block (a.off + j * 3) = some (sv q.dir) := hs2.cell hcd
   have hcby1 : cellsA Y1 n 0 1 = some [.slice (some ga) l.length c'] := hs2.cells hcby
   have h45b : g45D [.agg ⟨[.slice (some ga) l.length c']⟩, .slice osh l.length csh, .slice none 0 0, sv q.dir, iv W] (frzH Y1) (M + 1) = some (.slice (some ⟨M + 1, 0, some 0⟩) W 0, (M + 1, .ext (sb.map iv) 3 1) :: frzH Y1, M + 1 + 1) := by
     rw [g45D_at (strAt_frz (strAt_mono hs2 hsy)) ((listV_frz decI_frz Y1 _).trans (listV_mono decI_mono hs2 hVy)) SeenW.none hst hqd hlows hW, hsb, outS_ne hW0, outSB, if_neg hW0]
     rfl
   have e86b : ∀ m, g86 [.slice (some ⟨M + 1, 0, some 0⟩) W 0] ((M + 1, .row (sb.map iv) 1) :: frzH Y1) m = some (bandV (bandF (fun _ => true) l q.dir W), (M + 1, .row (sb.map iv) 1) :: frzH Y1, m) := fun m => by
     have hV : intV ((M + 1, .ext (sb.map iv) 3 1) :: Y1) (.slice (some ⟨M + 1, 0, some 0⟩) sb.length 0) = some sb := intV_ext (by rw [hget_cons, if_pos rfl]) (by omega)
     have hVf : intV ((M + 1, .row (sb.map iv) 1) :: frzH Y1) (.slice (some ⟨M + 1, 0, some 0⟩) W 0) = some sb := by
       rw [hsbl] at hV
       exact (listV_frz decI_frz ((M + 1, .ext (sb.map iv) 3 1) :: Y1) _).trans hV
     simp only [g86, hVf]
     rw [if_pos ⟨by omega, hinb⟩, hbb]
   have e86' : ∀ m, g86 [.slice (some ⟨M, 0, some 0⟩) W 0] (frzH Y1) m = some (bandV (bandF B l q.dir W), frzH Y1, m) := fun m => by rw [← hY1]; exact e86 m
   have e86b' : ∀ m, g86 [.slice (some ⟨M + 1, 0, some 0⟩) W 0] (frzH Y2) m = some (bandV (bandF (fun _ => true) l q.dir W), frzH Y2, m) := fun m => by rw [← hY2]; exact e86b m
   have htk3 := takeNew_frz hm2.1
   have htk5 := takeNew_frz hm3.1
   have htk4 : takeNew (M + 1 + 1) ((M + 1, .row (sb.map iv) 1) :: frzH Y1) = [] := takeNew_frz (H := (M + 1, .ext (sb.map iv) 3 1) :: Y1) (by rw [hY2]; exact hm3.1)
   have hi2 := fun {fr Z m x y} hx hy => idx50 (fr := fr) (H := Z) (n := m) (x := x) (y := y) (p := bandF (fun _ => true) l q.dir W) hqb hx hy
   have x3 : n < M + 1 := by omega
   have x4 : a.block < M + 1 := by omega
   obtain ⟨a1, a2⟩ := bandAt_bd (b := B) (d := q.dir) (k := q.band) hst hW.2
   obtain ⟨b1, b2⟩ := bandAt_bd (b := fun _ => true) (d := q.dir) (k := q.band) hst hW.2
   have hrefB : refB B l q W = decide (64 * bandAt (bandF B l q.dir W) q.band < q.least * bandAt (bandF (fun _ => true) l q.dir W) q.band) := rfl
   refine E.cond (t := true) (by simp [hjl]) (fun _ => ?_) (fun h => by cases h)
   refine E.skip (E.seq ?_)
   refine E.block (E.seq ?_)
   refine E.drawU mixed hr [] [9, 10] [0, 7, 9, 10] (by kernel_rfl) (by simp [-cellA, -cellsA, -flat, -readA, -opIndex, cellA_read, cellsA_read, hn1, hGy.pl, htk, htk3, hm2.2, hY1, x1, x2, x4, hcby, haf, hjI, hcd, hcb21, h45, e86', hi1]; rfl) ?_
   refine E.seq (E.drawU mixed hr [] [8, 9] [0, 6, 8, 9] (by kernel_rfl) (by simp [-cellA, -cellsA, -flat, -readA, -opIndex, cellA_read, cellsA_read, hm2.1, hm2.2, hm3.2, hY2, htk3, htk5, x3, x4, hcby1, haf, hjI, hcd1, hcb22, h45b, e86b', hi2]; rfl) ?_)
   obtain ⟨vA, hvA⟩ : ∃ z, bandAt (bandF B l q.dir W) q.band = z := ⟨_, rfl⟩
   obtain ⟨vB, hvB⟩ : ∃ z, bandAt (bandF (fun _ => true) l q.dir W) q.band = z := ⟨_, rfl⟩
   rw [hvA] at a1 a2 hrefB ⊢
   rw [hvB] at b1 b2 hrefB ⊢
   have hmul : 0 ≤ q.least * vB ∧ q.least * vB ≤ 4398046511104 := by
     have e1 := Int.mul_nonneg hql b1
     have e2 := Int.mul_le_mul hql2 b2 b1 (by omega : (0 : Int) ≤ 64)
     omega
   have hw1 : IntKind.i64.wrap (64 * vA) = 64 * vA := W_in (by omega) (by omega)
   have hw2 : IntKind.i64.wrap (q.least * vB) = q.least * vB := W_in (by omega) (by omega)
   refine E.seq (E.reg hr (by simp [-cellA, -flat, haf, hjI, hcl22, hw1, hw2]; rfl) ?_)
   by_cases hlt : 64 * vA < q.least * vB
   · rw [hrefB, decide_eq_true hlt, if_pos rfl] at hnx
     have hkr := refIdx_len B l rs W j
     obtain ⟨Hz, happ, hGz⟩ := hGy2.app (P := Tryz.prog) (st := 45) (i := Tryz.t3) (new := [iv j]) hlt2 Tryz.underlying45 inf3 sz3i zo3 by3 (by omega) rfl (by omega) rfl rfl
     have hnl : (refIdx B l rs W (j + 1)).length = (refIdx B l rs W j).length + 1 := by rw [hnx]; simp
     have hnm : (refIdx B l rs W (j + 1)).map iv = (refIdx B l rs W j).map iv ++ [iv j] := by rw [hnx]; simp
     refine E.cond (t := true) (by simp [hlt]) (fun _ => ?_) (fun h => by cases h)
     refine E.reg hr (by simp [-builtinA, happ]; rfl) ?_
     refine E.reg hr (by simp [hwj]; rfl) ?_
     exact ⟨(j + 1, Hz, M + 1 + 1 + 1 + 1, M + 1 + 1 + 1), .keep rfl rfl rfl (by simp [hnl]) (Sub.refl _), ⟨hjl, by dsimp only; rw [hnl, hnm]; exact hGz⟩, by dsimp only; omega⟩
   · rw [hrefB, decide_eq_false hlt, if_neg (by decide), List.append_nil] at hnx
     refine E.cond (t := false) (by simp [hlt]) (fun h => by cases h) (fun _ => ?_)
     refine E.skip (E.reg hr (by simp [hwj]; rfl) ?_)
     exact ⟨(j + 1, Y2, M + 1 + 1, p), .keep rfl rfl rfl (by simp [hnx]) (Sub.refl _), ⟨hjl, by dsimp only; rw [hnx]; exact hGy2⟩, by dsimp only; omega⟩
 · have hj' : j = rs.length := by omega
   subst hj'
   refine E.cond (t := false) (by simp) (fun h => by cases h) (fun _ => ?_)
   refine E.exit ?_
   refine E.seq (E.reg hr (by simp; rfl) ?_)
   refine E.ret ?_
   exact outK.ret rfl rfl ((hGy.fresh (n0 := n) (by omega) (afL_iv _) fun ρ => renL_af ρ _ (afL_iv _)).lower hS1)
open Classical in
noncomputable def g100 (args : List Value) (H : Heap) (n : Nat) : R := match args with
 | [v, rv, u, .int .i64 w] => match strAt H v with
   | some l => if h : ∃ p : List Rul × List ByteArray, RulsV H rv p.1 ∧ SeenW H u p.2 then (if strE l = 0 ∧ rulsE (Classical.choose h).1 = 0 ∧ 1 ≤ w ∧ w ≤ 64 then some (outS n (refIdx (staysB l (Classical.choose h).2) l (Classical.choose h).1 w.toNat (Classical.choose h).1.length).length, outSB n 3 1 (refIdx (staysB l (Classical.choose h).2) l (Classical.choose h).1 w.toNat (Classical.choose h).1.length).length ((refIdx (staysB l (Classical.choose h).2) l (Classical.choose h).1 w.toNat (Classical.choose h).1.length).map iv) ++ H, n + 1) else none) else none
   | none => none
 | _ => none
theorem g100_at {H : Heap} {n W : Nat} {v rv u : Value} {l : List Gun} {rs : List Rul} {ws : List ByteArray} (hs : strAt H v = some l) (hR : RulsV H rv rs) (hu : SeenW H u ws) (hst : strE l = 0) (hrs : rulsE rs = 0) (hW : 1 ≤ W ∧ W ≤ 64) :
   g100 [v, rv, u, iv W] H n = some (outS n (refIdx (staysB l ws) l rs W rs.length).length, outSB n 3 1 (refIdx (staysB l ws) l rs W rs.length).length ((refIdx (staysB l ws) l rs W rs.length).map iv) ++ H, n + 1) := by
 have he : ∃ p : List Rul × List ByteArray, RulsV H rv p.1 ∧ SeenW H u p.2 := ⟨(rs, ws), hR, hu⟩
 simp only [g100, hs]
 rw [dif_pos he]
 obtain ⟨e1, e2⟩ := Classical.choose_spec he
 have e1 := e1.one hR
 have e2 := e2.one hu
 rw [e1, e2, if_pos ⟨hst, hrs, by omega, by omega⟩, Int.toNat_natCast]
theorem ok100 : EntOk Tryz.prog (100, g100) := by
 intro args H n v H' n' h
 simp only [g100] at h
 split at h
 · rename_i v rv u w
   split at h
   · rename_i l h1
     split at h
     · rename_i he
       split at h
       · rename_i hc
         obtain ⟨s1, s2⟩ := Classical.choose_spec he
         generalize Classical.choose he = p at s1 s2 h hc
         obtain ⟨c1, c2, c3, c4⟩ := hc
         injection h with h; injection h with e1 e2; injection e2 with e2 e3; subst e1 e2 e3
         obtain ⟨W, rfl⟩ := Int.eq_ofNat_of_zero_le (show 0 ≤ w by omega)
         rw [Int.toNat_natCast]
         exact w100 h1 s1 s2 c1 c2 (by omega)
       · cases h
     · cases h
   · cases h
 · cases h
end Go.Proofs.YtndlfijfjglkdaaGreatDoor
namespace Go.Ab
open Go
def handX (P : Program) (r : Rec) (mk : List Nat) (i : Nat) (o : Oper) (see put : List Nat) (fr : Fr) (st : St) : Option St :=
 match runOp P r o { st with fr := fr, H := handA see put st.H } with
 | some (v, H, k) => match Nat.ble st.n k && namesOk k (takeNew st.n H) && (Nat.beq k st.n || memN mk i) with
   | true => some { st with fr := putA st.fr o.dst v, H := takeNew st.n H ++ backA put H st.H, n := k }
   | false => none
 | none => none
def doneX (P : Program) (r : Rec) (al mk late pt : List Nat) (n0 i : Nat) (o : Oper) (fr : Fr) (st : St) : Option St :=
 match isPure o.op with
 | true => pureS P o fr st
 | false => match isRead o.op with
   | true => match footA P fr o.op with
     | some f => readT P late n0 i o fr st f.see
     | none => none
   | false => match memN al i with
     | true => aloneT P r mk i o fr st
     | false => match footA P fr o.op with
       | some f => match f.put.isEmpty && visT late n0 i st.n f.see with
         | true => handT P r mk i o f.see fr st
         | false => match memN pt i && f.put.all (Nat.ble n0 ·) && f.put.all (memN f.see) && memN late i && f.see.all (Nat.blt · st.n) with
           | true => handX P r mk i o f.see f.put fr st
           | false => none
       | none => match memN late i && plainH st.H with
         | true => handU P r mk i o fr st
         | false => none
def oneX (P : Program) (r : Rec) (ops : Array Oper) (al mk late pt : List Nat) (n0 i : Nat) (o : Oper) (st : St) : Option St :=
 match dstOk st.sz o.dst with
 | false => none
 | true => match wantedA ops (trim (lookTmps ops o) st.fr) o with
   | none => none
   | some false => some { st with fr := putA st.fr o.dst undefV }
   | some true => doneX P r al mk late pt n0 i o (trim (lookTmps ops o) st.fr) st
def opsX (P : Program) (r : Rec) (ops : Array Oper) (al mk late pt : List Nat) (n0 : Nat) : List Oper → Nat → St → Option St
 | [], _, st => some st
 | o :: os, i, st => match oneX P r ops al mk late pt n0 i o st with
   | some st' => opsX P r ops al mk late pt n0 os (i + 1) st'
   | none => none
def runX (P : Program) (r : Rec) (ops : Array Oper) (al mk late pt : List Nat) (st : St) : Option St :=
 match namesOk st.n st.H with
 | true => opsX P r ops al mk late pt st.n ops.toList 0 st
 | false => none
def ptOk (bef : Array Nat) (late pt : List Nat) : Bool := pt.all fun i => memN late i && late.all fun j => Nat.beq i j || (if Nat.blt j i then ahead bef j i else ahead bef i j)
structure InvX (mk late pt : List Nat) (n0 i : Nat) (ds : List Done) (st : St) : Prop where
 put : ∀ d ∈ ds, d.put = [] ∨ (memN pt d.i = true ∧ ∀ k ∈ d.put, n0 ≤ k)
 see : ∀ d ∈ ds, memN late d.i = true ∨ ∀ k ∈ d.see, k < n0
 idx : ∀ d ∈ ds, d.i < i
 cov : ∀ k, n0 ≤ k → k < st.n → ∃ d ∈ ds, d.lo ≤ k ∧ k < d.hi ∧ memN mk d.i = true ∧ d.i < i
 nam : ∀ x ∈ st.H, x.1 < st.n
theorem lateOk_visX {bef : Array Nat} {mk late pt : List Nat} (hl : lateOk bef mk late = true) {n0 i : Nat} (hi : memN late i = true) {ds : List Done} {st : St} (hI : InvX mk late pt n0 i ds st) {k : Nat} (hk : k < st.n) : visA bef n0 i ds k = true := by
 unfold visA
 rw [Bool.or_eq_true]
 rcases Nat.lt_or_ge k n0 with h | h
 · exact .inl ((blt_iff _ _).2 h)
 · obtain ⟨d, hd, h1, h2, h3, h4⟩ := hI.cov k h hk
   refine .inr (List.any_eq_true.2 ⟨d, hd, ?_⟩)
   have := List.all_eq_true.1 (List.all_eq_true.1 hl i ((memN_iff _ _).1 hi)) d.i ((memN_iff _ _).1 h3)
   rw [Bool.or_eq_true] at this
   rcases this with h | h
   · have := Nat.le_of_ble_eq_true h
     omega
   · simp only [Bool.and_eq_true]
     exact ⟨⟨Nat.ble_eq_true_of_le h1, (blt_iff _ _).2 h2⟩, h⟩
theorem ptOk_ahead {bef : Array Nat} {late pt : List Nat} (hp : ptOk bef late pt = true) {a c : Nat} (hac : a < c) (h : (memN pt a = true ∧ memN late c = true) ∨ (memN late a = true ∧ memN pt c = true)) : ahead bef a c = true := by
 unfold ptOk at hp
 rcases h with ⟨h1, h2⟩ | ⟨h1, h2⟩
 · have := List.all_eq_true.1 hp a ((memN_iff _ _).1 h1)
   rw [Bool.and_eq_true] at this
   have := List.all_eq_true.1 this.2 c ((memN_iff _ _).1 h2)
   rw [Bool.or_eq_true] at this
   rcases this with h | h
   · have := Nat.eq_of_beq_eq_true h; omega
   · rw [if_neg (fun h => by have := (blt_iff _ _).1 h; omega)] at h
     exact h
 · have := List.all_eq_true.1 hp c ((memN_iff _ _).1 h2)
   rw [Bool.and_eq_true] at this
   have := List.all_eq_true.1 this.2 a ((memN_iff _ _).1 h1)
   rw [Bool.or_eq_true] at this
   rcases this with h | h
   · have := Nat.eq_of_beq_eq_true h; omega
   · rw [if_pos ((blt_iff _ _).2 hac)] at h
     exact h
theorem ptOk_late {bef : Array Nat} {late pt : List Nat} (hp : ptOk bef late pt = true) {a : Nat} (h : memN pt a = true) : memN late a = true := by
 have := List.all_eq_true.1 hp a ((memN_iff _ _).1 h)
 rw [Bool.and_eq_true] at this
 exact this.1
theorem disj_of {xs ys : List Nat} {n0 : Nat} (h1 : ∀ k ∈ xs, n0 ≤ k) (h2 : ∀ k ∈ ys, k < n0) : disj xs ys = true := by
 unfold disj
 refine List.all_eq_true.2 fun x hx => ?_
 cases hm : memN ys x with
 | false => rfl
 | true =>
   have := h2 x ((memN_iff _ _).1 hm)
   have := h1 x hx
   omega
theorem footX {bef : Array Nat} {mk late pt : List Nat} (hl : lateOk bef mk late = true) (hp : ptOk bef late pt = true) {n0 i : Nat} {ds : List Done} {st : St} (hI : InvX mk late pt n0 i ds st) {see : List Nat} (h : visT late n0 i st.n see = true) : footOk bef n0 i ds see [] = true := by
 have hv := h
 unfold visT at h
 rw [Bool.or_eq_true] at h
 unfold footOk
 simp only [Bool.and_eq_true]
 refine ⟨⟨List.all_eq_true.2 fun d hd => ?_, List.all_eq_true.2 fun k hk => ?_⟩, rfl⟩
 · rw [Bool.or_eq_true]
   rcases hI.put d hd with h0 | ⟨h1, h2⟩
   · right; simp [disj, h0]
   · rcases h with h | h
     · rw [Bool.and_eq_true] at h
       exact .inl (ptOk_ahead hp (hI.idx d hd) (.inl ⟨h1, h.1⟩))
     · right
       rw [Bool.and_eq_true]
       exact ⟨rfl, disj_of h2 fun k hk => (blt_iff _ _).1 (List.all_eq_true.1 h k hk)⟩
 · rcases h with h | h
   · rw [Bool.and_eq_true] at h
     exact lateOk_visX hl h.1 hI ((blt_iff _ _).1 (List.all_eq_true.1 h.2 k hk))
   · have := List.all_eq_true.1 h k hk
     unfold visA
     rw [this, Bool.true_or]
theorem footXp {bef : Array Nat} {mk late pt : List Nat} (hl : lateOk bef mk late = true) (hp : ptOk bef late pt = true) {n0 i : Nat} {ds : List Done} {st : St} (hI : InvX mk late pt n0 i ds st) {see put : List Nat} (h : (memN pt i && put.all (Nat.ble n0 ·) && put.all (memN see) && memN late i && see.all (Nat.blt · st.n)) = true) : footOk bef n0 i ds see put = true := by
 simp only [Bool.and_eq_true] at h
 obtain ⟨⟨⟨⟨h1, h2⟩, h3⟩, h4⟩, h5⟩ := h
 unfold footOk
 simp only [Bool.and_eq_true]
 refine ⟨⟨List.all_eq_true.2 fun d hd => ?_, List.all_eq_true.2 fun k hk => ?_⟩, h3⟩
 · rw [Bool.or_eq_true]
   rcases hI.see d hd with hs | hs
   · exact .inl (ptOk_ahead hp (hI.idx d hd) (.inr ⟨hs, h1⟩))
   · rcases hI.put d hd with h0 | ⟨g1, _⟩
     · right
       rw [Bool.and_eq_true]
       exact ⟨disj_of (fun k hk => Nat.le_of_ble_eq_true (List.all_eq_true.1 h2 k hk)) hs, by simp [disj, h0]⟩
     · exact .inl (ptOk_ahead hp (hI.idx d hd) (.inr ⟨ptOk_late hp g1, h1⟩))
 · exact lateOk_visX hl h4 hI ((blt_iff _ _).1 (List.all_eq_true.1 h5 k hk))
theorem seeCall_dnamesX {bef : Array Nat} {n0 i : Nat} {ds : List Done} (hp : ∀ d ∈ ds, d.put = [] ∨ ahead bef d.i i = true) : ∀ H : Heap, (∀ x ∈ H, visA bef n0 i ds x.1 = true) → seeCall bef n0 i ds H = dnames H
 | [], _ => rfl
 | (k, b) :: H, hv => by
   have ih := seeCall_dnamesX hp H fun x hx => hv x (List.mem_cons_of_mem _ hx)
   have h1 := hv _ (List.mem_cons_self ..)
   have h2 : (ds.all fun d => ahead bef d.i i || !memN d.put k) = true := List.all_eq_true.2 fun d hd => by
     rcases hp d hd with h | h
     · rw [h]; simp [memN]
     · rw [h, Bool.true_or]
   cases b <;> simp only [seeCall, dnames, h1, h2, ih, Bool.and_self, if_true]
theorem InvX.same {mk late pt : List Nat} {n0 i : Nat} {ds : List Done} {st : St} (hI : InvX mk late pt n0 i ds st) {fr : Fr} : InvX mk late pt n0 (i + 1) ds { st with fr := fr } :=
 ⟨hI.put, hI.see, fun d hd => Nat.lt_succ_of_lt (hI.idx d hd), fun k h1 h2 => by obtain ⟨d, a, b, c, e, f⟩ := hI.cov k h1 h2; exact ⟨d, a, b, c, e, by omega⟩, hI.nam⟩
theorem InvX.next {mk late pt : List Nat} {n0 i : Nat} {ds : List Done} {st : St} (hI : InvX mk late pt n0 i ds st) {fr : Fr} {see put : List Nat} {H : Heap} {k : Nat} (hput : put = [] ∨ (memN pt i = true ∧ ∀ k ∈ put, n0 ≤ k)) (hsee : memN late i = true ∨ ∀ k ∈ see, k < n0) (hn : ∀ x ∈ H, x.1 < k) (hm : (Nat.beq k st.n || memN mk i) = true) : InvX mk late pt n0 (i + 1) (⟨i, see, put, st.n, k⟩ :: ds) { st with fr := fr, H := H, n := k } := by
 refine ⟨fun d hd => ?_, fun d hd => ?_, fun d hd => ?_, fun j h1 h2 => ?_, hn⟩
 · rcases List.mem_cons.1 hd with rfl | hd
   · exact hput
   · exact hI.put d hd
 · rcases List.mem_cons.1 hd with rfl | hd
   · exact hsee
   · exact hI.see d hd
 · rcases List.mem_cons.1 hd with rfl | hd
   · exact Nat.lt_succ_self _
   · exact Nat.lt_succ_of_lt (hI.idx d hd)
 · rcases Nat.lt_or_ge j st.n with h | h
   · obtain ⟨d, a, b, c, e, f⟩ := hI.cov j h1 h
     exact ⟨d, List.mem_cons_of_mem _ a, b, c, e, by omega⟩
   · rw [Bool.or_eq_true] at hm
     have h2 : j < k := h2
     rcases hm with hm | hm
     · have := Nat.eq_of_beq_eq_true hm
       omega
     · exact ⟨_, List.mem_cons_self .., h, h2, hm, Nat.lt_succ_self _⟩
theorem visT_see {late : List Nat} {n0 i n : Nat} {see : List Nat} (h : visT late n0 i n see = true) : memN late i = true ∨ ∀ k ∈ see, k < n0 := by
 unfold visT at h
 rw [Bool.or_eq_true] at h
 rcases h with h | h
 · rw [Bool.and_eq_true] at h; exact .inl h.1
 · exact .inr fun k hk => (blt_iff _ _).1 (List.all_eq_true.1 h k hk)
theorem backA_memX {put : List Nat} {H' : Heap} : ∀ {H : Heap} {x : Nat × Blk}, x ∈ backA put H' H → ∃ y ∈ H, y.1 = x.1
 | [], x, h => by cases h
 | (k, b) :: H, x, h => by
   rw [backA] at h
   have go : x ∈ backA put H' H → ∃ y ∈ (k, b) :: H, y.1 = x.1 := fun h => by
     obtain ⟨y, hy, e⟩ := backA_memX h
     exact ⟨y, List.mem_cons_of_mem _ hy, e⟩
   split at h
   · rcases List.mem_cons.1 h with rfl | h
     · exact ⟨_, List.mem_cons_self .., rfl⟩
     · exact go h
   · split at h
     · rcases List.mem_cons.1 h with rfl | h
       · exact ⟨_, List.mem_cons_self .., rfl⟩
       · exact go h
     · exact go h
theorem handX_ok {P : Program} {r : Rec} {bef : Array Nat} {mk late pt : List Nat} {n0 i : Nat} {ds : List Done} {o : Oper} {fr : Fr} {st st' : St} (hI : InvX mk late pt n0 i ds st) {see put : List Nat} (hf : footOk bef n0 i ds see put = true) (hput : put = [] ∨ (memN pt i = true ∧ ∀ k ∈ put, n0 ≤ k)) (hsee : memN late i = true ∨ ∀ k ∈ see, k < n0) (h : handX P r mk i o see put fr st = some st') : ∃ ds', handOp P r bef n0 i ds o see put fr st = some (st', ds') ∧ InvX mk late pt n0 (i + 1) ds' st' := by
 unfold handX at h
 unfold handOp
 rw [hf]
 simp only
 split at h
 · rename_i v H k hv
   rw [hv]
   simp only
   split at h
   · rename_i hc
     simp only [Bool.and_eq_true] at hc
     injection h with h; subst h
     rw [hc.1.1, hc.1.2]
     simp only [Bool.and_self]
     have hle := Nat.le_of_ble_eq_true hc.1.1
     refine ⟨_, rfl, hI.next hput hsee (fun x hx => ?_) hc.2⟩
     rcases List.mem_append.1 hx with hx | hx
     · exact namesOk_mem _ _ hc.1.2 x hx
     · obtain ⟨y, hy, e⟩ := backA_memX hx
       exact Nat.lt_of_lt_of_le (by rw [← e]; exact hI.nam y hy) hle
   · cases h
 · cases h
theorem backA_nil (H' : Heap) : ∀ H : Heap, backA [] H' H = H
 | [] => rfl
 | (k, b) :: H => by simp only [backA, memN, backA_nil H' H]
theorem handT_X {P : Program} {r : Rec} {mk : List Nat} {i : Nat} {o : Oper} {see : List Nat} {fr : Fr} {st : St} : handT P r mk i o see fr st = handX P r mk i o see [] fr st := by
 unfold handT handX
 simp only [backA_nil]
 rfl
theorem opsX_ok {P : Program} {r : Rec} {ops : Array Oper} {bef : Array Nat} {al mk late pt : List Nat} (hl : lateOk bef mk late = true) (hpt : ptOk bef late pt = true) {n0 : Nat} : ∀ (os : List Oper) (i : Nat) (st st' : St) (ds : List Done), alEq ops bef al os i = true → InvX mk late pt n0 i ds st → opsX P r ops al mk late pt n0 os i st = some st' → opsD P r ops bef n0 os i ds st = some st'
 | [], _, st, st', ds, _, _, h => h
 | o :: os, i, st, st', ds, hal, hI, h => by
   simp only [alEq, Bool.and_eq_true, Bool.or_eq_true, beq_iff_eq] at hal
   have halo : isPure o.op = false → isRead o.op = false → memN al i = aloneA bef i ops.toList 0 := fun h1 h2 => by
     rcases hal.1 with (h | h) | h
     · rw [h1] at h; cases h
     · rw [h2] at h; cases h
     · exact h
   simp only [opsX] at h
   split at h
   · rename_i st1 h1
     have key : ∃ ds', oneD P r ops bef n0 i ds o st = some (st1, ds') ∧ InvX mk late pt n0 (i + 1) ds' st1 := by
       unfold oneX at h1
       unfold oneD
       split at h1
       · cases h1
       · rename_i hd
         rw [hd]
         simp only
         split at h1
         · cases h1
         · rename_i hw
           rw [hw]
           injection h1 with h1; subst h1
           exact ⟨ds, rfl, hI.same⟩
         · rename_i hw
           rw [hw]
           simp only
           unfold doneX at h1
           unfold doneD
           split at h1
           · rename_i hp
             rw [hp]
             simp only
             unfold pureS at h1
             unfold pureOp
             split at h1
             · rename_i v a k hv
               rw [hv]
               simp only
               split at h1
               · rename_i hk
                 rw [hk]
                 injection h1 with h1; subst h1
                 exact ⟨ds, rfl, hI.same⟩
               · cases h1
             · cases h1
           · rename_i hp
             rw [hp]
             simp only
             split at h1
             · rename_i hrd
               rw [hrd]
               simp only
               split at h1
               · rename_i f hf
                 rw [hf]
                 simp only
                 unfold readT at h1
                 split at h1
                 · rename_i hv
                   have hvt := hv
                   unfold readOp
                   rw [footX hl hpt hI hv]
                   simp only
                   split at h1
                   · rename_i v a b hv
                     rw [hv]
                     injection h1 with h1; subst h1
                     exact ⟨_, rfl, hI.next (.inl rfl) (visT_see hvt) hI.nam (by simp)⟩
                   · cases h1
                 · cases h1
               · cases h1
             · rename_i hrd
               rw [hrd]
               simp only
               split at h1
               · rename_i hm
                 have ha : aloneA bef i ops.toList 0 = true := by rw [← halo hp hrd, hm]
                 rw [ha]
                 simp only
                 unfold aloneT at h1
                 unfold aloneOp
                 split at h1
                 · rename_i v H k hv
                   rw [hv]
                   simp only
                   split at h1
                   · rename_i hk
                     simp only [Bool.and_eq_true] at hk
                     rw [hk.1.1, hk.1.2]
                     injection h1 with h1; subst h1
                     exact ⟨_, rfl, hI.next (.inl rfl) (.inr fun k hk => by cases hk) (namesOk_mem _ _ hk.1.2) hk.2⟩
                   · cases h1
                 · cases h1
               · rename_i hm
                 have ha : aloneA bef i ops.toList 0 = false := by rw [← halo hp hrd, hm]
                 rw [ha]
                 simp only
                 split at h1
                 · rename_i f hf
                   rw [hf]
                   simp only
                   split at h1
                   · rename_i hv
                     rw [Bool.and_eq_true] at hv
                     rw [List.isEmpty_iff.1 hv.1]
                     rw [handT_X] at h1
                     exact handX_ok hI (footX hl hpt hI hv.2) (.inl rfl) (visT_see hv.2) h1
                   · split at h1
                     · rename_i hv
                       have hv2 := hv
                       simp only [Bool.and_eq_true] at hv2
                       exact handX_ok hI (footXp hl hpt hI hv) (.inr ⟨hv2.1.1.1.1, fun k hk => Nat.le_of_ble_eq_true (List.all_eq_true.1 hv2.1.1.1.2 k hk)⟩) (.inl hv2.1.2) h1
                     · cases h1
                 · rename_i hf
                   rw [hf]
                   simp only
                   split at h1
                   · rename_i hv
                     rw [Bool.and_eq_true] at hv
                     have hvis : ∀ k, k < st.n → visA bef n0 i ds k = true := fun k hk => lateOk_visX hl hv.1 hI hk
                     rw [seeCall_dnamesX (fun d hd => by
                       rcases hI.put d hd with h | ⟨h, _⟩
                       · exact .inl h
                       · exact .inr (ptOk_ahead hpt (hI.idx d hd) (.inl ⟨h, hv.1⟩))) st.H fun x hx => hvis _ (hI.nam x hx)]
                     have hvt : visT late n0 i st.n (dnames st.H) = true := by
                       unfold visT
                       rw [hv.1]
                       simp only [Bool.true_and, Bool.or_eq_true]
                       refine .inl (List.all_eq_true.2 fun k hk => ?_)
                       obtain ⟨b, hb⟩ := dnames_mem _ _ hk
                       exact (blt_iff _ _).2 (hI.nam _ hb)
                     have h2 : handT P r mk i o (dnames st.H) (trim (lookTmps ops o) st.fr) st = some st1 := by
                       unfold handT
                       rw [handA_dnames hv.2]
                       exact h1
                     rw [handT_X] at h2
                     exact handX_ok hI (footX hl hpt hI hvt) (.inl rfl) (.inl hv.1) h2
                   · cases h1
     obtain ⟨ds', h2, hI'⟩ := key
     simp only [opsD, h2]
     exact opsX_ok hl hpt os (i + 1) st1 st' ds' hal.2 hI' h
   · cases h
def drawX (ops : Array Oper) (bef : Array Nat) (al mk late pt : List Nat) : Bool := drawOk ops bef && alEq ops bef al ops.toList 0 && lateOk bef mk late && ptOk bef late pt
section
variable {P : Program} {n0 : Nat} {ro : Option Nat} {st st' : St} {K : Ex → St → Prop} {r : Rec} {m : Nat}
theorem E.drawX (hm : P.follows .mixedOrders = true) (hr : RecOk P r m) (al mk late pt : List Nat) {id : Nat} {ops : Array Oper} (hd : Ab.drawX ops (Region.before ops) al mk late pt = true) (h : runX P r ops al mk late pt st = some st') (k : K .normal st') : E P n0 ro (.region id ops true) st K := by
 unfold Ab.drawX at hd
 simp only [Bool.and_eq_true] at hd
 unfold runX at h
 split at h
 · rename_i hn
   exact E.draw hm hr hd.1.1.1 (opsX_ok hd.1.2 hd.2 _ _ _ _ [] hd.1.1.2 ⟨by simp, by simp, by simp, fun k h1 h2 => by omega, namesOk_mem _ _ hn⟩ h) k
 · cases h
end
attribute [simp] runX opsX oneX doneX
end Go.Ab
