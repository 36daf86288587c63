/-
The walk through what TopSpraySilent reaches, and the plain law behind it (no condition).
-/
import Derived.Test.YtljglocehbccnaaTc
namespace Go.Proofs.Ytljglocehbccnaa
open Go Go.Ab Go.Proofs
set_option maxRecDepth 20000
theorem plainH_hset : ∀ {H : Heap} {k : Nat} {b : Blk}, plainH H = true → plainB2 b = true → plainH (hset H k b) = true
  | [], _, _, _, _ => rfl
  | (i, c) :: H, k, b, h, hb => by
    simp only [plainH, Bool.and_eq_true] at h
    rw [hset]
    split
    · simp only [plainH, Bool.and_eq_true]
      exact ⟨hb, h.2⟩
    · simp only [plainH, Bool.and_eq_true]
      exact ⟨h.1, plainH_hset h.2 hb⟩
theorem GL.put {L Hx : Heap} {n t sz k N o : Nat} {cs : List Value} (hL : ∀ k b, hget L k = some b → k < n) (h : GL L n t sz cs k Hx N o) (hk : k ≠ 0) {i : Nat} (hi : i < cs.length) (v : Value) : storeA Hx o i [v] = some (hset Hx o (.ext (cs.set i v) t sz)) ∧ GL L n t sz (cs.set i v) k (hset Hx o (.ext (cs.set i v) t sz)) N o := by
  obtain ⟨h1, h2⟩ := h.out hk
  have hlo := h.low
  refine ⟨?_, by rw [List.length_set]; exact h.len, fun _ => ⟨by rw [hget_set, if_pos rfl, h1]; rfl, h2⟩, fun j b hj => ?_, namesOk_hset h.nm, h.big, h.low, ?_⟩
  · unfold storeA
    rw [h1]
    simp only [List.length_cons, List.length_nil, putL]
    rw [if_pos (by omega), put_at hi]
  · have := hL j b hj
    rw [hget_set, if_neg (by omega)]
    exact h.sub j b hj
  · exact plainH_hset h.pl rfl
/-- the closure: a level is nothing -/
theorem w28 {H : Heap} {n k m T i : Nat} {R : List Value} {x : Int} (hk : hget H k = some (.cells [.slice (some ⟨m, 0, none⟩) T T] 35)) (hm : hget H m = some (.cells R 3)) (hx : R[i]? = some (iv x)) (hi : i < T) : AC Try.prog 28 [iv i, .pointer (some ⟨k, 0, none⟩)] H n (.bool (decide (x = 0))) H n := by
  refine AC.given fun hold hsc _ => AC.tidied (B := []) (by simp) ?_
  replace hk : hget (tidy n H) k = some (.cells [.slice (some ⟨m, 0, none⟩) T T] 35) := hget_tidy.2 ⟨hk, (hold _ _ hk).1, rfl⟩
  replace hm : hget (tidy n H) m = some (.cells R 3) := hget_tidy.2 ⟨hm, (hold _ _ hm).1, rfl⟩
  have hr := recT_ok (P := Try.prog) (l := []) (by simp)
  refine AC.pure Try.func28 rfl (by kernel_rfl) rfl [] rfl ?_
  refine E.seq ?_
  refine E.reg hr (by simp; rfl) ?_ -- region 0
  refine E.seq ?_
  refine E.reg hr (by simp [hk, hm, hx, hi]; rfl) ?_ -- region 1
  refine E.ret ?_
  exact pureK.ret rfl rfl (by simp) (Sub.refl _)
def lvAt (H : Heap) (k i : Nat) : Option Int := match hget H k with
  | some (.cells [.slice (some ⟨m, 0, none⟩) T T'] 35) => if i < T ∧ T' = T then match hget H m with
    | some (.cells R 3) => match R[i]? with
      | some (.int .i64 x) => some x
      | _ => none
    | _ => none
    else none
  | _ => none
def g28 (args : List Value) (H : Heap) (n : Nat) : R := match args with
  | [.int .i64 i, .pointer (some ⟨k, 0, none⟩)] => if 0 ≤ i then (lvAt H k i.toNat).map fun x => (.bool (decide (x = 0)), H, n) else none
  | _ => none
theorem ok28 : EntOk Try.prog (28, g28) := by
  intro args H n v H' n' h
  simp only [g28] at h
  split at h
  · rename_i i k
    split at h
    · rename_i hi
      rw [Option.map_eq_some_iff] at h
      obtain ⟨x, h4, h⟩ := h
      injection h with e1 e2; injection e2 with e2 e3; subst e1 e2 e3
      obtain ⟨i', rfl⟩ := Int.eq_ofNat_of_zero_le hi
      unfold lvAt at h4
      split at h4
      · rename_i m T T' hk
        split at h4
        · rename_i hT
          obtain ⟨hT, rfl⟩ := hT
          split at h4
          · rename_i R hm
            split at h4
            · rename_i y hx
              injection h4 with h4
              subst h4
              exact w28 hk hm hx hT
            · cases h4
          · cases h4
        · cases h4
      · cases h4
    · cases h
  · cases h
/-! ### runs -/
def stepS (S : List (Nat × Nat)) (i : Nat) : List (Nat × Nat) := match S.getLast? with
  | some (a, e) => if e = i then S.dropLast ++ [(a, i + 1)] else S ++ [(i, i + 1)]
  | none => [(i, i + 1)]
def runsV (p : Nat → Bool) : Nat → List (Nat × Nat)
  | 0 => []
  | i + 1 => if p i = true then stepS (runsV p i) i else runsV p i
def sps (S : List (Nat × Nat)) : List Value := S.flatMap fun s => [iv s.1, iv s.2]
theorem sps_snoc (S : List (Nat × Nat)) (a e : Nat) : sps (S ++ [(a, e)]) = sps S ++ [iv a, iv e] := by simp [sps]
theorem sps_len : ∀ S : List (Nat × Nat), (sps S).length = S.length * 2
  | [] => rfl
  | s :: S => by
    show ([iv s.1, iv s.2] ++ sps S).length = _
    rw [List.length_append, sps_len S]
    show 2 + S.length * 2 = (S.length + 1) * 2
    omega
theorem sps_af : ∀ S : List (Nat × Nat), afL (sps S) = true
  | [] => rfl
  | s :: S => by
    show afL ([iv s.1, iv s.2] ++ sps S) = true
    simp [afL, sps_af S]
theorem sps_ren (ρ : Nat → Nat) (S : List (Nat × Nat)) : renL ρ (sps S) = sps S := renL_afl ρ _ fun v hv => by
  unfold sps at hv
  obtain ⟨g, _, hv⟩ := List.mem_flatMap.1 hv
  simp only [List.mem_cons, List.not_mem_nil, or_false] at hv
  rcases hv with rfl | rfl <;> rfl
theorem runsV_len (p : Nat → Bool) : ∀ i, (runsV p i).length ≤ i
  | 0 => Nat.le_refl _
  | i + 1 => by
    have := runsV_len p i
    unfold runsV
    split
    · unfold stepS
      split
      · split
        · rw [List.length_append, List.length_dropLast]; simp; omega
        · rw [List.length_append]; simp; omega
      · simp
    · omega
theorem sz52i : Try.t52.size = 2 := by kernel_rfl
theorem by52 : Try.t52.bytes ≤ 128 := by decide +kernel
theorem zo52 : zeroOk Try.t52 = true := by kernel_rfl
abbrev lvF (k : Nat) : Value := .func (.func 28) #[] #[.pointer (some ⟨k, 0, none⟩)]
def hset' (Hx : Heap) (o : Nat) (S0 : List (Nat × Nat)) (a e : Nat) : Heap := hset Hx o (.ext (sps (S0 ++ [(a, e + 1)])) 52 2)
theorem w27 {H : Heap} {n k m T : Nat} {R : List Value} {f : Nat → Int} (hT : T ≤ 4096) (hk : hget H k = some (.cells [.slice (some ⟨m, 0, none⟩) T T] 35)) (hm : hget H m = some (.cells R 3)) (hR : ∀ i : Nat, i < T → R[i]? = some (iv (f i))) : AC Try.prog 27 [iv T, lvF k] H n (outS n (runsV (fun i => decide (f i = 0)) T).length) (outSB n 52 2 (runsV (fun i => decide (f i = 0)) T).length (sps (runsV (fun i => decide (f i = 0)) T)) ++ H) (n + 1) := by
  refine AC.given fun hold hsc _ => AC.tidied outSB_ge ?_
  replace hk : hget (tidy n H) k = some (.cells [.slice (some ⟨m, 0, none⟩) T T] 35) := hget_tidy.2 ⟨hk, (hold _ _ hk).1, rfl⟩
  replace hm : hget (tidy n H) m = some (.cells R 3) := hget_tidy.2 ⟨hm, (hold _ _ hm).1, rfl⟩
  have hr := recT_ok (P := Try.prog) (l := [(28, g28)]) (by simp [ok28])
  obtain ⟨p, hp⟩ : ∃ p : Nat → Bool, (fun i => decide (f i = 0)) = p := ⟨_, rfl⟩
  have hg : ∀ (Hx : Heap) (_ : Sub (tidy n H) Hx) (i : Nat) (_ : i < T) (N : Nat), g28 [iv i, .pointer (some ⟨k, 0, none⟩)] Hx N = some (.bool (p i), Hx, N) := fun Hx hs i hi N => by
    have e : lvAt Hx k i = some (f i) := by
      unfold lvAt
      rw [hs _ _ hk]
      show (if i < T ∧ T = T then _ else _) = _
      rw [if_pos ⟨hi, rfl⟩, hs _ _ hm]
      show (match R[i]? with | some (.int .i64 x) => some x | _ => none) = _
      rw [hR i hi]
    simp only [g28]
    rw [if_pos (by omega), show (i : Int).toNat = i from rfl, e, ← hp]
    rfl
  rw [hp]
  refine AC.grown Try.func27 rfl (by kernel_rfl) rfl [1, 5, 6, 7, 8, 9] ?_
  refine E.seq ?_
  refine E.reg hr (by simp; rfl) ?_ -- region 0
  refine E.seq ?_
  refine E.reg hr (by simp; rfl) ?_ -- region 1
  refine E.seq ?_
  refine E.seq ?_
  refine E.reg hr (by simp; rfl) ?_ -- region 2
  refine E.block ?_ -- 0
  refine E.loop ?_
  have hst : GL (tidy n H) n 52 2 (sps (runsV p 0)) (runsV p 0).length (tidy n H) n n := GL.start (Sub.refl _) namesOk_tidy (Nat.le_refl n) (by simp)
  refine EL.ind (fun x : Nat × Heap × Nat × Nat => { fr := [(1, lvF k), (5, outS x.2.2.2 (runsV p x.1).length), (8, iv T), (9, iv x.1)], sz := 46, H := x.2.1, n := x.2.2.1, marks := [], vs := [1, 5, 6, 7, 8, 9] }) (fun x => T - x.1) (fun x => x.1 ≤ T ∧ GL (tidy n H) n 52 2 (sps (runsV p x.1)) (runsV p x.1).length x.2.1 x.2.2.1 x.2.2.2) (0, tidy n H, n, n) (.keep rfl rfl rfl (by simp [runsV]) (Sub.refl _)) ⟨Nat.zero_le _, hst⟩ (fun _ => rfl) ?_
  rintro ⟨i, Hx, N, o⟩ ⟨hi, hG⟩
  dsimp only at hi hG ⊢
  have hw : IntKind.i64.wrap ((i : Int) + 1) = (i : Int) + 1 := W_in (by omega) (by omega)
  refine E.seq ?_
  refine E.reg hr (by simp; rfl) ?_ -- region 3
  refine E.seq ?_
  by_cases hil : i < T
  case neg =>
    have hil' : i = T := by omega
    subst hil'
    refine E.cond (t := false) (by simp) (fun h => by cases h) (fun _ => ?_)
    refine E.exit ?_ -- 0
    refine E.seq ?_
    refine E.reg hr (by simp; rfl) ?_ -- region 11
    refine E.ret ?_
    exact outK.ret rfl rfl (hG.fresh (Nat.le_refl _) (sps_af _) fun ρ => sps_ren ρ _)
  have hcall := fun N => hg Hx hG.sub i hil N
  have hrn : runsV p (i + 1) = if p i = true then stepS (runsV p i) i else runsV p i := rfl
  have hlen := runsV_len p i
  refine E.cond (t := true) (by simp [hil]) (fun _ => ?_) (fun h => by cases h)
  refine E.skip ?_
  refine E.seq ?_
  refine E.block ?_ -- 1
  refine E.seq ?_
  refine E.reg hr (by simp; rfl) ?_ -- region 4
  refine E.seq ?_
  refine E.seq ?_
  refine E.reg hr (by simp [run_vcall_tmp, vcallF, target, hcall]; rfl) ?_ -- region 5
  cases hpi : p i with
  | false =>
    rw [hpi, if_neg (by simp)] at hrn
    rw [← hrn] at hG
    refine E.cond (t := true) (by simp) (fun _ => ?_) (fun h => by cases h)
    refine E.exit ?_ -- 1
    refine E.reg hr (by simp [hw]; rfl) ?_ -- region 10
    exact ⟨(i + 1, Hx, N, o), .keep rfl rfl rfl (by simp [hrn]) (Sub.refl _), ⟨hil, hG⟩, by dsimp only; omega⟩
  | true =>
    rw [hpi, if_pos rfl] at hrn
    refine E.cond (t := false) (by simp) (fun h => by cases h) (fun _ => ?_)
    refine E.skip ?_
    refine E.seq ?_
    refine E.seq ?_
    obtain ⟨S, hS⟩ : ∃ S, runsV p i = S := ⟨_, rfl⟩
    rw [hS] at hrn hG hlen ⊢
    rcases List.eq_nil_or_concat S with rfl | ⟨S0, ⟨a, e⟩, rfl⟩
    · have hrn2 : runsV p (i + 1) = [] ++ [(i, i + 1)] := hrn
      obtain ⟨Hz, happ, hGz⟩ := hG.app (P := Try.prog) (st := 47) (i := Try.t52) (new := [iv i, iv ((i + 1 : Nat) : Int)]) tidy_lt Try.underlying47 inf52 sz52i zo52 by52 (by simp) rfl (by omega) rfl rfl
      rw [← sps_snoc] at hGz
      have hl1 : (runsV p (i + 1)).length = 1 := by rw [hrn2]; rfl
      have hGz' : GL (tidy n H) n 52 2 (sps (runsV p (i + 1))) (runsV p (i + 1)).length Hz (N + 1 + 1) (N + 1) := by rw [hl1, hrn2]; exact hGz
      refine E.reg hr (by simp; rfl) ?_ -- region 6
      refine E.seq ?_
      refine E.reg hr (by simp [yieldedA, undefV]; rfl) ?_ -- region 7
      refine E.cond (t := false) (by simp) (fun h => by cases h) (fun _ => ?_)
      refine E.skip ?_
      have happ' : builtinA Try.prog .append #[47, 47] ((N, .cells [iv i, iv ((i : Int) + 1)] 52) :: Hx) (N + 1) [.slice none 0 0, .slice (some ⟨N, 0, none⟩) 1 1] = some (outS (N + 1) 1, Hz, N + 1 + 1) := happ
      refine E.reg hr (by simp [-builtinA, hw, build52, happ']; rfl) ?_ -- region 9
      refine E.reg hr (by simp [hw]; rfl) ?_ -- region 10
      exact ⟨(i + 1, Hz, N + 1 + 1, N + 1), .keep rfl rfl rfl (by simp [hl1]) (Sub.refl _), ⟨hil, hGz'⟩, by dsimp only; omega⟩
    · rw [List.concat_eq_append] at hrn hG hlen ⊢
      have hne : (S0 ++ [(a, e)]).length ≠ 0 := by simp
      have hll : (S0 ++ [(a, e)]).length = S0.length + 1 := by simp
      obtain ⟨ho, hoN⟩ := hG.out hne
      have hlast : (S0 ++ [(a, e)]).getLast? = some (a, e) := by simp
      have hlen0 : S0.length < 4096 := by omega
      have hwk : IntKind.i64.wrap (S0.length : Int) = (S0.length : Int) := W_in (by omega) (by omega)
      have hcl : cellA Hx o (S0.length * 2 + 1) = some (iv e) := by
        rw [cellA_eq, ho]
        show (sps (S0 ++ [(a, e)]))[S0.length * 2 + 1]? = _
        rw [sps_snoc, List.getElem?_append_right (by rw [sps_len]; omega), sps_len, Nat.add_sub_cancel_left]
        rfl
      rw [outS_ne hne, hll]
      refine E.reg hr (by simp; rfl) ?_ -- region 6
      refine E.seq ?_
      by_cases hei : e = i
      · subst hei
        have hrn2 : runsV p (e + 1) = S0 ++ [(a, e + 1)] := by rw [hrn, stepS, hlast]; simp
        obtain ⟨hst1, hGp⟩ := GL.put tidy_lt hG hne (i := S0.length * 2 + 1) (by rw [sps_len]; omega) (iv ((e : Int) + 1))
        have hset : (sps (S0 ++ [(a, e)])).set (S0.length * 2 + 1) (iv ((e : Int) + 1)) = sps (S0 ++ [(a, e + 1)]) := by
          rw [sps_snoc, sps_snoc, List.set_append, if_neg (by rw [sps_len]; omega), sps_len, Nat.add_sub_cancel_left]
          rfl
        rw [hset] at hst1 hGp
        have hGp' : GL (tidy n H) n 52 2 (sps (runsV p (e + 1))) (runsV p (e + 1)).length (hset' Hx o S0 a e) N o := by
          rw [hrn2]
          simpa [hset'] using hGp
        obtain ⟨Hz, hHz⟩ : ∃ Hz, hset' Hx o S0 a e = Hz := ⟨_, rfl⟩
        have hst2 : storeA Hx o (S0.length * 2 + 1) [iv ((e : Int) + 1)] = some Hz := by rw [hst1, ← hHz]; rfl
        rw [hHz] at hGp'
        refine E.reg hr (by simp [-cellA, hwk, hcl, yieldedA]; rfl) ?_ -- region 7
        refine E.cond (t := true) (by simp) (fun _ => ?_) (fun h => by cases h)
        refine E.seq ?_
        refine E.reg hr (by simp [-storeA, hwk, hw, hst2]; rfl) ?_ -- region 8
        refine E.exit ?_ -- 1
        refine E.reg hr (by simp [hw]; rfl) ?_ -- region 10
        exact ⟨(e + 1, Hz, N, o), .keep rfl rfl rfl (by simp [hrn2, outS]) (Sub.refl _), ⟨hil, hGp'⟩, by dsimp only; omega⟩
      · have hei' : ¬ (e : Int) = i := by omega
        have hrn2 : runsV p (i + 1) = S0 ++ [(a, e)] ++ [(i, i + 1)] := by rw [hrn, stepS, hlast]; simp [hei]
        obtain ⟨Hz, happ, hGz⟩ := hG.app (P := Try.prog) (st := 47) (i := Try.t52) (new := [iv i, iv ((i + 1 : Nat) : Int)]) tidy_lt Try.underlying47 inf52 sz52i zo52 by52 (by omega) rfl (by omega) rfl rfl
        rw [← sps_snoc, ← hrn2] at hGz
        have hl1 : (runsV p (i + 1)).length = S0.length + 1 + 1 := by rw [hrn2]; simp
        rw [hll] at hGz happ
        rw [outS_ne (Nat.succ_ne_zero _)] at happ
        have hGz' : GL (tidy n H) n 52 2 (sps (runsV p (i + 1))) (runsV p (i + 1)).length Hz (N + 1 + 1) (N + 1) := by rw [hl1]; exact hGz
        have happ' : builtinA Try.prog .append #[47, 47] ((N, .cells [iv i, iv ((i : Int) + 1)] 52) :: Hx) (N + 1) [.slice (some ⟨o, 0, some 0⟩) (S0.length + 1) 0, .slice (some ⟨N, 0, none⟩) 1 1] = some (outS (N + 1) (S0.length + 1 + 1), Hz, N + 1 + 1) := happ
        refine E.reg hr (by simp [-cellA, hwk, hcl, hei', yieldedA]; rfl) ?_ -- region 7
        refine E.cond (t := false) (by simp) (fun h => by cases h) (fun _ => ?_)
        refine E.skip ?_
        refine E.reg hr (by simp [-builtinA, hw, build52, happ']; rfl) ?_ -- region 9
        refine E.reg hr (by simp [hw]; rfl) ?_ -- region 10
        exact ⟨(i + 1, Hz, N + 1 + 1, N + 1), .keep rfl rfl rfl (by simp [hl1]) (Sub.refl _), ⟨hil, hGz'⟩, by dsimp only; omega⟩
end Go.Proofs.Ytljglocehbccnaa

namespace Go.Proofs.Ytljglocehbccnaa
open Go Go.Ab Go.Proofs
set_option maxRecDepth 20000
theorem runsV_congr {p q : Nat → Bool} : ∀ T, (∀ i, i < T → p i = q i) → runsV p T = runsV q T
  | 0, _ => rfl
  | T + 1, h => by rw [runsV, runsV, h T (by omega), runsV_congr T fun i hi => h i (by omega)]
theorem intsOf_iv : ∀ l : List Int, intsOf (l.map iv) = some l
  | [] => rfl
  | x :: l => by
    show (intsOf (l.map iv)).map (x :: ·) = _
    rw [intsOf_iv l]
    rfl
def g27 (args : List Value) (H : Heap) (n : Nat) : R := match args with
  | [.int .i64 T, .func (.func 28) ⟨[]⟩ ⟨[.pointer (some ⟨k, 0, none⟩)]⟩] => match hget H k with
    | some (.cells [.slice (some ⟨m, 0, none⟩) T1 T2] 35) => match hget H m with
      | some (.cells R 3) => (intsOf R).bind fun xs => if T = (xs.length : Int) ∧ T1 = xs.length ∧ T2 = xs.length ∧ xs.length ≤ 4096 then
          some (outS n (runsV (fun i => decide (xs.getD i 0 = 0)) xs.length).length, outSB n 52 2 (runsV (fun i => decide (xs.getD i 0 = 0)) xs.length).length (sps (runsV (fun i => decide (xs.getD i 0 = 0)) xs.length)) ++ H, n + 1) else none
      | _ => none
    | _ => none
  | _ => none
theorem ok27 : EntOk Try.prog (27, g27) := by
  intro args H n v H' n' h
  simp only [g27] at h
  split at h
  · split at h
    · rename_i m T1 T2 hk
      split at h
      · rename_i R hm
        rw [Option.bind_eq_some_iff] at h
        obtain ⟨xs, hx, h⟩ := h
        split at h
        · rename_i hT
          obtain ⟨rfl, rfl, rfl, hT⟩ := hT
          injection h with h; injection h with e1 e2; injection e2 with e2 e3; subst e1 e2 e3
          have hR := intsOf_ok _ _ hx
          subst hR
          exact w27 (f := fun i => xs.getD i 0) hT hk hm fun i hi => by
            rw [List.getElem?_map, List.getD_eq_getElem?_getD, List.getElem?_eq_getElem hi]; rfl
        · cases h
      · cases h
    · cases h
  · cases h
def silS (b : Brg) (l : List Sg) : List (Nat × Nat) := runsV (fun i => decide (levV b l i = 0)) b.t.toNat
theorem w11 {H : Heap} {n : Nat} {v : Value} (b : Brg) {l : List Sg} (hV : sigV H v = some l) (hE : brE b l = 0) : AC Try.prog 11 [.agg ⟨[iv b.x, iv b.y, iv b.dx, iv b.dy, iv b.t]⟩, .agg ⟨[iv b.r, iv b.s, iv b.l, iv b.c, iv b.f]⟩, v] H n (.tuple #[outS n (silS b l).length, iv 0]) (outSB n 52 2 (silS b l).length (sps (silS b l)) ++ H) (n + 1) := by
  refine AC.given fun hold hsc hgn => AC.tidied outSB_ge ?_
  replace hV : sigV (tidy n H) v = some l := listV_tidy decG_tidy (fun k b h => (hold k b h).1) hV
  obtain ⟨h0, h1⟩ := brE0 hE
  have hr := recT_ok (P := Try.prog) (l := [(24, g24), (26, g26), (27, g27)]) (by simp [ok24, ok26, ok27])
  obtain ⟨oa, c, rfl, hlt, hrow⟩ := sigV_form hV
  obtain ⟨R, hR⟩ : ∃ R, levL b l = R := ⟨_, rfl⟩
  obtain ⟨S, hS⟩ : ∃ S, silS b l = S := ⟨_, rfl⟩
  obtain ⟨T, hT⟩ := Int.eq_ofNat_of_zero_le (show 0 ≤ b.t by omega)
  have hTn : b.t.toNat = T := by omega
  have hxs : intsOf R = some ((List.range T).map (levV b l)) := by
    rw [← hR, levL, hTn, show (fun t => iv (levV b l t)) = iv ∘ levV b l from rfl, ← List.map_map]
    exact intsOf_iv _
  have hrS : runsV (fun i => decide (((List.range T).map (levV b l)).getD i 0 = 0)) T = S := by
    rw [← hS, silS, hTn]
    refine runsV_congr T fun i hi => ?_
    rw [List.getD_eq_getElem?_getD, List.getElem?_map, List.getElem?_range hi]
    rfl
  have h24 : ∀ y z m, g24 [.agg ⟨[iv b.x, iv b.y, iv b.dx, iv b.dy, iv b.t]⟩, .agg ⟨[iv b.r, iv b.s, iv b.l, iv b.c, iv b.f]⟩, .slice oa l.length c] ((n + 1, y) :: (n, z) :: tidy n H) m = some (.tuple #[b.val (.slice oa l.length c), iv 0], (n + 1, y) :: (n, z) :: tidy n H, m) := fun y z m => by
    have : sigV ((n + 1, y) :: (n, z) :: tidy n H) (.slice oa l.length c) = some l := listV_mono decG_mono (Sub.cons (by simp) (Sub.cons (by simp) (Sub.refl _))) hV
    simp only [g24]
    rw [this, ← hE]
    rfl
  have h26 : ∀ x y z m, g26 [.agg ⟨[iv b.r, iv b.s, iv b.l, iv b.c, iv b.f, iv b.x, iv b.y, iv b.dx, iv b.dy, iv b.t, .slice oa l.length c]⟩] ((n + 1 + 1, x) :: (n + 1, y) :: (n, z) :: tidy n H) m = some (.slice (some ⟨m, 0, none⟩) T T, (m, .cells R 3) :: (n + 1 + 1, x) :: (n + 1, y) :: (n, z) :: tidy n H, m + 1) := fun x y z m => by
    have : sigV ((n + 1 + 1, x) :: (n + 1, y) :: (n, z) :: tidy n H) (.slice oa l.length c) = some l := listV_mono decG_mono (Sub.cons (by simp) (Sub.cons (by simp) (Sub.cons (by simp) (Sub.refl _)))) hV
    simp only [g26]
    rw [this, if_pos ⟨by omega, h1⟩, ← hR, hTn]
    rfl
  have h27 : ∀ Z N, g27 [iv b.t, lvF (n + 1 + 1 + 1 + 1)] ((n + 1 + 1 + 1 + 1, .cells [.slice (some ⟨n + 1 + 1 + 1, 0, none⟩) T T] 35) :: (n + 1 + 1 + 1, .cells R 3) :: Z) N = some (outS N S.length, outSB N 52 2 S.length (sps S) ++ ((n + 1 + 1 + 1 + 1, .cells [.slice (some ⟨n + 1 + 1 + 1, 0, none⟩) T T] 35) :: (n + 1 + 1 + 1, .cells R 3) :: Z), N + 1) := fun Z N => by
    have e1 : hget ((n + 1 + 1 + 1 + 1, .cells [.slice (some ⟨n + 1 + 1 + 1, 0, none⟩) T T] 35) :: (n + 1 + 1 + 1, .cells R 3) :: Z) (n + 1 + 1 + 1 + 1) = some (.cells [.slice (some ⟨n + 1 + 1 + 1, 0, none⟩) T T] 35) := by rw [hget_cons, if_pos rfl]
    have e2 : hget ((n + 1 + 1 + 1 + 1, .cells [.slice (some ⟨n + 1 + 1 + 1, 0, none⟩) T T] 35) :: (n + 1 + 1 + 1, .cells R 3) :: Z) (n + 1 + 1 + 1) = some (.cells R 3) := by rw [hget_cons, if_neg (by omega), hget_cons, if_pos rfl]
    simp only [g27]
    rw [e1]
    show (match hget _ (n + 1 + 1 + 1) with | some (.cells R 3) => _ | _ => none) = _
    rw [e2]
    show (intsOf R).bind _ = _
    rw [hxs]
    show (if _ then _ else _) = _
    have hl : ((List.range T).map (levV b l)).length = T := by simp
    rw [if_pos ⟨by rw [hl]; omega, by rw [hl], by rw [hl], by rw [hl]; omega⟩, hl, hrS]
  rw [hS]
  unfold Brg.val at h24
  obtain ⟨bt, hbt⟩ : ∃ bt, b.t = bt := ⟨_, rfl⟩
  rw [hbt] at h0 h1 hT hTn h24 h26 h27 ⊢
  refine AC.grownE Try.func11 rfl (by kernel_rfl) rfl [3, 8] ?_
  refine E.seq ?_
  refine E.reg hr (by simp; rfl) ?_ -- region 0
  refine E.seq ?_
  refine E.reg hr (by simp [h24]; rfl) ?_ -- region 1
  refine E.seq ?_
  refine E.seq ?_
  refine E.reg hr (by simp; rfl) ?_ -- region 2
  refine E.cond (t := false) (by simp) (fun h => by cases h) (fun _ => ?_)
  refine E.skip ?_
  refine E.seq ?_
  refine E.reg hr (by simp [h26]; rfl) ?_ -- region 4
  refine E.seq ?_
  refine E.reg hr (by simp [opMakefunc, h27]; rfl) ?_ -- region 5
  refine E.ret ?_
  exact outK.ret rfl rfl ((fresh_sb (by rw [← hS]; exact sps_af _) (fun ρ => by rw [← hS]; exact sps_ren ρ _) (by omega) (by repeat first | exact Sub.refl _ | refine Sub.cons (by simp) ?_) (namesOk_none namesOk_tidy _ (by omega))).pair 0)
end Go.Proofs.Ytljglocehbccnaa

namespace Go.Proofs.Ytljglocehbccnaa
open Go Go.Ab Go.Proofs
set_option maxRecDepth 20000
/-! ### fires -/
abbrev Fir := Int × Int
def decF : Dec Fir := fun _ cs => match cs with
  | [.int .i64 t, .int .i64 x] => some (t, x)
  | _ => none
theorem decF_mono : DecMono decF := fun _ _ _ _ _ h => h
theorem decF_frz : DecFrz decF := fun _ _ => rfl
theorem decF_tidy : DecTidy decF := fun _ _ _ _ _ h => h
abbrev firV (H : Heap) (v : Value) : Option (List Fir) := listV 2 decF H v
theorem decF_form {H : Heap} {r : List Value} {q : Fir} (h : decF H r = some q) : r = [iv q.1, iv q.2] := by
  unfold decF at h
  split at h
  · injection h with h; subst h; rfl
  · cases h
theorem firV_form {H : Heap} {v : Value} {l : List Fir} (h : firV H v = some l) :
    ∃ oa c, v = .slice oa l.length c ∧ l.length < 2147483648 ∧ ∀ i (hi : i < l.length), ∃ a, oa = some a ∧ flat a = true ∧ cellsA H a.block (a.off + i * 2) 2 = some [iv l[i].1, iv l[i].2] := by
  obtain ⟨oa, c, e1, e2, _, e3⟩ := listV_form h
  refine ⟨oa, c, e1, e2, fun i hi => ?_⟩
  obtain ⟨a, r, f1, f2, f3, f4⟩ := e3 i hi
  rw [decF_form f4] at f3
  exact ⟨a, f1, f2, f3⟩
theorem load54 {H : Heap} {m o : Nat} {s : Option Nat} {x y : Value} (h : cellsA H m o 2 = some [x, y]) : loadA Try.prog 54 H (.pointer (some ⟨m, o, s⟩)) = some (.agg #[x, y]) := by
  simp only [loadA, ag54, sz54, h, Option.map_some]
def fiE (T : Int) (_ : Nat) (q : Fir) : Int := firstV [withinV q.1 0 (IntKind.i64.wrap (T - 1)), withinV q.2 1 1001]
theorem w31 {H : Heap} {n k : Nat} {x y dx dy T : Int} (i : Nat) (q : Fir) (hk : hget H k = some (.cells [iv x, iv y, iv dx, iv dy, iv T] 42)) : AC Try.prog 31 [iv i, .agg ⟨[iv q.1, iv q.2]⟩, .pointer (some ⟨k, 0, none⟩)] H n (iv (fiE T i q)) H n := by
  refine AC.given fun hold hsc _ => AC.tidied (B := []) (by simp) ?_
  replace hk : hget (tidy n H) k = some (.cells [iv x, iv y, iv dx, iv dy, iv T] 42) := hget_tidy.2 ⟨hk, (hold _ _ hk).1, rfl⟩
  have hkn : k < n := tidy_lt _ _ hk
  have hr := recT_ok (P := Try.prog) (l := [(32, g32), (29, g29)]) (by simp [ok32, ok29])
  have hkc : cellA (tidy n H) k 4 = some (iv T) := by rw [cellA_eq, hk]; rfl
  have n1 : ¬ n = k := by omega
  have m1 : k < n + 1 := by omega
  refine AC.pure Try.func31 rfl (by kernel_rfl) rfl [2, 4] rfl ?_
  refine E.seq ?_
  refine E.reg hr (by simp; rfl) ?_ -- region 0
  refine E.seq ?_
  refine E.drawU mixed hr [8, 9, 10] [5, 8, 9, 10] [1, 3, 5, 8, 9, 10] (by kernel_rfl) (by simp [-cellA, -cellsA, -flat, -readA, cellA_cons, cellsA_cons, cellA_read, flat_n, g32, g29, intsAt, intsOf, hkc, n1, m1]; rfl) ?_ -- region 1
  refine E.ret ?_
  exact pureK.ret rfl rfl (by simp [fiE]) (by repeat first | exact Sub.refl _ | refine Sub.cons (by simp) ?_)
def g31 (args : List Value) (H : Heap) (n : Nat) : R := match args with
  | [.int .i64 i, .agg ⟨[.int .i64 t, .int .i64 x]⟩, .pointer (some ⟨k, 0, none⟩)] => match hget H k with
    | some (.cells [.int .i64 _, .int .i64 _, .int .i64 _, .int .i64 _, .int .i64 T] 42) => if 0 ≤ i then some (iv (fiE T i.toNat (t, x)), H, n) else none
    | _ => none
  | _ => none
theorem ok31 : EntOk Try.prog (31, g31) := by
  intro args H n v H' n' h
  simp only [g31] at h
  split at h
  · split at h
    · rename_i hk
      split at h
      · rename_i hi
        injection h with h; injection h with e1 e2; injection e2 with e2 e3; subst e1 e2 e3
        obtain ⟨i', rfl⟩ := Int.eq_ofNat_of_zero_le hi
        exact w31 i' (_, _) hk
      · cases h
    · cases h
  · cases h
abbrev fiF (k : Nat) : Value := .func (.func 31) #[] #[.pointer (some ⟨k, 0, none⟩)]
theorem w30 {H : Heap} {n k : Nat} {v : Value} {l : List Fir} {x y dx dy T : Int} (hk : hget H k = some (.cells [iv x, iv y, iv dx, iv dy, iv T] 42)) (hV : firV H v = some l) : AC Try.prog 30 [v, iv (256 : Nat), fiF k] H n (iv (if 256 < l.length then 5 else scanV (fun i => fiE T i (l.getD i (0, 0))) l.length)) H n := by
  refine AC.given fun hold hsc _ => AC.tidied (B := []) (by simp) ?_
  replace hk : hget (tidy n H) k = some (.cells [iv x, iv y, iv dx, iv dy, iv T] 42) := hget_tidy.2 ⟨hk, (hold _ _ hk).1, rfl⟩
  have hkn : k < n := tidy_lt _ _ hk
  replace hV : firV (tidy n H) v = some l := listV_tidy decF_tidy (fun k b h => (hold k b h).1) hV
  have hr := recT_ok (P := Try.prog) (l := [(31, g31)]) (by simp [ok31])
  obtain ⟨oa, c, rfl, hlt, hrow⟩ := firV_form hV
  have hg : ∀ i (_ : i < l.length) (q : Fir) (m : Nat), g31 [iv i, .agg ⟨[iv q.1, iv q.2]⟩, .pointer (some ⟨k, 0, none⟩)] ((n, .cells [iv q.1, iv q.2] 54) :: tidy n H) m = some (iv (fiE T i q), (n, .cells [iv q.1, iv q.2] 54) :: tidy n H, m) := fun i hi q m => by
    have e1 : hget ((n, .cells [iv q.1, iv q.2] 54) :: tidy n H) k = some (.cells [iv x, iv y, iv dx, iv dy, iv T] 42) := by rw [hget_cons, if_neg (by omega)]; exact hk
    simp only [g31, e1]
    show (if _ then _ else _) = _
    rw [if_pos (by omega)]
    rfl
  have hold2 := tidy_old hold
  have hsa : sc (· < n) (.slice oa l.length c) := hsc.1
  have hsb : sc (· < n) (fiF k) := hsc.2.2.1
  obtain ⟨F, hF⟩ : ∃ F : Value, fiF k = F := ⟨_, rfl⟩
  refine AC.pure Try.func30 rfl (by kernel_rfl) rfl [2, 14, 15, 16] rfl ?_
  refine E.seq ?_
  refine E.reg hr (by simp; rfl) ?_ -- region 0
  refine E.seq ?_
  refine E.seq ?_
  refine E.reg hr (by simp; rfl) ?_ -- region 1
  by_cases hm : 256 < l.length
  · have hm' : (256 : Int) < l.length := by omega
    rw [if_pos hm]
    refine E.cond (t := true) (by simp [hm']) (fun _ => ?_) (fun h => by cases h)
    refine E.seq ?_
    refine E.reg hr (by simp; rfl) ?_ -- region 2
    refine E.ret ?_
    exact pureK.ret rfl rfl (by simp) (Sub.refl _)
  have hm' : ¬ (256 : Int) < l.length := by omega
  rw [if_neg hm]
  refine E.cond (t := false) (by simp [hm']) (fun h => by cases h) (fun _ => ?_)
  refine E.skip ?_
  refine E.seq ?_
  refine E.seq ?_
  refine E.reg hr (by simp; rfl) ?_ -- region 3
  refine E.block ?_ -- 0
  refine E.loop ?_
  refine EL.ind (fun i : Nat => { fr := [(2, fiF k), (14, .slice oa l.length c), (15, iv l.length), (16, iv i)], sz := 29, H := tidy n H, n := n, marks := [], vs := [2, 14, 15, 16] }) (fun i => l.length - i) (fun i => i ≤ l.length ∧ ∀ j (h : j < l.length), j < i → fiE T j (l.getD j (0, 0)) = 0) 0 (.keep rfl rfl rfl (by simp) (Sub.refl _)) ⟨Nat.zero_le _, fun j _ hj => by omega⟩ (fun _ => rfl) ?_
  rintro i ⟨hi, hg2⟩
  have hw : IntKind.i64.wrap ((i : Int) + 1) = (i : Int) + 1 := W_in (by omega) (by omega)
  refine E.seq ?_
  refine E.reg hr (by simp; rfl) ?_ -- region 4
  refine E.seq ?_
  by_cases hil : i < l.length
  · obtain ⟨a, rfl, hf, hc⟩ := hrow i hil
    have hld := load54 (s := none) hc
    have hgd : l.getD i (0, 0) = l[i] := by rw [List.getD_eq_getElem?_getD, List.getElem?_eq_getElem hil]; rfl
    have hcall := hg i hil l[i]
    have hit := fun (h : fiE T i (l.getD i (0, 0)) ≠ 0) => scanV_hit (f := fun i => fiE T i (l.getD i (0, 0))) hil h fun j hj => hg2 j (by omega) hj
    rw [hgd] at hit
    obtain ⟨q, hq⟩ : ∃ q, l[i] = q := ⟨_, rfl⟩
    rw [hq] at hld hcall hit
    obtain ⟨e, he⟩ : ∃ e, fiE T i q = e := ⟨_, rfl⟩
    rw [he] at hcall hit
    refine E.cond (t := true) (by simp [hil]) (fun _ => ?_) (fun h => by cases h)
    refine E.skip ?_
    refine E.seq ?_
    refine E.block ?_ -- 1
    refine E.seq ?_
    refine E.reg hr (by simp [-loadA, -flat, hil, hf, hld]; rfl) ?_ -- region 5
    refine E.seq ?_
    refine E.reg hr (by simp [run_vcall_tmp, vcallF, target, hcall]; rfl) ?_ -- region 6
    refine E.seq ?_
    refine E.reg hr (by simp; rfl) ?_ -- region 7
    by_cases h4 : e = 0
    · refine E.cond (t := false) (by simp [h4]) (fun h => by cases h) (fun _ => ?_)
      refine E.skip ?_
      refine E.reg hr (by simp [hw]; rfl) ?_ -- region 9
      exact ⟨i + 1, .back rfl hold2 (Sub.cons (by simp) (Sub.refl _)) rfl rfl ⟨rfl, rfl⟩ (by simp [-sc, hsa, hsb]; exact ⟨trivial, trivial⟩), ⟨hil, fun j h hj => if e' : j = i then by subst e'; rw [hgd, hq, he]; exact h4 else hg2 j h (by omega)⟩, by dsimp only; omega⟩
    · have h5 := hit h4
      refine E.cond (t := true) (by simp [h4]) (fun _ => ?_) (fun h => by cases h)
      refine E.seq ?_
      refine E.reg hr (by simp; rfl) ?_ -- region 8
      refine E.ret ?_
      exact pureK.ret rfl rfl (by rw [h5]; simp) (Sub.cons (by simp) (Sub.refl _))
  · have h5 := scanV_zero (f := fun i => fiE T i (l.getD i (0, 0))) (n := l.length) fun j hj => hg2 j hj (by omega)
    refine E.cond (t := false) (by simp [hil]) (fun h => by cases h) (fun _ => ?_)
    refine E.exit ?_ -- 0
    refine E.seq ?_
    refine E.reg hr (by simp; rfl) ?_ -- region 10
    refine E.ret ?_
    exact pureK.ret rfl rfl (by rw [h5]; simp) (Sub.refl _)
def g30 (args : List Value) (H : Heap) (n : Nat) : R := match args with
  | [v, .int .i64 256, .func (.func 31) ⟨[]⟩ ⟨[.pointer (some ⟨k, 0, none⟩)]⟩] => match hget H k with
    | some (.cells [.int .i64 _, .int .i64 _, .int .i64 _, .int .i64 _, .int .i64 T] 42) => (firV H v).map fun l => (iv (if 256 < l.length then 5 else scanV (fun i => fiE T i (l.getD i (0, 0))) l.length), H, n)
    | _ => none
  | _ => none
theorem ok30 : EntOk Try.prog (30, g30) := by
  intro args H n v H' n' h
  simp only [g30] at h
  split at h
  · split at h
    · rename_i hk
      rw [Option.map_eq_some_iff] at h
      obtain ⟨l, h4, h⟩ := h
      injection h with e1 e2; injection e2 with e2 e3; subst e1 e2 e3
      exact w30 hk h4
    · cases h
  · cases h
end Go.Proofs.Ytljglocehbccnaa

namespace Go.Proofs.Ytljglocehbccnaa
open Go Go.Ab Go.Proofs
set_option maxRecDepth 20000
def foE (b : Brg) (l : List Sg) (q : Fir) (x : Int) : Int := whenV (decide (x < q.2)) (firstV [whenV (insideV b l q.1) 31, 21])
theorem w34 {H : Heap} {n k1 k2 m T : Nat} {R : List Value} {b : Brg} {oa : Option Addr} {L c : Nat} {l : List Sg} {x : Int} {i : Nat} (y : Int) (hk1 : hget H k1 = some (.cells [.slice (some ⟨m, 0, none⟩) T T] 35)) (hm : hget H m = some (.cells R 3)) (hx : R[i]? = some (iv x)) (hi : i < T)
    (hk2 : hget H k2 = some (.cells [iv b.r, iv b.s, iv b.l, iv b.c, iv b.f, iv b.x, iv b.y, iv b.dx, iv b.dy, iv b.t, .slice oa L c] 84)) (hV : sigV H (.slice oa L c) = some l) : AC Try.prog 34 [.agg ⟨[iv i, iv y]⟩, .pointer (some ⟨k1, 0, none⟩), .pointer (some ⟨k2, 0, none⟩)] H n (iv (foE b l ((i : Int), y) x)) H n := by
  refine AC.given fun hold hsc _ => AC.tidied (B := []) (by simp) ?_
  replace hk1 : hget (tidy n H) k1 = some (.cells [.slice (some ⟨m, 0, none⟩) T T] 35) := hget_tidy.2 ⟨hk1, (hold _ _ hk1).1, rfl⟩
  replace hm : hget (tidy n H) m = some (.cells R 3) := hget_tidy.2 ⟨hm, (hold _ _ hm).1, rfl⟩
  replace hk2 : hget (tidy n H) k2 = some (.cells [iv b.r, iv b.s, iv b.l, iv b.c, iv b.f, iv b.x, iv b.y, iv b.dx, iv b.dy, iv b.t, .slice oa L c] 84) := hget_tidy.2 ⟨hk2, (hold _ _ hk2).1, rfl⟩
  replace hV : sigV (tidy n H) (.slice oa L c) = some l := listV_tidy decG_tidy (fun k b h => (hold k b h).1) hV
  have hr := recT_ok (P := Try.prog) (l := [(25, g25), (35, g35), (29, g29)]) (by simp [ok25, ok35, ok29])
  have h1n : k1 < n := tidy_lt _ _ hk1
  have h2n : k2 < n := tidy_lt _ _ hk2
  have hmn : m < n := tidy_lt _ _ hm
  have c1 : cellA (tidy n H) k1 0 = some (.slice (some ⟨m, 0, none⟩) T T) := by rw [cellA_eq, hk1]; rfl
  have c2 : cellA (tidy n H) m i = some (iv x) := by rw [cellA_eq, hm]; exact hx
  have c3 : cellsA (tidy n H) k2 0 11 = some [iv b.r, iv b.s, iv b.l, iv b.c, iv b.f, iv b.x, iv b.y, iv b.dx, iv b.dy, iv b.t, .slice oa L c] := by rw [cellsA_eq, hk2]; rfl
  have n1 : ¬ n = k1 := by omega
  have n2 : ¬ n = k2 := by omega
  have n3 : ¬ n = m := by omega
  have m1 : k1 < n + 1 := by omega
  have m2 : k2 < n + 1 := by omega
  have m3 : m < n + 1 := by omega
  have hfz : sigV (frzH (tidy n H)) (.slice oa L c) = some l := (listV_frz decG_frz _ _).trans hV
  have hfn : ∀ j, n ≤ j → hget (frzH (tidy n H)) j = none := fun j hj => by
    rw [hget_frz, show hget (tidy n H) j = none from namesOk_none namesOk_tidy j hj]; rfl
  obtain ⟨B, hB⟩ : ∃ B, insideV b l i = B := ⟨_, rfl⟩
  have hcall : ∀ z m, g25 [.agg ⟨[iv b.r, iv b.s, iv b.l, iv b.c, iv b.f, iv b.x, iv b.y, iv b.dx, iv b.dy, iv b.t, .slice oa L c]⟩, iv i] ((n, z) :: frzH (tidy n H)) m = some (.bool B, (n, z) :: frzH (tidy n H), m) := fun z m => by
    have : sigV ((n, z) :: frzH (tidy n H)) (.slice oa L c) = some l := listV_mono decG_mono (Sub.cons (by simp [hfn]) (Sub.refl _)) hfz
    simp only [g25]
    rw [this, ← hB]
    rfl
  have htk : takeNew (n + 1) (frzH (tidy n H)) = [] := takeNew_frz (namesOk_mono (by omega) _ namesOk_tidy)
  unfold foE
  rw [hB]
  refine AC.pure Try.func34 rfl (by kernel_rfl) rfl [1, 2, 3] rfl ?_
  refine E.seq ?_
  refine E.reg hr (by simp; rfl) ?_ -- region 0
  refine E.seq ?_
  refine E.drawU mixed hr [15] [11, 12, 13, 14, 15] [1, 2, 4, 6, 8, 10, 11, 12, 13, 14, 15] (by kernel_rfl) (by simp [-cellA, -cellsA, -flat, -readA, cellA_cons, cellsA_cons, cellA_read, cellsA_read, flat_n, g35, g29, intsAt, intsOf, c1, c2, c3, hi, n1, n2, n3, m1, m2, m3, hcall, handA_nil]; rfl) ?_ -- region 1
  refine E.ret ?_
  exact pureK.ret rfl rfl (by simp) (by repeat first | exact Sub.refl _ | refine Sub.cons (by simp) ?_)
theorem lvAt_form {H : Heap} {k i : Nat} {x : Int} (h4 : lvAt H k i = some x) : ∃ m T R, hget H k = some (.cells [.slice (some ⟨m, 0, none⟩) T T] 35) ∧ hget H m = some (.cells R 3) ∧ R[i]? = some (iv x) ∧ i < T := by
  unfold lvAt at h4
  split at h4
  · rename_i m T T' hk
    split at h4
    · rename_i hT
      obtain ⟨hT, rfl⟩ := hT
      split at h4
      · rename_i R hm
        split at h4
        · rename_i y hx
          injection h4 with h4
          subst h4
          exact ⟨m, T', R, hk, hm, hx, hT⟩
        · cases h4
      · cases h4
    · cases h4
  · cases h4
theorem lvAt_of {H : Heap} {k m T i : Nat} {R : List Value} {x : Int} (hk : hget H k = some (.cells [.slice (some ⟨m, 0, none⟩) T T] 35)) (hm : hget H m = some (.cells R 3)) (hx : R[i]? = some (iv x)) (hi : i < T) : lvAt H k i = some x := by
  unfold lvAt
  rw [hk]
  show (if i < T ∧ T = T then _ else _) = _
  rw [if_pos ⟨hi, rfl⟩, hm]
  show (match R[i]? with | some (.int .i64 x) => some x | _ => none) = _
  rw [hx]
def g34 (args : List Value) (H : Heap) (n : Nat) : R := match args with
  | [.agg ⟨[.int .i64 i, .int .i64 y]⟩, .pointer (some ⟨k1, 0, none⟩), .pointer (some ⟨k2, 0, none⟩)] => if 0 ≤ i then (lvAt H k1 i.toNat).bind fun z => match hget H k2 with
    | some (.cells [.int .i64 r, .int .i64 s, .int .i64 l, .int .i64 c, .int .i64 f, .int .i64 x, .int .i64 y', .int .i64 dx, .int .i64 dy, .int .i64 t, .slice oa L cp] 84) => (sigV H (.slice oa L cp)).map fun q => (iv (foE ⟨r, s, l, c, f, x, y', dx, dy, t⟩ q (i, y) z), H, n)
    | _ => none
    else none
  | _ => none
theorem ok34 : EntOk Try.prog (34, g34) := by
  intro args H n v H' n' h
  simp only [g34] at h
  split at h
  · split at h
    · rename_i hi
      rw [Option.bind_eq_some_iff] at h
      obtain ⟨x, h4, h⟩ := h
      split at h
      · rename_i hk2
        rw [Option.map_eq_some_iff] at h
        obtain ⟨q, hV, h⟩ := h
        injection h with e1 e2; injection e2 with e2 e3; subst e1 e2 e3
        obtain ⟨i', rfl⟩ := Int.eq_ofNat_of_zero_le hi
        obtain ⟨m, T, R, hk, hm, hx, hT⟩ := lvAt_form h4
        exact w34 (b := ⟨_, _, _, _, _, _, _, _, _, _⟩) _ hk hm hx hT hk2 hV
      · cases h
    · cases h
  · cases h
abbrev foF (k1 k2 : Nat) : Value := .func (.func 34) #[] #[.pointer (some ⟨k1, 0, none⟩), .pointer (some ⟨k2, 0, none⟩)]
/-! ### the errors of fires -/
def foL (b : Brg) (l : List Sg) (f : Nat → Int) (fs : List Fir) : List Int := fs.map fun q => foE b l q (f q.1.toNat)
theorem sz36i : Try.t36.size = 1 := by kernel_rfl
theorem by36 : Try.t36.bytes ≤ 128 := by decide +kernel
theorem zo36 : zeroOk Try.t36 = true := by kernel_rfl
theorem ivs_ren (ρ : Nat → Nat) (l : List Int) : renL ρ (l.map iv) = l.map iv := renL_afl ρ _ fun v hv => by
  rw [List.mem_map] at hv
  obtain ⟨t, _, rfl⟩ := hv
  rfl
theorem w33 {H : Heap} {n k1 k2 m T : Nat} {R : List Value} {f : Nat → Int} {b : Brg} {ob : Option Addr} {L cp : Nat} {l : List Sg} {v : Value} {fs : List Fir} (hk1 : hget H k1 = some (.cells [.slice (some ⟨m, 0, none⟩) T T] 35)) (hm : hget H m = some (.cells R 3)) (hR : ∀ i : Nat, i < T → R[i]? = some (iv (f i)))
    (hk2 : hget H k2 = some (.cells [iv b.r, iv b.s, iv b.l, iv b.c, iv b.f, iv b.x, iv b.y, iv b.dx, iv b.dy, iv b.t, .slice ob L cp] 84)) (hS : sigV H (.slice ob L cp) = some l) (hV : firV H v = some fs) (hq : ∀ j (h : j < fs.length), 0 ≤ fs[j].1 ∧ fs[j].1 < T) :
    AC Try.prog 33 [v, foF k1 k2] H n (outS n fs.length) (outSB n 36 1 fs.length ((foL b l f fs).map iv) ++ H) (n + 1) := by
  refine AC.given fun hold hsc _ => AC.tidied outSB_ge ?_
  replace hk1 : hget (tidy n H) k1 = some (.cells [.slice (some ⟨m, 0, none⟩) T T] 35) := hget_tidy.2 ⟨hk1, (hold _ _ hk1).1, rfl⟩
  replace hm : hget (tidy n H) m = some (.cells R 3) := hget_tidy.2 ⟨hm, (hold _ _ hm).1, rfl⟩
  replace hk2 : hget (tidy n H) k2 = some (.cells [iv b.r, iv b.s, iv b.l, iv b.c, iv b.f, iv b.x, iv b.y, iv b.dx, iv b.dy, iv b.t, .slice ob L cp] 84) := hget_tidy.2 ⟨hk2, (hold _ _ hk2).1, rfl⟩
  replace hS : sigV (tidy n H) (.slice ob L cp) = some l := listV_tidy decG_tidy (fun k b h => (hold k b h).1) hS
  replace hV : firV (tidy n H) v = some fs := listV_tidy decF_tidy (fun k b h => (hold k b h).1) hV
  have hr := recT_ok (P := Try.prog) (l := [(34, g34)]) (by simp [ok34])
  have hg : ∀ (Hx : Heap) (_ : Sub (tidy n H) Hx) (j : Nat) (h : j < fs.length) (N : Nat), g34 [.agg ⟨[iv fs[j].1, iv fs[j].2]⟩, .pointer (some ⟨k1, 0, none⟩), .pointer (some ⟨k2, 0, none⟩)] Hx N = some (iv (foE b l fs[j] (f fs[j].1.toNat)), Hx, N) := fun Hx hs j hj N => by
    obtain ⟨q1, q2⟩ := hq j hj
    have e : lvAt Hx k1 fs[j].1.toNat = some (f fs[j].1.toNat) := lvAt_of (hs _ _ hk1) (hs _ _ hm) (hR _ (by omega)) (by omega)
    have e2 : sigV Hx (.slice ob L cp) = some l := listV_mono decG_mono hs hS
    simp only [g34]
    rw [if_pos q1, e]
    simp only [Option.bind_some]
    rw [hs _ _ hk2]
    show (sigV Hx (.slice ob L cp)).map _ = _
    rw [e2]
    rfl
  obtain ⟨oa, c, rfl, hlt, hrow⟩ := firV_form hV
  refine AC.grown Try.func33 rfl (by kernel_rfl) rfl [1, 5, 8, 9, 10] ?_
  refine E.seq ?_
  refine E.reg hr (by simp; rfl) ?_ -- region 0
  refine E.seq ?_
  refine E.reg hr (by simp; rfl) ?_ -- region 1
  refine E.seq ?_
  refine E.seq ?_
  refine E.reg hr (by simp; rfl) ?_ -- region 2
  refine E.block ?_ -- 0
  refine E.loop ?_
  have hst : GL (tidy n H) n 36 1 ((foL b l f (fs.take 0)).map iv) 0 (tidy n H) n n := GL.start (Sub.refl _) namesOk_tidy (Nat.le_refl n) (by simp)
  refine EL.ind (fun x : Nat × Heap × Nat × Nat => { fr := [(1, foF k1 k2), (5, outS x.2.2.2 x.1), (8, .slice oa fs.length c), (9, iv fs.length), (10, iv x.1)], sz := 22, H := x.2.1, n := x.2.2.1, marks := [], vs := [1, 5, 8, 9, 10] }) (fun x => fs.length - x.1) (fun x => x.1 ≤ fs.length ∧ GL (tidy n H) n 36 1 ((foL b l f (fs.take x.1)).map iv) x.1 x.2.1 x.2.2.1 x.2.2.2) (0, tidy n H, n, n) (.keep rfl rfl rfl (by simp) (Sub.refl _)) ⟨Nat.zero_le _, hst⟩ (fun _ => rfl) ?_
  rintro ⟨i, Hx, N, o⟩ ⟨hi, hG⟩
  dsimp only at hi hG ⊢
  have hw : IntKind.i64.wrap ((i : Int) + 1) = (i : Int) + 1 := W_in (by omega) (by omega)
  refine E.seq ?_
  refine E.reg hr (by simp; rfl) ?_ -- region 3
  refine E.seq ?_
  by_cases hil : i < fs.length
  case neg =>
    have hil' : i = fs.length := by omega
    subst hil'
    rw [List.take_length] at hG
    refine E.cond (t := false) (by simp) (fun h => by cases h) (fun _ => ?_)
    refine E.exit ?_ -- 0
    refine E.seq ?_
    refine E.reg hr (by simp; rfl) ?_ -- region 7
    refine E.ret ?_
    exact outK.ret rfl rfl (hG.fresh (Nat.le_refl _) (afL_iv _) fun ρ => ivs_ren ρ _)
  obtain ⟨a, rfl, hf, hc⟩ := hrow i hil
  have hld := load54 (s := none) (hG.sub.cells hc)
  have htk : foL b l f (fs.take (i + 1)) = foL b l f (fs.take i) ++ [foE b l fs[i] (f fs[i].1.toNat)] := by
    rw [List.take_succ_eq_append_getElem hil, foL, List.map_append]; rfl
  have hG2 := hG.skip tidy_lt (.cells [iv fs[i].1, iv fs[i].2] 54) rfl
  have hcall := fun N => hg _ hG2.sub i hil N
  obtain ⟨q, hqq⟩ : ∃ q, fs[i] = q := ⟨_, rfl⟩
  rw [hqq] at hld htk hG2 hcall
  obtain ⟨e, he⟩ : ∃ e, foE b l q (f q.1.toNat) = e := ⟨_, rfl⟩
  rw [he] at htk hcall
  obtain ⟨Hz, happ, hGz⟩ := hG2.app (P := Try.prog) (st := 97) (i := Try.t36) (new := [iv e]) tidy_lt Try.underlying97 inf36 sz36i zo36 by36 (by omega) rfl (by omega) rfl rfl
  have hGz' : GL (tidy n H) n 36 1 ((foL b l f (fs.take (i + 1))).map iv) (i + 1) Hz (N + 1 + 1 + 1) (N + 1 + 1) := by
    rw [htk, List.map_append]; exact hGz
  refine E.cond (t := true) (by simp [hil]) (fun _ => ?_) (fun h => by cases h)
  refine E.skip ?_
  refine E.seq ?_
  refine E.block ?_ -- 1
  refine E.seq ?_
  refine E.reg hr (by simp [-loadA, -flat, hil, hf, hld]; rfl) ?_ -- region 4
  refine E.reg hr (by simp [-builtinA, run_vcall_tmp, vcallF, target, hcall, happ]; rfl) ?_ -- region 5
  refine E.reg hr (by simp [hw]; rfl) ?_ -- region 6
  exact ⟨(i + 1, Hz, N + 1 + 1 + 1, N + 1 + 1), .keep rfl rfl rfl (by simp) (Sub.refl _), ⟨hil, hGz'⟩, by dsimp only; omega⟩
end Go.Proofs.Ytljglocehbccnaa

namespace Go.Proofs.Ytljglocehbccnaa
open Go Go.Ab Go.Proofs
set_option maxRecDepth 20000
theorem w29n : AC Try.prog 29 [.slice none 0 0] [] 0 (iv 0) [] 0 := by
  have hr := recT_ok (P := Try.prog) (l := []) (by simp)
  refine AC.pure Try.func29 rfl (by kernel_rfl) rfl [5, 6, 7] rfl ?_
  refine E.seq ?_
  refine E.reg hr (by simp; rfl) ?_ -- region 0
  refine E.seq ?_
  refine E.seq ?_
  refine E.reg hr (by simp; rfl) ?_ -- region 1
  refine E.block ?_ -- 0
  refine E.loop ?_
  refine EL.ind (fun i : Nat => { fr := [(5, .slice none 0 0), (6, iv 0), (7, iv i)], sz := 15, H := [], n := 0, marks := [], vs := [5, 6, 7] }) (fun _ => 0) (fun _ => True) 0 (.keep rfl rfl rfl (by simp) (Sub.refl _)) trivial (fun _ => rfl) ?_
  intro i _
  refine E.seq ?_
  refine E.reg hr (by simp; rfl) ?_
  refine E.seq ?_
  refine E.cond (t := false) (by simp) (fun h => by cases h) (fun _ => ?_)
  refine E.exit ?_
  refine E.seq ?_
  refine E.reg hr (by simp; rfl) ?_ -- region 7
  refine E.ret ?_
  exact pureK.ret rfl rfl (by simp) (Sub.refl _)
def g29' (args : List Value) (H : Heap) (n : Nat) : R := match args with
  | [.slice none 0 0] => some (iv 0, H, n)
  | _ => g29 args H n
theorem ok29' : EntOk Try.prog (29, g29') := by
  intro args H n v H' n' h
  simp only [g29'] at h
  split at h
  · injection h with h; injection h with e1 e2; injection e2 with e2 e3; subst e1 e2 e3
    exact AC.liftP rfl (Part.plain (by simp) [] (by simp [Seen]) gsz ⟨_, _, w29n⟩)
  · exact ok29 args H n v H' n' h
def firE (T : Int) (fs : List Fir) : Int := if 256 < fs.length then 5 else scanV (fun i => fiE T i (fs.getD i (0, 0))) fs.length
def cfE (b : Brg) (l : List Sg) (fs : List Fir) : Int := if firE b.t fs = 0 then firstV (foL b l (levV b l) fs) else firE b.t fs
theorem firE0 {T : Int} {fs : List Fir} (hT : 1 ≤ T ∧ T ≤ 4096) (h : firE T fs = 0) : ∀ j (hj : j < fs.length), 0 ≤ fs[j].1 ∧ fs[j].1 < T ∧ 1 ≤ fs[j].2 ∧ fs[j].2 ≤ 1001 := fun j hj => by
  unfold firE at h
  split at h
  · cases h
  · have h2 := scanV_all h j hj
    rw [List.getD_eq_getElem?_getD, List.getElem?_eq_getElem hj] at h2
    unfold fiE at h2
    obtain ⟨h3, h2⟩ := first0' h2
    obtain ⟨h4, _⟩ := first0' h2
    have h5 := within0' h3
    have h6 := within0' h4
    rw [show IntKind.i64.wrap (T - 1) = T - 1 from W_in (by omega) (by omega)] at h5
    simp only [Option.getD_some] at h5 h6
    omega
def g33 (args : List Value) (H : Heap) (n : Nat) : R := match args with
  | [v, .func (.func 34) ⟨[]⟩ ⟨[.pointer (some ⟨k1, 0, none⟩), .pointer (some ⟨k2, 0, none⟩)]⟩] => match hget H k1 with
    | some (.cells [.slice (some ⟨m, 0, none⟩) T1 T2] 35) => match hget H m with
      | some (.cells R 3) => (intsOf R).bind fun xs => if T1 = xs.length ∧ T2 = xs.length then match hget H k2 with
        | some (.cells [.int .i64 r, .int .i64 s, .int .i64 l, .int .i64 c, .int .i64 f, .int .i64 x, .int .i64 y, .int .i64 dx, .int .i64 dy, .int .i64 t, .slice oa L cp] 84) => (sigV H (.slice oa L cp)).bind fun q => (firV H v).bind fun fs => if (∀ p ∈ fs, 0 ≤ p.1 ∧ p.1 < xs.length) then
            some (outS n fs.length, outSB n 36 1 fs.length ((foL ⟨r, s, l, c, f, x, y, dx, dy, t⟩ q (fun i => xs.getD i 0) fs).map iv) ++ H, n + 1) else none
        | _ => none
        else none
      | _ => none
    | _ => none
  | _ => none
theorem ok33 : EntOk Try.prog (33, g33) := by
  intro args H n v H' n' h
  simp only [g33] at h
  split at h
  · split at h
    · rename_i m T1 T2 hk
      split at h
      · rename_i R hm
        rw [Option.bind_eq_some_iff] at h
        obtain ⟨xs, hx, h⟩ := h
        split at h
        · rename_i hT
          obtain ⟨rfl, rfl⟩ := hT
          split at h
          · rename_i hk2
            rw [Option.bind_eq_some_iff] at h
            obtain ⟨q, hS, h⟩ := h
            rw [Option.bind_eq_some_iff] at h
            obtain ⟨fs, hV, h⟩ := h
            split at h
            · rename_i hq
              injection h with h; injection h with e1 e2; injection e2 with e2 e3; subst e1 e2 e3
              have hR := intsOf_ok _ _ hx
              subst hR
              exact w33 (b := ⟨_, _, _, _, _, _, _, _, _, _⟩) (f := fun i => xs.getD i 0) hk hm (fun i hi => by
                rw [List.getElem?_map, List.getD_eq_getElem?_getD, List.getElem?_eq_getElem hi]; rfl) hk2 hS hV fun j hj => hq _ (List.getElem_mem hj)
            · cases h
          · cases h
        · cases h
      · cases h
    · cases h
  · cases h
end Go.Proofs.Ytljglocehbccnaa

namespace Go.Proofs.Ytljglocehbccnaa
open Go Go.Ab Go.Proofs
set_option maxRecDepth 20000
theorem foL_congr {b : Brg} {l : List Sg} {f g : Nat → Int} {fs : List Fir} (h : ∀ q ∈ fs, f q.1.toNat = g q.1.toNat) : foL b l f fs = foL b l g fs := List.map_congr_left fun q hq => by rw [h q hq]
theorem g29_out {N : Nat} {xs : List Int} {Z : Heap} {M : Nat} (hl : xs.length < 2147483648) : g29' [outS N xs.length] (outSB N 36 1 xs.length (xs.map iv) ++ Z) M = some (iv (firstV xs), outSB N 36 1 xs.length (xs.map iv) ++ Z, M) := by
  by_cases h : xs.length = 0
  · have : xs = [] := List.length_eq_zero_iff.1 h
    subst this
    rfl
  · rw [outS_ne h, outSB, if_neg h]
    show (intsAt ((N, .ext (xs.map iv) 36 1) :: Z) ⟨N, 0, some 0⟩ xs.length).map _ = _
    have : intsAt ((N, .ext (xs.map iv) 36 1) :: Z) ⟨N, 0, some 0⟩ xs.length = some xs := by
      unfold intsAt
      rw [flat_z, (blt_iff _ _).2 hl]
      simp only [Bool.and_self, if_true]
      rw [cellsA_eq, hget_cons, if_pos rfl]
      simp only [Option.bind_some, cellsB]
      rw [if_pos (by simp), List.drop_zero, List.take_of_length_le (by simp)]
      exact intsOf_iv xs
    rw [this]
    rfl
theorem sub_sb {m t sz k : Nat} {cs : List Value} {H Z : Heap} (hs : Sub H Z) (hZ : hget H m = none) : Sub H (outSB m t sz k cs ++ Z) := fun j b hj => by
  unfold outSB
  split
  · exact hs j b hj
  · show hget ((m, _) :: Z) j = _
    rw [hget_cons, if_neg fun e => by rw [e] at hZ; rw [hZ] at hj; cases hj]
    exact hs j b hj
theorem w12 {H : Heap} {n : Nat} {v u : Value} (b : Brg) {l : List Sg} {fs : List Fir} (hV : sigV H v = some l) (hF : firV H u = some fs) (hE : brE b l = 0) : AC Try.prog 12 [.agg ⟨[iv b.x, iv b.y, iv b.dx, iv b.dy, iv b.t]⟩, .agg ⟨[iv b.r, iv b.s, iv b.l, iv b.c, iv b.f]⟩, v, u] H n (iv (cfE b l fs)) H n := by
  refine AC.given fun hold hsc hgn => AC.tidied (B := []) (by simp) ?_
  replace hV : sigV (tidy n H) v = some l := listV_tidy decG_tidy (fun k b h => (hold k b h).1) hV
  replace hF : firV (tidy n H) u = some fs := listV_tidy decF_tidy (fun k b h => (hold k b h).1) hF
  obtain ⟨h0, h1⟩ := brE0 hE
  have hr := recT_ok (P := Try.prog) (l := [(24, g24), (30, g30), (29, g29'), (26, g26), (33, g33)]) (by simp only [List.forall_mem_cons]; exact ⟨ok24, ok30, ok29', ok26, ok33, by simp⟩)
  obtain ⟨oa, c, rfl, hlt, hrow⟩ := sigV_form hV
  obtain ⟨ob, d, rfl, hlt2, _⟩ := firV_form hF
  obtain ⟨R, hR⟩ : ∃ R, levL b l = R := ⟨_, rfl⟩
  obtain ⟨T, hT⟩ := Int.eq_ofNat_of_zero_le (show 0 ≤ b.t by omega)
  have hTn : b.t.toNat = T := by omega
  obtain ⟨xs, hxsd⟩ : ∃ xs, (List.range T).map (levV b l) = xs := ⟨_, rfl⟩
  have hxl : xs.length = T := by rw [← hxsd]; simp
  have hxs : intsOf R = some xs := by
    rw [← hR, levL, hTn, show (fun t => iv (levV b l t)) = iv ∘ levV b l from rfl, ← List.map_map, hxsd]
    exact intsOf_iv _
  have hxg : ∀ i, i < T → xs.getD i 0 = levV b l i := fun i hi => by
    rw [← hxsd, List.getD_eq_getElem?_getD, List.getElem?_map, List.getElem?_range hi]
    rfl
  have h24 : ∀ y z m, g24 [.agg ⟨[iv b.x, iv b.y, iv b.dx, iv b.dy, iv b.t]⟩, .agg ⟨[iv b.r, iv b.s, iv b.l, iv b.c, iv b.f]⟩, .slice oa l.length c] ((n + 1, y) :: (n, z) :: tidy n H) m = some (.tuple #[b.val (.slice oa l.length c), iv 0], (n + 1, y) :: (n, z) :: tidy n H, m) := fun y z m => by
    have : sigV ((n + 1, y) :: (n, z) :: tidy n H) (.slice oa l.length c) = some l := listV_mono decG_mono (Sub.cons (by simp) (Sub.cons (by simp) (Sub.refl _))) hV
    simp only [g24]
    rw [this, ← hE]
    rfl
  have h30 : ∀ x y m, g30 [.slice ob fs.length d, iv 256, fiF n] ((n + 1 + 1, x) :: (n + 1, y) :: (n, .cells [iv b.x, iv b.y, iv b.dx, iv b.dy, iv b.t] 42) :: tidy n H) m = some (iv (firE b.t fs), (n + 1 + 1, x) :: (n + 1, y) :: (n, .cells [iv b.x, iv b.y, iv b.dx, iv b.dy, iv b.t] 42) :: tidy n H, m) := fun x y m => by
    have : firV ((n + 1 + 1, x) :: (n + 1, y) :: (n, .cells [iv b.x, iv b.y, iv b.dx, iv b.dy, iv b.t] 42) :: tidy n H) (.slice ob fs.length d) = some fs := listV_mono decF_mono (Sub.cons (by simp) (Sub.cons (by simp) (Sub.cons (by simp) (Sub.refl _)))) hF
    have e1 : hget ((n + 1 + 1, x) :: (n + 1, y) :: (n, .cells [iv b.x, iv b.y, iv b.dx, iv b.dy, iv b.t] 42) :: tidy n H) n = some (.cells [iv b.x, iv b.y, iv b.dx, iv b.dy, iv b.t] 42) := by rw [hget_cons, if_neg (by omega), hget_cons, if_neg (by omega), hget_cons, if_pos rfl]
    simp only [g30]
    rw [e1]
    show (firV _ (.slice ob fs.length d)).map _ = _
    rw [this]
    rfl
  have h26 : ∀ w x y z m, g26 [.agg ⟨[iv b.r, iv b.s, iv b.l, iv b.c, iv b.f, iv b.x, iv b.y, iv b.dx, iv b.dy, iv b.t, .slice oa l.length c]⟩] ((n + 1 + 1 + 1, w) :: (n + 1 + 1, x) :: (n + 1, y) :: (n, z) :: tidy n H) m = some (.slice (some ⟨m, 0, none⟩) T T, (m, .cells R 3) :: (n + 1 + 1 + 1, w) :: (n + 1 + 1, x) :: (n + 1, y) :: (n, z) :: tidy n H, m + 1) := fun w x y z m => by
    have : sigV ((n + 1 + 1 + 1, w) :: (n + 1 + 1, x) :: (n + 1, y) :: (n, z) :: tidy n H) (.slice oa l.length c) = some l := listV_mono decG_mono (Sub.cons (by simp) (Sub.cons (by simp) (Sub.cons (by simp) (Sub.cons (by simp) (Sub.refl _))))) hV
    simp only [g26]
    rw [this, if_pos ⟨by omega, h1⟩, ← hR, hTn]
    rfl
  obtain ⟨E0, hE0⟩ : ∃ E0, firE b.t fs = E0 := ⟨_, rfl⟩
  have hcf : cfE b l fs = if E0 = 0 then firstV (foL b l (levV b l) fs) else E0 := by unfold cfE; rw [hE0]
  rw [hcf]
  rw [hE0] at h30
  unfold Brg.val at h24
  have hfirst : firstV [0, E0] = E0 := by simp only [firstV]; split <;> simp_all
  refine AC.pure Try.func12 rfl (by kernel_rfl) rfl [3, 4, 5, 9] rfl ?_
  refine E.seq ?_
  refine E.reg hr (by simp; rfl) ?_ -- region 0
  refine E.seq ?_
  refine E.reg hr (by simp [h24]; rfl) ?_ -- region 1
  refine E.seq ?_
  refine E.seq ?_
  refine E.reg hr (by simp [opMakefunc, h30, g29', g29, intsAt, intsOf, flat, hfirst]; rfl) ?_ -- region 2
  refine E.seq ?_
  refine E.reg hr (by simp; rfl) ?_ -- region 3
  by_cases hz : E0 = 0
  case neg =>
    rw [if_neg hz]
    refine E.cond (t := true) (by simp [hz]) (fun _ => ?_) (fun h => by cases h)
    refine E.seq ?_
    refine E.reg hr (by simp; rfl) ?_ -- region 4
    refine E.ret ?_
    exact pureK.ret rfl rfl (by simp) (by repeat first | exact Sub.refl _ | refine Sub.cons (by simp) ?_)
  rw [if_pos hz]
  subst hz
  have hq := firE0 ⟨h0, h1⟩ hE0
  have hq2 : ∀ p ∈ fs, 0 ≤ p.1 ∧ p.1 < xs.length := fun p hp => by
    obtain ⟨j, hj, rfl⟩ := List.getElem_of_mem hp
    have := hq j hj
    rw [hxl]
    omega
  have hfo : foL b l (fun i => xs.getD i 0) fs = foL b l (levV b l) fs := foL_congr fun q hq' => by
    have := hq2 q hq'
    exact hxg _ (by rw [hxl] at this; omega)
  obtain ⟨F, hFF⟩ : ∃ F, foL b l (levV b l) fs = F := ⟨_, rfl⟩
  have hFl : F.length = fs.length := by rw [← hFF]; simp [foL]
  rw [hFF] at hfo ⊢
  have h33 : ∀ w y z N, g33 [.slice ob fs.length d, foF (n + 1 + 1 + 1 + 1 + 1) (n + 1 + 1)] ((n + 1 + 1 + 1 + 1 + 1, .cells [.slice (some ⟨n + 1 + 1 + 1 + 1, 0, none⟩) T T] 35) :: (n + 1 + 1 + 1 + 1, .cells R 3) :: (n + 1 + 1 + 1, w) :: (n + 1 + 1, .cells [iv b.r, iv b.s, iv b.l, iv b.c, iv b.f, iv b.x, iv b.y, iv b.dx, iv b.dy, iv b.t, .slice oa l.length c] 84) :: (n + 1, y) :: (n, z) :: tidy n H) N = some (outS N F.length, outSB N 36 1 F.length (F.map iv) ++ ((n + 1 + 1 + 1 + 1 + 1, .cells [.slice (some ⟨n + 1 + 1 + 1 + 1, 0, none⟩) T T] 35) :: (n + 1 + 1 + 1 + 1, .cells R 3) :: (n + 1 + 1 + 1, w) :: (n + 1 + 1, .cells [iv b.r, iv b.s, iv b.l, iv b.c, iv b.f, iv b.x, iv b.y, iv b.dx, iv b.dy, iv b.t, .slice oa l.length c] 84) :: (n + 1, y) :: (n, z) :: tidy n H), N + 1) := fun w y z N => by
    obtain ⟨Z, hZ⟩ : ∃ Z, ((n + 1 + 1 + 1 + 1 + 1, Blk.cells [.slice (some ⟨n + 1 + 1 + 1 + 1, 0, none⟩) T T] 35) :: (n + 1 + 1 + 1 + 1, Blk.cells R 3) :: (n + 1 + 1 + 1, w) :: (n + 1 + 1, Blk.cells [iv b.r, iv b.s, iv b.l, iv b.c, iv b.f, iv b.x, iv b.y, iv b.dx, iv b.dy, iv b.t, .slice oa l.length c] 84) :: (n + 1, y) :: (n, z) :: tidy n H) = Z := ⟨_, rfl⟩
    have hs : Sub (tidy n H) Z := by rw [← hZ]; repeat first | exact Sub.refl _ | refine Sub.cons (by simp) ?_
    have e1 : hget Z (n + 1 + 1 + 1 + 1 + 1) = some (.cells [.slice (some ⟨n + 1 + 1 + 1 + 1, 0, none⟩) T T] 35) := by rw [← hZ, hget_cons, if_pos rfl]
    have e2 : hget Z (n + 1 + 1 + 1 + 1) = some (.cells R 3) := by rw [← hZ, hget_cons, if_neg (by omega), hget_cons, if_pos rfl]
    have e3 : hget Z (n + 1 + 1) = some (.cells [iv b.r, iv b.s, iv b.l, iv b.c, iv b.f, iv b.x, iv b.y, iv b.dx, iv b.dy, iv b.t, .slice oa l.length c] 84) := by rw [← hZ, hget_cons, if_neg (by omega), hget_cons, if_neg (by omega), hget_cons, if_neg (by omega), hget_cons, if_pos rfl]
    have e4 : sigV Z (.slice oa l.length c) = some l := listV_mono decG_mono hs hV
    have e5 : firV Z (.slice ob fs.length d) = some fs := listV_mono decF_mono hs hF
    rw [hZ]
    simp only [g33]
    rw [e1]
    show (match hget Z (n + 1 + 1 + 1 + 1) with | some (.cells R 3) => _ | _ => none) = _
    rw [e2]
    show (intsOf R).bind _ = _
    rw [hxs, Option.bind_some, if_pos ⟨hxl.symm, hxl.symm⟩, e3]
    show (sigV Z (.slice oa l.length c)).bind _ = _
    rw [e4, Option.bind_some, e5, Option.bind_some, if_pos hq2]
    rw [← hFl]
    show some (outS N F.length, outSB N 36 1 F.length ((foL b l (fun i => xs.getD i 0) fs).map iv) ++ Z, N + 1) = _
    rw [hfo]
  refine E.cond (t := false) (by simp) (fun h => by cases h) (fun _ => ?_)
  refine E.skip ?_
  refine E.seq ?_
  refine E.reg hr (by simp [h26]; rfl) ?_ -- region 5
  refine E.seq ?_
  have hg29 := fun N Z M => g29_out (N := N) (xs := F) (Z := Z) (M := M) (by omega)
  refine E.reg hr (by simp [opMakefunc, h33, hg29]; rfl) ?_ -- region 6
  refine E.ret ?_
  refine pureK.ret rfl rfl (by simp) ?_
  exact sub_sb (by repeat first | exact Sub.refl _ | refine Sub.cons (by simp) ?_) (namesOk_none namesOk_tidy _ (by omega))
end Go.Proofs.Ytljglocehbccnaa
