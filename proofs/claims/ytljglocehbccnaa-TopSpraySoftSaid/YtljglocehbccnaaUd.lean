/-
The walk through what TopSpraySoft reaches, and the plain law behind it (no condition).
-/
import Derived.Test.YtljglocehbccnaaUc
import Derived.Test.YtljglocehbccnaaTa
import Derived.Test.YtljglocehbccnaaAd
import Derived.Test.YtljglocehbccnaaAe
import Derived.Test.YtljglocehbccnaaAh
namespace Go.Proofs.Ytljglocehbccnaa
open Go Go.Ab Go.Proofs
set_option maxRecDepth 20000
def foE (b : Brg) (l : List Sg) (q : Fir) (x : Int) : Int := whenV (decide (x < q.2)) (firstV [whenV (insideV b l q.1) 31, 21])
theorem w34 {H : Heap} {n k1 k2 m T : Nat} {R : List Value} {b : Brg} {oa : Option Addr} {L c : Nat} {l : List Sg} {x : Int} {i : Nat} (y : Int) (hk1 : hget H k1 = some (.cells [.slice (some ⟨m, 0, none⟩) T T] 35)) (hm : hget H m = some (.cells R 3)) (hx : R[i]? = some (iv x)) (hi : i < T)
    (hk2 : hget H k2 = some (.cells [iv b.r, iv b.s, iv b.l, iv b.c, iv b.f, iv b.x, iv b.y, iv b.dx, iv b.dy, iv b.t, .slice oa L c] 84)) (hV : sigV H (.slice oa L c) = some l) : AC Try.prog 34 [.agg ⟨[iv i, iv y]⟩, .pointer (some ⟨k1, 0, none⟩), .pointer (some ⟨k2, 0, none⟩)] H n (iv (foE b l ((i : Int), y) x)) H n := by
  refine AC.given fun hold hsc _ => AC.tidied (B := []) (by simp) ?_
  replace hk1 : hget (tidy n H) k1 = some (.cells [.slice (some ⟨m, 0, none⟩) T T] 35) := hget_tidy.2 ⟨hk1, (hold _ _ hk1).1, rfl⟩
  replace hm : hget (tidy n H) m = some (.cells R 3) := hget_tidy.2 ⟨hm, (hold _ _ hm).1, rfl⟩
  replace hk2 : hget (tidy n H) k2 = some (.cells [iv b.r, iv b.s, iv b.l, iv b.c, iv b.f, iv b.x, iv b.y, iv b.dx, iv b.dy, iv b.t, .slice oa L c] 84) := hget_tidy.2 ⟨hk2, (hold _ _ hk2).1, rfl⟩
  replace hV : sigV (tidy n H) (.slice oa L c) = some l := listV_tidy decG_tidy (fun k b h => (hold k b h).1) hV
  have hr := recT_ok (P := Try.prog) (l := [(25, g25), (35, g35), (29, g29)]) (by simp [ok25, ok35, ok29])
  have h1n : k1 < n := tidy_lt _ _ hk1
  have h2n : k2 < n := tidy_lt _ _ hk2
  have hmn : m < n := tidy_lt _ _ hm
  have c1 : cellA (tidy n H) k1 0 = some (.slice (some ⟨m, 0, none⟩) T T) := by rw [cellA_eq, hk1]; rfl
  have c2 : cellA (tidy n H) m i = some (iv x) := by rw [cellA_eq, hm]; exact hx
  have c3 : cellsA (tidy n H) k2 0 11 = some [iv b.r, iv b.s, iv b.l, iv b.c, iv b.f, iv b.x, iv b.y, iv b.dx, iv b.dy, iv b.t, .slice oa L c] := by rw [cellsA_eq, hk2]; rfl
  have n1 : ¬ n = k1 := by omega
  have n2 : ¬ n = k2 := by omega
  have n3 : ¬ n = m := by omega
  have m1 : k1 < n + 1 := by omega
  have m2 : k2 < n + 1 := by omega
  have m3 : m < n + 1 := by omega
  have hfz : sigV (frzH (tidy n H)) (.slice oa L c) = some l := (listV_frz decG_frz _ _).trans hV
  have hfn : ∀ j, n ≤ j → hget (frzH (tidy n H)) j = none := fun j hj => by
    rw [hget_frz, show hget (tidy n H) j = none from namesOk_none namesOk_tidy j hj]; rfl
  obtain ⟨B, hB⟩ : ∃ B, insideV b l i = B := ⟨_, rfl⟩
  have hcall : ∀ z m, g25 [.agg ⟨[iv b.r, iv b.s, iv b.l, iv b.c, iv b.f, iv b.x, iv b.y, iv b.dx, iv b.dy, iv b.t, .slice oa L c]⟩, iv i] ((n, z) :: frzH (tidy n H)) m = some (.bool B, (n, z) :: frzH (tidy n H), m) := fun z m => by
    have : sigV ((n, z) :: frzH (tidy n H)) (.slice oa L c) = some l := listV_mono decG_mono (Sub.cons (by simp [hfn]) (Sub.refl _)) hfz
    simp only [g25]
    rw [this, ← hB]
    rfl
  have htk : takeNew (n + 1) (frzH (tidy n H)) = [] := takeNew_frz (namesOk_mono (by omega) _ namesOk_tidy)
  unfold foE
  rw [hB]
  refine AC.pure Try.func34 rfl (by kernel_rfl) rfl [1, 2, 3] rfl ?_
  refine E.seq ?_
  refine E.reg hr (by simp; rfl) ?_ -- region 0
  refine E.seq ?_
  refine E.drawU mixed hr [15] [11, 12, 13, 14, 15] [1, 2, 4, 6, 8, 10, 11, 12, 13, 14, 15] (by kernel_rfl) (by simp [-cellA, -cellsA, -flat, -readA, cellA_cons, cellsA_cons, cellA_read, cellsA_read, flat_n, g35, g29, intsAt, intsOf, c1, c2, c3, hi, n1, n2, n3, m1, m2, m3, hcall, handA_nil]; rfl) ?_ -- region 1
  refine E.ret ?_
  exact pureK.ret rfl rfl (by simp) (by repeat first | exact Sub.refl _ | refine Sub.cons (by simp) ?_)
theorem lvAt_form {H : Heap} {k i : Nat} {x : Int} (h4 : lvAt H k i = some x) : ∃ m T R, hget H k = some (.cells [.slice (some ⟨m, 0, none⟩) T T] 35) ∧ hget H m = some (.cells R 3) ∧ R[i]? = some (iv x) ∧ i < T := by
  unfold lvAt at h4
  split at h4
  · rename_i m T T' hk
    split at h4
    · rename_i hT
      obtain ⟨hT, rfl⟩ := hT
      split at h4
      · rename_i R hm
        split at h4
        · rename_i y hx
          injection h4 with h4
          subst h4
          exact ⟨m, T', R, hk, hm, hx, hT⟩
        · cases h4
      · cases h4
    · cases h4
  · cases h4
theorem lvAt_of {H : Heap} {k m T i : Nat} {R : List Value} {x : Int} (hk : hget H k = some (.cells [.slice (some ⟨m, 0, none⟩) T T] 35)) (hm : hget H m = some (.cells R 3)) (hx : R[i]? = some (iv x)) (hi : i < T) : lvAt H k i = some x := by
  unfold lvAt
  rw [hk]
  show (if i < T ∧ T = T then _ else _) = _
  rw [if_pos ⟨hi, rfl⟩, hm]
  show (match R[i]? with | some (.int .i64 x) => some x | _ => none) = _
  rw [hx]
def g34 (args : List Value) (H : Heap) (n : Nat) : R := match args with
  | [.agg ⟨[.int .i64 i, .int .i64 y]⟩, .pointer (some ⟨k1, 0, none⟩), .pointer (some ⟨k2, 0, none⟩)] => if 0 ≤ i then (lvAt H k1 i.toNat).bind fun z => match hget H k2 with
    | some (.cells [.int .i64 r, .int .i64 s, .int .i64 l, .int .i64 c, .int .i64 f, .int .i64 x, .int .i64 y', .int .i64 dx, .int .i64 dy, .int .i64 t, .slice oa L cp] 84) => (sigV H (.slice oa L cp)).map fun q => (iv (foE ⟨r, s, l, c, f, x, y', dx, dy, t⟩ q (i, y) z), H, n)
    | _ => none
    else none
  | _ => none
theorem ok34 : EntOk Try.prog (34, g34) := by
  intro args H n v H' n' h
  simp only [g34] at h
  split at h
  · split at h
    · rename_i hi
      rw [Option.bind_eq_some_iff] at h
      obtain ⟨x, h4, h⟩ := h
      split at h
      · rename_i hk2
        rw [Option.map_eq_some_iff] at h
        obtain ⟨q, hV, h⟩ := h
        injection h with e1 e2; injection e2 with e2 e3; subst e1 e2 e3
        obtain ⟨i', rfl⟩ := Int.eq_ofNat_of_zero_le hi
        obtain ⟨m, T, R, hk, hm, hx, hT⟩ := lvAt_form h4
        exact w34 (b := ⟨_, _, _, _, _, _, _, _, _, _⟩) _ hk hm hx hT hk2 hV
      · cases h
    · cases h
  · cases h
abbrev foF (k1 k2 : Nat) : Value := .func (.func 34) #[] #[.pointer (some ⟨k1, 0, none⟩), .pointer (some ⟨k2, 0, none⟩)]
/-! ### the errors of fires -/
def foL (b : Brg) (l : List Sg) (f : Nat → Int) (fs : List Fir) : List Int := fs.map fun q => foE b l q (f q.1.toNat)
theorem sz36i : Try.t36.size = 1 := by kernel_rfl
theorem by36 : Try.t36.bytes ≤ 128 := by decide +kernel
theorem zo36 : zeroOk Try.t36 = true := by kernel_rfl
theorem ivs_ren (ρ : Nat → Nat) (l : List Int) : renL ρ (l.map iv) = l.map iv := renL_afl ρ _ fun v hv => by
  rw [List.mem_map] at hv
  obtain ⟨t, _, rfl⟩ := hv
  rfl
theorem w33 {H : Heap} {n k1 k2 m T : Nat} {R : List Value} {f : Nat → Int} {b : Brg} {ob : Option Addr} {L cp : Nat} {l : List Sg} {v : Value} {fs : List Fir} (hk1 : hget H k1 = some (.cells [.slice (some ⟨m, 0, none⟩) T T] 35)) (hm : hget H m = some (.cells R 3)) (hR : ∀ i : Nat, i < T → R[i]? = some (iv (f i)))
    (hk2 : hget H k2 = some (.cells [iv b.r, iv b.s, iv b.l, iv b.c, iv b.f, iv b.x, iv b.y, iv b.dx, iv b.dy, iv b.t, .slice ob L cp] 84)) (hS : sigV H (.slice ob L cp) = some l) (hV : firV H v = some fs) (hq : ∀ j (h : j < fs.length), 0 ≤ fs[j].1 ∧ fs[j].1 < T) :
    AC Try.prog 33 [v, foF k1 k2] H n (outS n fs.length) (outSB n 36 1 fs.length ((foL b l f fs).map iv) ++ H) (n + 1) := by
  refine AC.given fun hold hsc _ => AC.tidied outSB_ge ?_
  replace hk1 : hget (tidy n H) k1 = some (.cells [.slice (some ⟨m, 0, none⟩) T T] 35) := hget_tidy.2 ⟨hk1, (hold _ _ hk1).1, rfl⟩
  replace hm : hget (tidy n H) m = some (.cells R 3) := hget_tidy.2 ⟨hm, (hold _ _ hm).1, rfl⟩
  replace hk2 : hget (tidy n H) k2 = some (.cells [iv b.r, iv b.s, iv b.l, iv b.c, iv b.f, iv b.x, iv b.y, iv b.dx, iv b.dy, iv b.t, .slice ob L cp] 84) := hget_tidy.2 ⟨hk2, (hold _ _ hk2).1, rfl⟩
  replace hS : sigV (tidy n H) (.slice ob L cp) = some l := listV_tidy decG_tidy (fun k b h => (hold k b h).1) hS
  replace hV : firV (tidy n H) v = some fs := listV_tidy decF_tidy (fun k b h => (hold k b h).1) hV
  have hr := recT_ok (P := Try.prog) (l := [(34, g34)]) (by simp [ok34])
  have hg : ∀ (Hx : Heap) (_ : Sub (tidy n H) Hx) (j : Nat) (h : j < fs.length) (N : Nat), g34 [.agg ⟨[iv fs[j].1, iv fs[j].2]⟩, .pointer (some ⟨k1, 0, none⟩), .pointer (some ⟨k2, 0, none⟩)] Hx N = some (iv (foE b l fs[j] (f fs[j].1.toNat)), Hx, N) := fun Hx hs j hj N => by
    obtain ⟨q1, q2⟩ := hq j hj
    have e : lvAt Hx k1 fs[j].1.toNat = some (f fs[j].1.toNat) := lvAt_of (hs _ _ hk1) (hs _ _ hm) (hR _ (by omega)) (by omega)
    have e2 : sigV Hx (.slice ob L cp) = some l := listV_mono decG_mono hs hS
    simp only [g34]
    rw [if_pos q1, e]
    simp only [Option.bind_some]
    rw [hs _ _ hk2]
    show (sigV Hx (.slice ob L cp)).map _ = _
    rw [e2]
    rfl
  obtain ⟨oa, c, rfl, hlt, hrow⟩ := firV_form hV
  refine AC.grown Try.func33 rfl (by kernel_rfl) rfl [1, 5, 8, 9, 10] ?_
  refine E.seq ?_
  refine E.reg hr (by simp; rfl) ?_ -- region 0
  refine E.seq ?_
  refine E.reg hr (by simp; rfl) ?_ -- region 1
  refine E.seq ?_
  refine E.seq ?_
  refine E.reg hr (by simp; rfl) ?_ -- region 2
  refine E.block ?_ -- 0
  refine E.loop ?_
  have hst : GL (tidy n H) n 36 1 ((foL b l f (fs.take 0)).map iv) 0 (tidy n H) n n := GL.start (Sub.refl _) namesOk_tidy (Nat.le_refl n) (by simp)
  refine EL.ind (fun x : Nat × Heap × Nat × Nat => { fr := [(1, foF k1 k2), (5, outS x.2.2.2 x.1), (8, .slice oa fs.length c), (9, iv fs.length), (10, iv x.1)], sz := 22, H := x.2.1, n := x.2.2.1, marks := [], vs := [1, 5, 8, 9, 10] }) (fun x => fs.length - x.1) (fun x => x.1 ≤ fs.length ∧ GL (tidy n H) n 36 1 ((foL b l f (fs.take x.1)).map iv) x.1 x.2.1 x.2.2.1 x.2.2.2) (0, tidy n H, n, n) (.keep rfl rfl rfl (by simp) (Sub.refl _)) ⟨Nat.zero_le _, hst⟩ (fun _ => rfl) ?_
  rintro ⟨i, Hx, N, o⟩ ⟨hi, hG⟩
  dsimp only at hi hG ⊢
  have hw : IntKind.i64.wrap ((i : Int) + 1) = (i : Int) + 1 := W_in (by omega) (by omega)
  refine E.seq ?_
  refine E.reg hr (by simp; rfl) ?_ -- region 3
  refine E.seq ?_
  by_cases hil : i < fs.length
  case neg =>
    have hil' : i = fs.length := by omega
    subst hil'
    rw [List.take_length] at hG
    refine E.cond (t := false) (by simp) (fun h => by cases h) (fun _ => ?_)
    refine E.exit ?_ -- 0
    refine E.seq ?_
    refine E.reg hr (by simp; rfl) ?_ -- region 7
    refine E.ret ?_
    exact outK.ret rfl rfl (hG.fresh (Nat.le_refl _) (afL_iv _) fun ρ => ivs_ren ρ _)
  obtain ⟨a, rfl, hf, hc⟩ := hrow i hil
  have hld := load54 (s := none) (hG.sub.cells hc)
  have htk : foL b l f (fs.take (i + 1)) = foL b l f (fs.take i) ++ [foE b l fs[i] (f fs[i].1.toNat)] := by
    rw [List.take_succ_eq_append_getElem hil, foL, List.map_append]; rfl
  have hG2 := hG.skip tidy_lt (.cells [iv fs[i].1, iv fs[i].2] 54) rfl
  have hcall := fun N => hg _ hG2.sub i hil N
  obtain ⟨q, hqq⟩ : ∃ q, fs[i] = q := ⟨_, rfl⟩
  rw [hqq] at hld htk hG2 hcall
  obtain ⟨e, he⟩ : ∃ e, foE b l q (f q.1.toNat) = e := ⟨_, rfl⟩
  rw [he] at htk hcall
  obtain ⟨Hz, happ, hGz⟩ := hG2.app (P := Try.prog) (st := 97) (i := Try.t36) (new := [iv e]) tidy_lt Try.underlying97 inf36 sz36i zo36 by36 (by omega) rfl (by omega) rfl rfl
  have hGz' : GL (tidy n H) n 36 1 ((foL b l f (fs.take (i + 1))).map iv) (i + 1) Hz (N + 1 + 1 + 1) (N + 1 + 1) := by
    rw [htk, List.map_append]; exact hGz
  refine E.cond (t := true) (by simp [hil]) (fun _ => ?_) (fun h => by cases h)
  refine E.skip ?_
  refine E.seq ?_
  refine E.block ?_ -- 1
  refine E.seq ?_
  refine E.reg hr (by simp [-loadA, -flat, hil, hf, hld]; rfl) ?_ -- region 4
  refine E.reg hr (by simp [-builtinA, run_vcall_tmp, vcallF, target, hcall, happ]; rfl) ?_ -- region 5
  refine E.reg hr (by simp [hw]; rfl) ?_ -- region 6
  exact ⟨(i + 1, Hz, N + 1 + 1 + 1, N + 1 + 1), .keep rfl rfl rfl (by simp) (Sub.refl _), ⟨hil, hGz'⟩, by dsimp only; omega⟩
end Go.Proofs.Ytljglocehbccnaa

namespace Go.Proofs.Ytljglocehbccnaa
open Go Go.Ab Go.Proofs
set_option maxRecDepth 20000
theorem w29n : AC Try.prog 29 [.slice none 0 0] [] 0 (iv 0) [] 0 := by
  have hr := recT_ok (P := Try.prog) (l := []) (by simp)
  refine AC.pure Try.func29 rfl (by kernel_rfl) rfl [5, 6, 7] rfl ?_
  refine E.seq ?_
  refine E.reg hr (by simp; rfl) ?_ -- region 0
  refine E.seq ?_
  refine E.seq ?_
  refine E.reg hr (by simp; rfl) ?_ -- region 1
  refine E.block ?_ -- 0
  refine E.loop ?_
  refine EL.ind (fun i : Nat => { fr := [(5, .slice none 0 0), (6, iv 0), (7, iv i)], sz := 15, H := [], n := 0, marks := [], vs := [5, 6, 7] }) (fun _ => 0) (fun _ => True) 0 (.keep rfl rfl rfl (by simp) (Sub.refl _)) trivial (fun _ => rfl) ?_
  intro i _
  refine E.seq ?_
  refine E.reg hr (by simp; rfl) ?_
  refine E.seq ?_
  refine E.cond (t := false) (by simp) (fun h => by cases h) (fun _ => ?_)
  refine E.exit ?_
  refine E.seq ?_
  refine E.reg hr (by simp; rfl) ?_ -- region 7
  refine E.ret ?_
  exact pureK.ret rfl rfl (by simp) (Sub.refl _)
def g29' (args : List Value) (H : Heap) (n : Nat) : R := match args with
  | [.slice none 0 0] => some (iv 0, H, n)
  | _ => g29 args H n
theorem ok29' : EntOk Try.prog (29, g29') := by
  intro args H n v H' n' h
  simp only [g29'] at h
  split at h
  · injection h with h; injection h with e1 e2; injection e2 with e2 e3; subst e1 e2 e3
    exact AC.liftP rfl (Part.plain (by simp) [] (by simp [Seen]) gsz ⟨_, _, w29n⟩)
  · exact ok29 args H n v H' n' h
def firE (T : Int) (fs : List Fir) : Int := if 256 < fs.length then 5 else scanV (fun i => fiE T i (fs.getD i (0, 0))) fs.length
def cfE (b : Brg) (l : List Sg) (fs : List Fir) : Int := if firE b.t fs = 0 then firstV (foL b l (levV b l) fs) else firE b.t fs
theorem firE0 {T : Int} {fs : List Fir} (hT : 1 ≤ T ∧ T ≤ 4096) (h : firE T fs = 0) : ∀ j (hj : j < fs.length), 0 ≤ fs[j].1 ∧ fs[j].1 < T ∧ 1 ≤ fs[j].2 ∧ fs[j].2 ≤ 1001 := fun j hj => by
  unfold firE at h
  split at h
  · cases h
  · have h2 := scanV_all h j hj
    rw [List.getD_eq_getElem?_getD, List.getElem?_eq_getElem hj] at h2
    unfold fiE at h2
    obtain ⟨h3, h2⟩ := first0' h2
    obtain ⟨h4, _⟩ := first0' h2
    have h5 := within0' h3
    have h6 := within0' h4
    rw [show IntKind.i64.wrap (T - 1) = T - 1 from W_in (by omega) (by omega)] at h5
    simp only [Option.getD_some] at h5 h6
    omega
def g33 (args : List Value) (H : Heap) (n : Nat) : R := match args with
  | [v, .func (.func 34) ⟨[]⟩ ⟨[.pointer (some ⟨k1, 0, none⟩), .pointer (some ⟨k2, 0, none⟩)]⟩] => match hget H k1 with
    | some (.cells [.slice (some ⟨m, 0, none⟩) T1 T2] 35) => match hget H m with
      | some (.cells R 3) => (intsOf R).bind fun xs => if T1 = xs.length ∧ T2 = xs.length then match hget H k2 with
        | some (.cells [.int .i64 r, .int .i64 s, .int .i64 l, .int .i64 c, .int .i64 f, .int .i64 x, .int .i64 y, .int .i64 dx, .int .i64 dy, .int .i64 t, .slice oa L cp] 84) => (sigV H (.slice oa L cp)).bind fun q => (firV H v).bind fun fs => if (∀ p ∈ fs, 0 ≤ p.1 ∧ p.1 < xs.length) then
            some (outS n fs.length, outSB n 36 1 fs.length ((foL ⟨r, s, l, c, f, x, y, dx, dy, t⟩ q (fun i => xs.getD i 0) fs).map iv) ++ H, n + 1) else none
        | _ => none
        else none
      | _ => none
    | _ => none
  | _ => none
theorem ok33 : EntOk Try.prog (33, g33) := by
  intro args H n v H' n' h
  simp only [g33] at h
  split at h
  · split at h
    · rename_i m T1 T2 hk
      split at h
      · rename_i R hm
        rw [Option.bind_eq_some_iff] at h
        obtain ⟨xs, hx, h⟩ := h
        split at h
        · rename_i hT
          obtain ⟨rfl, rfl⟩ := hT
          split at h
          · rename_i hk2
            rw [Option.bind_eq_some_iff] at h
            obtain ⟨q, hS, h⟩ := h
            rw [Option.bind_eq_some_iff] at h
            obtain ⟨fs, hV, h⟩ := h
            split at h
            · rename_i hq
              injection h with h; injection h with e1 e2; injection e2 with e2 e3; subst e1 e2 e3
              have hR := intsOf_ok _ _ hx
              subst hR
              exact w33 (b := ⟨_, _, _, _, _, _, _, _, _, _⟩) (f := fun i => xs.getD i 0) hk hm (fun i hi => by
                rw [List.getElem?_map, List.getD_eq_getElem?_getD, List.getElem?_eq_getElem hi]; rfl) hk2 hS hV fun j hj => hq _ (List.getElem_mem hj)
            · cases h
          · cases h
        · cases h
      · cases h
    · cases h
  · cases h
end Go.Proofs.Ytljglocehbccnaa

namespace Go.Proofs.Ytljglocehbccnaa
open Go Go.Ab Go.Proofs
set_option maxRecDepth 20000
theorem foL_congr {b : Brg} {l : List Sg} {f g : Nat → Int} {fs : List Fir} (h : ∀ q ∈ fs, f q.1.toNat = g q.1.toNat) : foL b l f fs = foL b l g fs := List.map_congr_left fun q hq => by rw [h q hq]
theorem g29_out {N : Nat} {xs : List Int} {Z : Heap} {M : Nat} (hl : xs.length < 2147483648) : g29' [outS N xs.length] (outSB N 36 1 xs.length (xs.map iv) ++ Z) M = some (iv (firstV xs), outSB N 36 1 xs.length (xs.map iv) ++ Z, M) := by
  by_cases h : xs.length = 0
  · have : xs = [] := List.length_eq_zero_iff.1 h
    subst this
    rfl
  · rw [outS_ne h, outSB, if_neg h]
    show (intsAt ((N, .ext (xs.map iv) 36 1) :: Z) ⟨N, 0, some 0⟩ xs.length).map _ = _
    have : intsAt ((N, .ext (xs.map iv) 36 1) :: Z) ⟨N, 0, some 0⟩ xs.length = some xs := by
      unfold intsAt
      rw [flat_z, (blt_iff _ _).2 hl]
      simp only [Bool.and_self, if_true]
      rw [cellsA_eq, hget_cons, if_pos rfl]
      simp only [Option.bind_some, cellsB]
      rw [if_pos (by simp), List.drop_zero, List.take_of_length_le (by simp)]
      exact intsOf_iv xs
    rw [this]
    rfl
theorem sub_sb {m t sz k : Nat} {cs : List Value} {H Z : Heap} (hs : Sub H Z) (hZ : hget H m = none) : Sub H (outSB m t sz k cs ++ Z) := fun j b hj => by
  unfold outSB
  split
  · exact hs j b hj
  · show hget ((m, _) :: Z) j = _
    rw [hget_cons, if_neg fun e => by rw [e] at hZ; rw [hZ] at hj; cases hj]
    exact hs j b hj
theorem w12 {H : Heap} {n : Nat} {v u : Value} (b : Brg) {l : List Sg} {fs : List Fir} (hV : sigV H v = some l) (hF : firV H u = some fs) (hE : brE b l = 0) : AC Try.prog 12 [.agg ⟨[iv b.x, iv b.y, iv b.dx, iv b.dy, iv b.t]⟩, .agg ⟨[iv b.r, iv b.s, iv b.l, iv b.c, iv b.f]⟩, v, u] H n (iv (cfE b l fs)) H n := by
  refine AC.given fun hold hsc hgn => AC.tidied (B := []) (by simp) ?_
  replace hV : sigV (tidy n H) v = some l := listV_tidy decG_tidy (fun k b h => (hold k b h).1) hV
  replace hF : firV (tidy n H) u = some fs := listV_tidy decF_tidy (fun k b h => (hold k b h).1) hF
  obtain ⟨h0, h1⟩ := brE0 hE
  have hr := recT_ok (P := Try.prog) (l := [(24, g24), (30, g30), (29, g29'), (26, g26), (33, g33)]) (by simp only [List.forall_mem_cons]; exact ⟨ok24, ok30, ok29', ok26, ok33, by simp⟩)
  obtain ⟨oa, c, rfl, hlt, hrow⟩ := sigV_form hV
  obtain ⟨ob, d, rfl, hlt2, _⟩ := firV_form hF
  obtain ⟨R, hR⟩ : ∃ R, levL b l = R := ⟨_, rfl⟩
  obtain ⟨T, hT⟩ := Int.eq_ofNat_of_zero_le (show 0 ≤ b.t by omega)
  have hTn : b.t.toNat = T := by omega
  obtain ⟨xs, hxsd⟩ : ∃ xs, (List.range T).map (levV b l) = xs := ⟨_, rfl⟩
  have hxl : xs.length = T := by rw [← hxsd]; simp
  have hxs : intsOf R = some xs := by
    rw [← hR, levL, hTn, show (fun t => iv (levV b l t)) = iv ∘ levV b l from rfl, ← List.map_map, hxsd]
    exact intsOf_iv _
  have hxg : ∀ i, i < T → xs.getD i 0 = levV b l i := fun i hi => by
    rw [← hxsd, List.getD_eq_getElem?_getD, List.getElem?_map, List.getElem?_range hi]
    rfl
  have h24 : ∀ y z m, g24 [.agg ⟨[iv b.x, iv b.y, iv b.dx, iv b.dy, iv b.t]⟩, .agg ⟨[iv b.r, iv b.s, iv b.l, iv b.c, iv b.f]⟩, .slice oa l.length c] ((n + 1, y) :: (n, z) :: tidy n H) m = some (.tuple #[b.val (.slice oa l.length c), iv 0], (n + 1, y) :: (n, z) :: tidy n H, m) := fun y z m => by
    have : sigV ((n + 1, y) :: (n, z) :: tidy n H) (.slice oa l.length c) = some l := listV_mono decG_mono (Sub.cons (by simp) (Sub.cons (by simp) (Sub.refl _))) hV
    simp only [g24]
    rw [this, ← hE]
    rfl
  have h30 : ∀ x y m, g30 [.slice ob fs.length d, iv 256, fiF n] ((n + 1 + 1, x) :: (n + 1, y) :: (n, .cells [iv b.x, iv b.y, iv b.dx, iv b.dy, iv b.t] 42) :: tidy n H) m = some (iv (firE b.t fs), (n + 1 + 1, x) :: (n + 1, y) :: (n, .cells [iv b.x, iv b.y, iv b.dx, iv b.dy, iv b.t] 42) :: tidy n H, m) := fun x y m => by
    have : firV ((n + 1 + 1, x) :: (n + 1, y) :: (n, .cells [iv b.x, iv b.y, iv b.dx, iv b.dy, iv b.t] 42) :: tidy n H) (.slice ob fs.length d) = some fs := listV_mono decF_mono (Sub.cons (by simp) (Sub.cons (by simp) (Sub.cons (by simp) (Sub.refl _)))) hF
    have e1 : hget ((n + 1 + 1, x) :: (n + 1, y) :: (n, .cells [iv b.x, iv b.y, iv b.dx, iv b.dy, iv b.t] 42) :: tidy n H) n = some (.cells [iv b.x, iv b.y, iv b.dx, iv b.dy, iv b.t] 42) := by rw [hget_cons, if_neg (by omega), hget_cons, if_neg (by omega), hget_cons, if_pos rfl]
    simp only [g30]
    rw [e1]
    show (firV _ (.slice ob fs.length d)).map _ = _
    rw [this]
    rfl
  have h26 : ∀ w x y z m, g26 [.agg ⟨[iv b.r, iv b.s, iv b.l, iv b.c, iv b.f, iv b.x, iv b.y, iv b.dx, iv b.dy, iv b.t, .slice oa l.length c]⟩] ((n + 1 + 1 + 1, w) :: (n + 1 + 1, x) :: (n + 1, y) :: (n, z) :: tidy n H) m = some (.slice (some ⟨m, 0, none⟩) T T, (m, .cells R 3) :: (n + 1 + 1 + 1, w) :: (n + 1 + 1, x) :: (n + 1, y) :: (n, z) :: tidy n H, m + 1) := fun w x y z m => by
    have : sigV ((n + 1 + 1 + 1, w) :: (n + 1 + 1, x) :: (n + 1, y) :: (n, z) :: tidy n H) (.slice oa l.length c) = some l := listV_mono decG_mono (Sub.cons (by simp) (Sub.cons (by simp) (Sub.cons (by simp) (Sub.cons (by simp) (Sub.refl _))))) hV
    simp only [g26]
    rw [this, if_pos ⟨by omega, h1⟩, ← hR, hTn]
    rfl
  obtain ⟨E0, hE0⟩ : ∃ E0, firE b.t fs = E0 := ⟨_, rfl⟩
  have hcf : cfE b l fs = if E0 = 0 then firstV (foL b l (levV b l) fs) else E0 := by unfold cfE; rw [hE0]
  rw [hcf]
  rw [hE0] at h30
  unfold Brg.val at h24
  have hfirst : firstV [0, E0] = E0 := by simp only [firstV]; split <;> simp_all
  refine AC.pure Try.func12 rfl (by kernel_rfl) rfl [3, 4, 5, 9] rfl ?_
  refine E.seq ?_
  refine E.reg hr (by simp; rfl) ?_ -- region 0
  refine E.seq ?_
  refine E.reg hr (by simp [h24]; rfl) ?_ -- region 1
  refine E.seq ?_
  refine E.seq ?_
  refine E.reg hr (by simp [opMakefunc, h30, g29', g29, intsAt, intsOf, flat, hfirst]; rfl) ?_ -- region 2
  refine E.seq ?_
  refine E.reg hr (by simp; rfl) ?_ -- region 3
  by_cases hz : E0 = 0
  case neg =>
    rw [if_neg hz]
    refine E.cond (t := true) (by simp [hz]) (fun _ => ?_) (fun h => by cases h)
    refine E.seq ?_
    refine E.reg hr (by simp; rfl) ?_ -- region 4
    refine E.ret ?_
    exact pureK.ret rfl rfl (by simp) (by repeat first | exact Sub.refl _ | refine Sub.cons (by simp) ?_)
  rw [if_pos hz]
  subst hz
  have hq := firE0 ⟨h0, h1⟩ hE0
  have hq2 : ∀ p ∈ fs, 0 ≤ p.1 ∧ p.1 < xs.length := fun p hp => by
    obtain ⟨j, hj, rfl⟩ := List.getElem_of_mem hp
    have := hq j hj
    rw [hxl]
    omega
  have hfo : foL b l (fun i => xs.getD i 0) fs = foL b l (levV b l) fs := foL_congr fun q hq' => by
    have := hq2 q hq'
    exact hxg _ (by rw [hxl] at this; omega)
  obtain ⟨F, hFF⟩ : ∃ F, foL b l (levV b l) fs = F := ⟨_, rfl⟩
  have hFl : F.length = fs.length := by rw [← hFF]; simp [foL]
  rw [hFF] at hfo ⊢
  have h33 : ∀ w y z N, g33 [.slice ob fs.length d, foF (n + 1 + 1 + 1 + 1 + 1) (n + 1 + 1)] ((n + 1 + 1 + 1 + 1 + 1, .cells [.slice (some ⟨n + 1 + 1 + 1 + 1, 0, none⟩) T T] 35) :: (n + 1 + 1 + 1 + 1, .cells R 3) :: (n + 1 + 1 + 1, w) :: (n + 1 + 1, .cells [iv b.r, iv b.s, iv b.l, iv b.c, iv b.f, iv b.x, iv b.y, iv b.dx, iv b.dy, iv b.t, .slice oa l.length c] 84) :: (n + 1, y) :: (n, z) :: tidy n H) N = some (outS N F.length, outSB N 36 1 F.length (F.map iv) ++ ((n + 1 + 1 + 1 + 1 + 1, .cells [.slice (some ⟨n + 1 + 1 + 1 + 1, 0, none⟩) T T] 35) :: (n + 1 + 1 + 1 + 1, .cells R 3) :: (n + 1 + 1 + 1, w) :: (n + 1 + 1, .cells [iv b.r, iv b.s, iv b.l, iv b.c, iv b.f, iv b.x, iv b.y, iv b.dx, iv b.dy, iv b.t, .slice oa l.length c] 84) :: (n + 1, y) :: (n, z) :: tidy n H), N + 1) := fun w y z N => by
    obtain ⟨Z, hZ⟩ : ∃ Z, ((n + 1 + 1 + 1 + 1 + 1, Blk.cells [.slice (some ⟨n + 1 + 1 + 1 + 1, 0, none⟩) T T] 35) :: (n + 1 + 1 + 1 + 1, Blk.cells R 3) :: (n + 1 + 1 + 1, w) :: (n + 1 + 1, Blk.cells [iv b.r, iv b.s, iv b.l, iv b.c, iv b.f, iv b.x, iv b.y, iv b.dx, iv b.dy, iv b.t, .slice oa l.length c] 84) :: (n + 1, y) :: (n, z) :: tidy n H) = Z := ⟨_, rfl⟩
    have hs : Sub (tidy n H) Z := by rw [← hZ]; repeat first | exact Sub.refl _ | refine Sub.cons (by simp) ?_
    have e1 : hget Z (n + 1 + 1 + 1 + 1 + 1) = some (.cells [.slice (some ⟨n + 1 + 1 + 1 + 1, 0, none⟩) T T] 35) := by rw [← hZ, hget_cons, if_pos rfl]
    have e2 : hget Z (n + 1 + 1 + 1 + 1) = some (.cells R 3) := by rw [← hZ, hget_cons, if_neg (by omega), hget_cons, if_pos rfl]
    have e3 : hget Z (n + 1 + 1) = some (.cells [iv b.r, iv b.s, iv b.l, iv b.c, iv b.f, iv b.x, iv b.y, iv b.dx, iv b.dy, iv b.t, .slice oa l.length c] 84) := by rw [← hZ, hget_cons, if_neg (by omega), hget_cons, if_neg (by omega), hget_cons, if_neg (by omega), hget_cons, if_pos rfl]
    have e4 : sigV Z (.slice oa l.length c) = some l := listV_mono decG_mono hs hV
    have e5 : firV Z (.slice ob fs.length d) = some fs := listV_mono decF_mono hs hF
    rw [hZ]
    simp only [g33]
    rw [e1]
    show (match hget Z (n + 1 + 1 + 1 + 1) with | some (.cells R 3) => _ | _ => none) = _
    rw [e2]
    show (intsOf R).bind _ = _
    rw [hxs, Option.bind_some, if_pos ⟨hxl.symm, hxl.symm⟩, e3]
    show (sigV Z (.slice oa l.length c)).bind _ = _
    rw [e4, Option.bind_some, e5, Option.bind_some, if_pos hq2]
    rw [← hFl]
    show some (outS N F.length, outSB N 36 1 F.length ((foL b l (fun i => xs.getD i 0) fs).map iv) ++ Z, N + 1) = _
    rw [hfo]
  refine E.cond (t := false) (by simp) (fun h => by cases h) (fun _ => ?_)
  refine E.skip ?_
  refine E.seq ?_
  refine E.reg hr (by simp [h26]; rfl) ?_ -- region 5
  refine E.seq ?_
  have hg29 := fun N Z M => g29_out (N := N) (xs := F) (Z := Z) (M := M) (by omega)
  refine E.reg hr (by simp [opMakefunc, h33, hg29]; rfl) ?_ -- region 6
  refine E.ret ?_
  refine pureK.ret rfl rfl (by simp) ?_
  exact sub_sb (by repeat first | exact Sub.refl _ | refine Sub.cons (by simp) ?_) (namesOk_none namesOk_tidy _ (by omega))
end Go.Proofs.Ytljglocehbccnaa

namespace Go.Proofs.Ytljglocehbccnaa
open Go Go.Ab Go.Proofs
set_option maxRecDepth 20000
/-! ### the ticks of a line -/
def tkV (s f d u e : Int) (i : Nat) : Int := IntKind.i64.wrap (s + IntKind.i64.wrap ((IntKind.i64.wrap (IntKind.i64.wrap (IntKind.i64.wrap (IntKind.i64.wrap (f + IntKind.i64.wrap (i * d)) * e) + u) - 1)).tdiv u))
def gapV (t : Nat → Int) (k : Nat) : Bool := (List.range k).any fun i => decide (IntKind.i64.wrap (t (i + 1) - t i) < 8)
def tkE (s f d p u e : Int) : Int :=
  if lineV s f d p u e ≠ 0 then lineV s f d p u e else if 100000 < tkV s f d u e (p.toNat - 1) then 4 else if gapV (tkV s f d u e) (p.toNat - 1) = true then 21 else 0
def tkK (s f d p u e : Int) : Nat := if tkE s f d p u e = 0 then p.toNat else 0
def tkL (t : Nat → Int) (k : Nat) : List Value := rl (fun i => iv (t i)) k
theorem tkL_len (t : Nat → Int) (k : Nat) : (tkL t k).length = k := by simp [tkL, rl]
theorem tkL_at {t : Nat → Int} {k i : Nat} (h : i < k) : (tkL t k)[i]? = some (iv (t i)) := by
  unfold tkL rl
  rw [List.getElem?_map, List.getElem?_range h]; rfl
theorem tkL_af (t : Nat → Int) (k : Nat) : afL (tkL t k) = true := by
  unfold tkL rl
  rw [show (fun i => iv (t i)) = iv ∘ t from rfl, ← List.map_map]
  exact afL_iv _
theorem tkL_ren (t : Nat → Int) (k : Nat) (ρ : Nat → Nat) : renL ρ (tkL t k) = tkL t k := renL_afl ρ _ fun v hv => by
  unfold tkL rl at hv
  rw [List.mem_map] at hv
  obtain ⟨t, _, rfl⟩ := hv
  rfl
theorem tkL_succ (t : Nat → Int) (k : Nat) : tkL t (k + 1) = tkL t k ++ [iv (t k)] := rl_succ _ _
theorem sz3i : Try.t3.size = 1 := by kernel_rfl
theorem by3 : Try.t3.bytes ≤ 128 := by decide +kernel
theorem zo3 : zeroOk Try.t3 = true := by kernel_rfl
theorem within0 {a lo hi : Int} (h : withinV a lo hi = 0) : lo ≤ a ∧ a ≤ hi := by
  unfold withinV at h
  split at h
  · cases h
  · omega
theorem first0 {e : Int} {l : List Int} (h : firstV (e :: l) = 0) : e = 0 ∧ firstV l = 0 := by
  rw [firstV] at h
  split at h
  · rename_i h0; exact ⟨h0, h⟩
  · rename_i h0; exact absurd h h0
theorem line0 {s f d p u e : Int} (h : lineV s f d p u e = 0) : (0 ≤ s ∧ s ≤ 100000) ∧ (0 ≤ f ∧ f ≤ 100000) ∧ (1 ≤ d ∧ d ≤ 100000) ∧ (1 ≤ p ∧ p ≤ 256) ∧ (1 ≤ u ∧ u ≤ 1000) ∧ (1 ≤ e ∧ e ≤ 1000) := by
  unfold lineV at h
  obtain ⟨h1, h⟩ := first0 h
  obtain ⟨h2, h⟩ := first0 h
  obtain ⟨h3, h⟩ := first0 h
  obtain ⟨h4, h⟩ := first0 h
  obtain ⟨h5, h⟩ := first0 h
  obtain ⟨h6, h⟩ := first0 h
  exact ⟨within0 h1, within0 h2, within0 h3, within0 h4, within0 h5, within0 h6⟩
theorem w7 {H : Heap} {n : Nat} (s f d p u e : Int) : AC Try.prog 7 [.agg ⟨[iv s, iv f, iv d, iv p, iv u, iv e]⟩] H n (.tuple #[outS n (tkK s f d p u e), iv (tkE s f d p u e)]) (outSB n 3 1 (tkK s f d p u e) (tkL (tkV s f d u e) (tkK s f d p u e)) ++ H) (n + 1) := by
  refine AC.given fun hold hsc hgn => AC.tidied outSB_ge ?_
  have hr := recT_ok (P := Try.prog) (l := [(23, g23)]) (by simp [ok23])
  refine AC.grownE Try.func7 rfl (by kernel_rfl) rfl [1, 5, 15, 16, 53, 54] ?_
  obtain ⟨E0, hE0⟩ : ∃ E0, lineV s f d p u e = E0 := ⟨_, rfl⟩
  have hg : ∀ H n, g23 [.agg ⟨[iv s, iv f, iv d, iv p, iv u, iv e]⟩] H n = some (iv E0, H, n) := fun H n => by rw [← hE0]; rfl
  refine E.seq ?_
  refine E.reg hr (by simp; rfl) ?_ -- region 0
  refine E.seq ?_
  refine E.seq ?_
  refine E.reg hr (by simp [hg]; rfl) ?_ -- region 1
  refine E.seq ?_
  refine E.reg hr (by simp; rfl) ?_ -- region 2
  by_cases hE : E0 = 0
  case neg =>
    have h1 : tkE s f d p u e = E0 := by unfold tkE; rw [hE0, if_pos hE]
    have h2 : tkK s f d p u e = 0 := by unfold tkK; rw [h1, if_neg hE]
    rw [h1, h2]
    refine E.cond (t := true) (by simp [hE]) (fun _ => ?_) (fun h => by cases h)
    refine E.seq ?_
    refine E.reg hr (by simp; rfl) ?_ -- region 3
    refine E.ret ?_
    exact outK.ret rfl rfl ((fresh_none (Sub.cons (by simp) (Sub.refl _))).pair E0)
  obtain ⟨hs, hf, hd, hp, hu, he⟩ := line0 (hE0.trans hE)
  refine E.cond (t := false) (by simp [hE]) (fun h => by cases h) (fun _ => ?_)
  obtain ⟨k, rfl⟩ := Int.eq_ofNat_of_zero_le (show 0 ≤ p by omega)
  have hpk : (k : Int).toNat = k := rfl
  obtain ⟨t, ht⟩ : ∃ t, tkV s f d u e = t := ⟨_, rfl⟩
  have htv : ∀ i : Nat, IntKind.i64.wrap (s + IntKind.i64.wrap ((IntKind.i64.wrap (IntKind.i64.wrap (IntKind.i64.wrap (IntKind.i64.wrap (f + IntKind.i64.wrap (i * d)) * e) + u) - 1)).tdiv u)) = t i := fun i => by rw [← ht]; rfl
  have hu0 : u ≠ 0 := by omega
  have hk1 : 1 ≤ k := by omega
  refine E.skip ?_
  refine E.seq ?_
  refine E.reg hr (by simp; rfl) ?_ -- region 4
  refine E.seq ?_
  refine E.seq ?_
  refine E.reg hr (by simp; rfl) ?_ -- region 5
  refine E.block ?_ -- 0
  refine E.loop ?_
  have hL : ∀ j b, hget ((n, Blk.cells [iv s, iv f, iv d, iv k, iv u, iv e] 34) :: tidy n H) j = some b → j < n + 1 := fun j b hj => by
    rw [hget_cons] at hj
    split at hj
    · omega
    · have := tidy_lt j b hj; omega
  have hst : GL ((n, Blk.cells [iv s, iv f, iv d, iv k, iv u, iv e] 34) :: tidy n H) (n + 1) 3 1 (tkL t 0) 0 ((n, Blk.cells [iv s, iv f, iv d, iv k, iv u, iv e] 34) :: tidy n H) (n + 1) (n + 1) := GL.start (Sub.refl _) (namesOk_put (by omega) (namesOk_mono (by omega) _ namesOk_tidy)) (Nat.le_refl _) (by simp)
  refine EL.ind (fun x : Nat × Heap × Nat × Nat => { fr := [(1, .pointer (some ⟨n, 0, none⟩)), (5, outS x.2.2.2 x.1), (15, iv k), (16, iv x.1)], sz := 70, H := x.2.1, n := x.2.2.1, marks := [], vs := [1, 5, 15, 16, 53, 54] }) (fun x => k - x.1) (fun x => x.1 ≤ k ∧ GL ((n, Blk.cells [iv s, iv f, iv d, iv k, iv u, iv e] 34) :: tidy n H) (n + 1) 3 1 (tkL t x.1) x.1 x.2.1 x.2.2.1 x.2.2.2) (0, (n, Blk.cells [iv s, iv f, iv d, iv k, iv u, iv e] 34) :: tidy n H, n + 1, n + 1) (.keep rfl rfl rfl (by simp) (Sub.refl _)) ⟨Nat.zero_le _, hst⟩ (fun _ => rfl) ?_
  rintro ⟨i, Hx, N, o⟩ ⟨hi, hG⟩
  dsimp only at hi hG ⊢
  have hw : IntKind.i64.wrap ((i : Int) + 1) = (i : Int) + 1 := W_in (by omega) (by omega)
  have hbx : hget Hx n = some (.cells [iv s, iv f, iv d, iv k, iv u, iv e] 34) := hG.sub n _ (by rw [hget_cons, if_pos rfl])
  have hnN : n < N := by have := hG.big; omega
  have hnN2 : ¬ N = n := by omega
  have hnm := hG.nm
  refine E.seq ?_
  refine E.reg hr (by simp; rfl) ?_ -- region 6
  refine E.seq ?_
  by_cases hil : i < k
  · obtain ⟨Hz, happ, hGz⟩ := hG.app (P := Try.prog) (st := 35) (i := Try.t3) (new := [iv (t i)]) hL Try.underlying35 inf3 sz3i zo3 by3 (by omega) rfl (by omega) rfl rfl
    rw [← tkL_succ] at hGz
    have hti := htv i
    have hnm1 : namesOk (N + 1) Hx = true := namesOk_mono (by omega) _ hnm
    have hnmz := hGz.nm
    have hx0 : cellA Hx n 0 = some (iv s) := by rw [cellA_eq, hbx]; rfl
    have hx4 : cellA Hx n 4 = some (iv u) := by rw [cellA_eq, hbx]; rfl
    refine E.cond (t := true) (by simp [hil]) (fun _ => ?_) (fun h => by cases h)
    refine E.skip ?_
    refine E.seq ?_
    refine E.block ?_ -- 1
    refine E.seq ?_
    refine E.reg hr (by simp; rfl) ?_ -- region 7
    refine E.seq ?_
    refine E.reg hr (by simp [hbx]; rfl) ?_ -- region 8
    refine E.drawU mixed hr [12, 13] [12, 13] [2, 5, 9, 12, 13] (by kernel_rfl) (by simp [-readA, -cellA, -builtinA, cellA_read, hx0, hx4, hnm, hnm1, hnmz, hnN, bin_quo hu0, hti, happ]; rfl) ?_ -- region 9
    refine E.reg hr (by simp [hw]; rfl) ?_ -- region 10
    exact ⟨(i + 1, Hz, N + 1 + 1, N + 1), .keep rfl rfl rfl (by simp) (Sub.refl _), ⟨hil, hGz⟩, by dsimp only; omega⟩
  have hik : i = k := by omega
  subst hik
  have hk0 : i ≠ 0 := by omega
  obtain ⟨ho, hoN⟩ := hG.out hk0
  have hcell : ∀ j, j < i → cellA Hx o j = some (iv (t j)) := fun j hj => by
    rw [cellA_eq, ho]; exact tkL_at hj
  have hGo := hG.low
  refine E.cond (t := false) (by simp) (fun h => by cases h) (fun _ => ?_)
  refine E.exit ?_ -- 0
  refine E.seq ?_
  refine E.seq ?_
  have hw1 : IntKind.i64.wrap ((i : Int) - 1) = ((i - 1 : Nat) : Int) := by rw [show (i : Int) - 1 = ((i - 1 : Nat) : Int) by omega]; exact W_in (by omega) (by omega)
  have hlast := hcell (i - 1) (by omega)
  have hi1 : i - 1 < i := by omega
  rw [outS_ne hk0]
  refine E.reg hr (by simp [-cellA, hw1, hi1, hlast]; rfl) ?_ -- region 11
  have hsubL : Sub (tidy n H) Hx := Sub.trans (Sub.cons (by simp) (Sub.refl _)) hG.sub
  have htn : i - 1 = (i : Int).toNat - 1 := by omega
  by_cases h4 : 100000 < t (i - 1)
  · have h1 : tkE s f d i u e = 4 := by unfold tkE; rw [hE0, if_neg (fun h => h hE), ht, if_pos (by rw [← htn]; exact h4)]
    have h2 : tkK s f d i u e = 0 := by unfold tkK; rw [h1]; rfl
    rw [h1, h2]
    refine E.cond (t := true) (by simp [h4]) (fun _ => ?_) (fun h => by cases h)
    refine E.seq ?_
    refine E.reg hr (by simp; rfl) ?_ -- region 12
    refine E.ret ?_
    exact outK.ret rfl rfl ((fresh_none hsubL).pair 4)
  refine E.cond (t := false) (by simp [h4]) (fun h => by cases h) (fun _ => ?_)
  refine E.skip ?_
  refine E.seq ?_
  refine E.seq ?_
  refine E.reg hr (by simp [hw1]; rfl) ?_ -- region 13
  refine E.block ?_ -- 2
  refine E.loop ?_
  refine EL.ind (fun j : Nat => { fr := [(5, .slice (some ⟨o, 0, some 0⟩) i 0), (53, iv ((i - 1 : Nat) : Int)), (54, iv j)], sz := 70, H := Hx, n := N, marks := [], vs := [1, 5, 15, 16, 53, 54] }) (fun j => i - 1 - j) (fun j => j ≤ i - 1 ∧ ∀ m, m < j → ¬ IntKind.i64.wrap (t (m + 1) - t m) < 8) 0 (.keep rfl rfl rfl (by simp) (Sub.refl _)) ⟨Nat.zero_le _, fun m hm => by omega⟩ (fun _ => rfl) ?_
  rintro j ⟨hj, hgj⟩
  have hw2 : IntKind.i64.wrap ((j : Int) + 1) = (j : Int) + 1 := W_in (by omega) (by omega)
  refine E.seq ?_
  refine E.reg hr (by simp; rfl) ?_ -- region 14
  refine E.seq ?_
  by_cases hjl : j < i - 1
  · have hjI : (j : Int) + 1 < i := by omega
    have hji : j < i := by omega
    have hc1 := hcell (j + 1) (by omega)
    have hc2 := hcell j hji
    obtain ⟨D, hD⟩ : ∃ D, IntKind.i64.wrap (t (j + 1) - t j) = D := ⟨_, rfl⟩
    refine E.cond (t := true) (by simp [hjl]) (fun _ => ?_) (fun h => by cases h)
    refine E.skip ?_
    refine E.seq ?_
    refine E.block ?_ -- 3
    refine E.seq ?_
    refine E.reg hr (by simp; rfl) ?_ -- region 15
    refine E.seq ?_
    refine E.drawU mixed hr [] [] [4, 8] (by kernel_rfl) (by simp [-readA, -cellA, cellA_read, hnm, hoN, hw2, hjI, hji, hc1, hc2, hD]; rfl) ?_ -- region 16
    by_cases h8 : D < 8
    · have hgap : gapV t (i - 1) = true := by
        unfold gapV
        rw [List.any_eq_true]
        exact ⟨j, List.mem_range.2 hjl, by rw [hD]; exact decide_eq_true h8⟩
      have h1 : tkE s f d i u e = 21 := by unfold tkE; rw [hE0, if_neg (fun h => h hE), ht, ← htn, if_neg h4, if_pos hgap]
      have h2 : tkK s f d i u e = 0 := by unfold tkK; rw [h1]; rfl
      rw [h1, h2]
      refine E.cond (t := true) (by simp [h8]) (fun _ => ?_) (fun h => by cases h)
      refine E.seq ?_
      refine E.reg hr (by simp; rfl) ?_ -- region 17
      refine E.ret ?_
      exact outK.ret rfl rfl ((fresh_none hsubL).pair 21)
    · refine E.cond (t := false) (by simp [h8]) (fun h => by cases h) (fun _ => ?_)
      refine E.skip ?_
      refine E.reg hr (by simp [hw2]; rfl) ?_ -- region 18
      exact ⟨j + 1, .keep rfl rfl rfl (by simp) (Sub.refl _), ⟨hjl, fun m hm => if e' : m = j then by subst e'; rw [hD]; exact h8 else hgj m (by omega)⟩, by dsimp only; omega⟩
  have hgap : gapV t (i - 1) = false := by
    unfold gapV
    rw [List.any_eq_false]
    intro m hm
    rw [List.mem_range] at hm
    simpa using hgj m (by omega)
  have h1 : tkE s f d i u e = 0 := by unfold tkE; rw [hE0, if_neg (fun h => h hE), ht, ← htn, if_neg h4, hgap, if_neg (by simp)]
  have h2 : tkK s f d i u e = i := by unfold tkK; rw [h1, if_pos rfl]; rfl
  rw [h1, h2]
  refine E.cond (t := false) (by simp [hjl]) (fun h => by cases h) (fun _ => ?_)
  refine E.exit ?_ -- 2
  refine E.seq ?_
  refine E.reg hr (by simp; rfl) ?_ -- region 19
  refine E.ret ?_
  have hfr := ((hG.fresh (n0 := n) (by omega) (tkL_af t i) fun ρ => tkL_ren t i ρ).lower (Sub.cons (b := .cells [iv s, iv f, iv d, iv i, iv u, iv e] 34) (by simp) (Sub.refl (tidy n H)))).pair 0
  rw [outS_ne (o := o) hk0, ← ht] at hfr
  exact outK.ret rfl rfl hfr
end Go.Proofs.Ytljglocehbccnaa

namespace Go.Proofs.Ytljglocehbccnaa
open Go Go.Ab Go.Proofs
def orc0 : Oracle := fun _ _ _ _ => none
theorem orc0_ok : OracleOk Try.prog orc0 := by
  intro f args H n v H' n' h
  cases h
def isTrue : R → Bool
  | some (.bool b, _, _) => b
  | _ => false
theorem startRun : isTrue ((ev Try.prog orc0 100000).call 6 [] [] 0) = true := by kernel_rfl
theorem w6 : AC Try.prog 6 [] [] 0 (.bool true) [] 0 := by
  have hr := ev_sound mixed orc0_ok 100000
  have h := startRun
  unfold isTrue at h
  split at h
  · rename_i b H1 n1 he
    subst h
    exact (hr.call _ _ _ _ _ _ _ he).tidy rfl (fun k b hk => by cases hk)
  · cases h
def g6 (args : List Value) (H : Heap) (n : Nat) : R := match args with
  | [] => some (.bool true, H, n)
  | _ => none
theorem ok6 : EntOk Try.prog (6, g6) := by
  intro args H n v H' n' h
  simp only [g6] at h
  split at h
  · injection h with h; injection h with e1 e2; injection e2 with e2 e3; subst e1 e2 e3
    exact AC.liftP rfl (Part.plain (by simp) [] (by simp [Seen]) gsz ⟨_, _, w6⟩)
  · cases h
end Go.Proofs.Ytljglocehbccnaa

namespace Go.Proofs.Ytljglocehbccnaa
open Go Go.Ab Go.Proofs
set_option maxRecDepth 20000
def g9 (args : List Value) (H : Heap) (n : Nat) : R := match args with
  | [v] => (sigV H v).map fun l => (outS n l.length, outSB n 90 3 l.length (sgs l) ++ H, n + 1)
  | _ => none
theorem ok9 : EntOk Try.prog (9, g9) := by
  intro args H n v H' n' h
  simp only [g9] at h
  split at h
  · rw [Option.map_eq_some_iff] at h
    obtain ⟨l, h4, h⟩ := h
    injection h with e1 e2; injection e2 with e2 e3; subst e1 e2 e3
    exact w9 h4
  · cases h
def g7 (args : List Value) (H : Heap) (n : Nat) : R := match args with
  | [.agg ⟨[.int .i64 s, .int .i64 f, .int .i64 d, .int .i64 p, .int .i64 u, .int .i64 e]⟩] => some (.tuple #[outS n (tkK s f d p u e), iv (tkE s f d p u e)], outSB n 3 1 (tkK s f d p u e) (tkL (tkV s f d u e) (tkK s f d p u e)) ++ H, n + 1)
  | _ => none
theorem ok7 : EntOk Try.prog (7, g7) := by
  intro args H n v H' n' h
  simp only [g7] at h
  split at h
  · injection h with h; injection h with e1 e2; injection e2 with e2 e3; subst e1 e2 e3
    exact w7 _ _ _ _ _ _
  · cases h
def g5 (args : List Value) (H : Heap) (n : Nat) : R := match args with
  | [.agg ⟨[.int .i64 x, .int .i64 y, .int .i64 dx, .int .i64 dy, .int .i64 t, .int .i64 r, .int .i64 s, .int .i64 l, .int .i64 c, .int .i64 f, .slice oa L cp, .int .u8 _, .int .u8 _, .int .u8 _]⟩] => if shortV t L = true then (sigV H (.slice oa L cp)).map fun q => (.bool (runV ⟨r, s, l, c, f, x, y, dx, dy, t⟩ L q), H, n) else some (.bool false, H, n)
  | _ => none
theorem ok5 : EntOk Try.prog (5, g5) := by
  intro args H n v H' n' h
  simp only [g5] at h
  split at h
  · split at h
    · rw [Option.map_eq_some_iff] at h
      obtain ⟨l, h4, h⟩ := h
      injection h with e1 e2; injection e2 with e2 e3; subst e1 e2 e3
      exact w5 ⟨_, _, _, _, _, _, _, _, _, _⟩ _ _ _ fun _ => h4
    · rename_i x y dx dy t r s l c f oa L cp p q u hs
      injection h with h; injection h with e1 e2; injection e2 with e2 e3; subst e1 e2 e3
      have := w5 (H := H) (n := n) (oa := oa) (L := L) (c := cp) (l := []) ⟨r, s, l, c, f, x, y, dx, dy, t⟩ p q u fun h => absurd h hs
      rw [runV, show shortV t L = false from by simpa using hs, Bool.false_and] at this
      exact this
  · cases h
def g8 (args : List Value) (H : Heap) (n : Nat) : R := match args with
  | [.agg ⟨[.int .i64 x, .int .i64 y, .int .i64 dx, .int .i64 dy, .int .i64 t]⟩, .agg ⟨[.int .i64 r, .int .i64 s, .int .i64 l, .int .i64 c, .int .i64 f]⟩, v] => (sigV H v).bind fun q => if brE ⟨r, s, l, c, f, x, y, dx, dy, t⟩ q = 0 then some (.tuple #[.slice (some ⟨n, 0, none⟩) t.toNat t.toNat, iv 0], [(n, .cells (insL ⟨r, s, l, c, f, x, y, dx, dy, t⟩ q) 4)] ++ H, n + 1) else none
  | _ => none
theorem ok8 : EntOk Try.prog (8, g8) := by
  intro args H n v H' n' h
  simp only [g8] at h
  split at h
  · rw [Option.bind_eq_some_iff] at h
    obtain ⟨l, h4, h⟩ := h
    split at h
    · rename_i hE
      injection h with h; injection h with e1 e2; injection e2 with e2 e3; subst e1 e2 e3
      exact w8 ⟨_, _, _, _, _, _, _, _, _, _⟩ h4 hE
    · cases h
  · cases h
def g10 (args : List Value) (H : Heap) (n : Nat) : R := match args with
  | [.agg ⟨[.int .i64 x, .int .i64 y, .int .i64 dx, .int .i64 dy, .int .i64 t]⟩, .agg ⟨[.int .i64 r, .int .i64 s, .int .i64 l, .int .i64 c, .int .i64 f]⟩, v] => (sigV H v).bind fun q => if brE ⟨r, s, l, c, f, x, y, dx, dy, t⟩ q = 0 then some (.tuple #[.slice (some ⟨n, 0, none⟩) t.toNat t.toNat, iv 0], [(n, .cells (levL ⟨r, s, l, c, f, x, y, dx, dy, t⟩ q) 3)] ++ H, n + 1) else none
  | _ => none
theorem ok10 : EntOk Try.prog (10, g10) := by
  intro args H n v H' n' h
  simp only [g10] at h
  split at h
  · rw [Option.bind_eq_some_iff] at h
    obtain ⟨l, h4, h⟩ := h
    split at h
    · rename_i hE
      injection h with h; injection h with e1 e2; injection e2 with e2 e3; subst e1 e2 e3
      exact w10 ⟨_, _, _, _, _, _, _, _, _, _⟩ h4 hE
    · cases h
  · cases h
def g11 (args : List Value) (H : Heap) (n : Nat) : R := match args with
  | [.agg ⟨[.int .i64 x, .int .i64 y, .int .i64 dx, .int .i64 dy, .int .i64 t]⟩, .agg ⟨[.int .i64 r, .int .i64 s, .int .i64 l, .int .i64 c, .int .i64 f]⟩, v] => (sigV H v).bind fun q => if brE ⟨r, s, l, c, f, x, y, dx, dy, t⟩ q = 0 then some (.tuple #[outS n (silS ⟨r, s, l, c, f, x, y, dx, dy, t⟩ q).length, iv 0], outSB n 52 2 (silS ⟨r, s, l, c, f, x, y, dx, dy, t⟩ q).length (sps (silS ⟨r, s, l, c, f, x, y, dx, dy, t⟩ q)) ++ H, n + 1) else none
  | _ => none
theorem ok11 : EntOk Try.prog (11, g11) := by
  intro args H n v H' n' h
  simp only [g11] at h
  split at h
  · rw [Option.bind_eq_some_iff] at h
    obtain ⟨l, h4, h⟩ := h
    split at h
    · rename_i hE
      injection h with h; injection h with e1 e2; injection e2 with e2 e3; subst e1 e2 e3
      exact w11 ⟨_, _, _, _, _, _, _, _, _, _⟩ h4 hE
    · cases h
  · cases h
def g12 (args : List Value) (H : Heap) (n : Nat) : R := match args with
  | [.agg ⟨[.int .i64 x, .int .i64 y, .int .i64 dx, .int .i64 dy, .int .i64 t]⟩, .agg ⟨[.int .i64 r, .int .i64 s, .int .i64 l, .int .i64 c, .int .i64 f]⟩, v, u] => (sigV H v).bind fun q => (firV H u).bind fun fs => if brE ⟨r, s, l, c, f, x, y, dx, dy, t⟩ q = 0 then some (iv (cfE ⟨r, s, l, c, f, x, y, dx, dy, t⟩ q fs), H, n) else none
  | _ => none
theorem ok12 : EntOk Try.prog (12, g12) := by
  intro args H n v H' n' h
  simp only [g12] at h
  split at h
  · rw [Option.bind_eq_some_iff] at h
    obtain ⟨l, h4, h⟩ := h
    rw [Option.bind_eq_some_iff] at h
    obtain ⟨fs, h5, h⟩ := h
    split at h
    · rename_i hE
      injection h with h; injection h with e1 e2; injection e2 with e2 e3; subst e1 e2 e3
      exact w12 ⟨_, _, _, _, _, _, _, _, _, _⟩ h4 h5 hE
    · cases h
  · cases h
/-! ### what is read -/
theorem sg_len (q : Sg) : q.cells.length = 3 := rfl
theorem sg_dec (H : Heap) (q : Sg) : decG H q.cells = some q := rfl
def fc (q : Fir) : List Value := [iv q.1, iv q.2]
def fcs (l : List Fir) : List Value := l.flatMap fc
theorem fc_len (q : Fir) : (fc q).length = 2 := rfl
theorem fc_dec (H : Heap) (q : Fir) : decF H (fc q) = some q := rfl
theorem fcs_snoc (l : List Fir) (q : Fir) : fcs (l ++ [q]) = fcs l ++ [iv q.1, iv q.2] := by simp [fcs, fc]
end Go.Proofs.Ytljglocehbccnaa

namespace Go.Proofs.Ytljglocehbccnaa
open Go Go.Ab Go.Proofs
set_option maxRecDepth 20000
/-- the law's memory: its own boxes, and what lies under them -/
structure XB (n : Nat) (H : Heap) (b : Brg) (sl : Value) (u1 u2 u3 : Value) (lv : List Value) (tk : List Value) (X : Heap) (N : Nat) : Prop where
  nm : namesOk N X = true
  pl : plainH X = true
  sub : Sub (tidy n H) X
  rb : hget X n = some (.cells [iv b.x, iv b.y, iv b.dx, iv b.dy, iv b.t, iv b.r, iv b.s, iv b.l, iv b.c, iv b.f, sl, u1, u2, u3] 30)
  vb : hget X (n + 1) = some (.cells [iv b.x, iv b.y, iv b.dx, iv b.dy, iv b.t] 25)
  lb : hget X (n + 1 + 1) = some (.cells lv 34)
  tb : hget X (n + 1 + 1 + 1) = some (.ext tk 3 1)
  big : n + 4 ≤ N
section
variable {n : Nat} {H : Heap} {b : Brg} {sl u1 u2 u3 : Value} {lv tk : List Value} {X : Heap} {N : Nat}
theorem XB.cons (h : XB n H b sl u1 u2 u3 lv tk X N) (c : Blk) (hp : plainB2 c = true) : XB n H b sl u1 u2 u3 lv tk ((N, c) :: X) (N + 1) := by
  have hb := h.big
  have hg : ∀ k, k < N → hget ((N, c) :: X) k = hget X k := fun k hk => by rw [hget_cons, if_neg (by omega)]
  exact ⟨namesOk_put (by omega) (namesOk_mono (by omega) _ h.nm), by rw [plainH, hp, h.pl]; rfl, Sub.trans h.sub (Sub.cons (namesOk_none h.nm N (Nat.le_refl _)) (Sub.refl _)), by rw [hg _ (by omega)]; exact h.rb, by rw [hg _ (by omega)]; exact h.vb, by rw [hg _ (by omega)]; exact h.lb, by rw [hg _ (by omega)]; exact h.tb, by omega⟩
theorem XB.sb (h : XB n H b sl u1 u2 u3 lv tk X N) {t sz k : Nat} {cs : List Value} (hp : plainB2 (.ext cs t sz) = true) : XB n H b sl u1 u2 u3 lv tk (outSB N t sz k cs ++ X) (N + 1) := by
  unfold outSB
  split
  · exact ⟨namesOk_mono (by omega) _ h.nm, h.pl, h.sub, h.rb, h.vb, h.lb, h.tb, by have := h.big; omega⟩
  · exact h.cons _ hp
theorem sub_to {Z : Heap} {N t sz k : Nat} {cs : List Value} (hn : hget Z N = none) : Sub Z (outSB N t sz k cs ++ Z) := sub_sb (Sub.refl _) hn
end
/-- a list of sightings is copied, handed on: what the copy answers -/
theorem seen_at {l : List Sg} {v : Value} {Z : Heap} {m : Nat} (h : sigV Z v = some l) : g9 [v] Z m = some (outS m l.length, outSB m 90 3 l.length (sgs l) ++ Z, m + 1) := by
  simp only [g9]
  rw [h]
  rfl
theorem seen_sig {l : List Sg} {Z : Heap} {m : Nat} (hl : l.length < 2147483648) : sigV (outSB m 90 3 l.length (sgs l) ++ Z) (outS m l.length) = some l := listV_outS sg_len sg_dec hl
theorem in_at {b : Brg} {l : List Sg} {v : Value} {Z : Heap} {m : Nat} (h : sigV Z v = some l) (hE : brE b l = 0) : g8 [.agg ⟨[iv b.x, iv b.y, iv b.dx, iv b.dy, iv b.t]⟩, .agg ⟨[iv b.r, iv b.s, iv b.l, iv b.c, iv b.f]⟩, v] Z m = some (.tuple #[.slice (some ⟨m, 0, none⟩) b.t.toNat b.t.toNat, iv 0], (m, .cells (insL b l) 4) :: Z, m + 1) := by
  simp only [g8]
  rw [h, Option.bind_some, if_pos hE]
  rfl
theorem lev_at {b : Brg} {l : List Sg} {v : Value} {Z : Heap} {m : Nat} (h : sigV Z v = some l) (hE : brE b l = 0) : g10 [.agg ⟨[iv b.x, iv b.y, iv b.dx, iv b.dy, iv b.t]⟩, .agg ⟨[iv b.r, iv b.s, iv b.l, iv b.c, iv b.f]⟩, v] Z m = some (.tuple #[.slice (some ⟨m, 0, none⟩) b.t.toNat b.t.toNat, iv 0], (m, .cells (levL b l) 3) :: Z, m + 1) := by
  simp only [g10]
  rw [h, Option.bind_some, if_pos hE]
  rfl
theorem sil_at {b : Brg} {l : List Sg} {v : Value} {Z : Heap} {m : Nat} (h : sigV Z v = some l) (hE : brE b l = 0) : g11 [.agg ⟨[iv b.x, iv b.y, iv b.dx, iv b.dy, iv b.t]⟩, .agg ⟨[iv b.r, iv b.s, iv b.l, iv b.c, iv b.f]⟩, v] Z m = some (.tuple #[outS m (silS b l).length, iv 0], outSB m 52 2 (silS b l).length (sps (silS b l)) ++ Z, m + 1) := by
  simp only [g11]
  rw [h, Option.bind_some, if_pos hE]
theorem fires_at {b : Brg} {l : List Sg} {fs : List Fir} {v u : Value} {Z : Heap} {m : Nat} (h : sigV Z v = some l) (hf : firV Z u = some fs) (hE : brE b l = 0) : g12 [.agg ⟨[iv b.x, iv b.y, iv b.dx, iv b.dy, iv b.t]⟩, .agg ⟨[iv b.r, iv b.s, iv b.l, iv b.c, iv b.f]⟩, v, u] Z m = some (iv (cfE b l fs), Z, m) := by
  simp only [g12]
  rw [h, Option.bind_some, hf, Option.bind_some, if_pos hE]
/-! ### silent spans -/
def inS (s : Nat × Nat) (τ : Nat) : Bool := decide (s.1 ≤ τ) && decide (τ < s.2)
theorem runs_ok (p : Nat → Bool) : ∀ T, (∀ s ∈ runsV p T, s.1 < s.2 ∧ s.2 ≤ T) ∧ ∀ τ, τ < T → (runsV p T).any (inS · τ) = p τ
  | 0 => ⟨by simp [runsV], fun τ h => by omega⟩
  | T + 1 => by
    obtain ⟨h1, h2⟩ := runs_ok p T
    have hno : ∀ S : List (Nat × Nat), (∀ s ∈ S, s.1 < s.2 ∧ s.2 ≤ T) → S.any (inS · T) = false := fun S h => by
      rw [List.any_eq_false]
      intro s hs
      have := h s hs
      simp [inS]
      omega
    unfold runsV
    cases hp : p T with
    | false =>
      rw [if_neg (by simp)]
      refine ⟨fun s hs => ?_, fun τ hτ => ?_⟩
      · have := h1 s hs; omega
      · by_cases e : τ = T
        · subst e; rw [hno _ h1, hp]
        · exact h2 τ (by omega)
    | true =>
      rw [if_pos rfl]
      obtain ⟨S, hS⟩ : ∃ S, runsV p T = S := ⟨_, rfl⟩
      rw [hS] at h1 h2 ⊢
      rcases List.eq_nil_or_concat S with rfl | ⟨S0, ⟨a, e⟩, rfl⟩
      · refine ⟨fun s hs => ?_, fun τ hτ => ?_⟩
        · have : s = (T, T + 1) := by simpa [stepS] using hs
          subst this; exact ⟨Nat.lt_succ_self _, Nat.le_refl _⟩
        · by_cases e : τ = T
          · subst e; simp [stepS, inS, hp]
          · rw [← h2 τ (by omega)]
            simp [stepS, inS]
            omega
      · rw [List.concat_eq_append] at h1 h2 ⊢
        have hae := h1 (a, e) (by simp)
        have hlast : (S0 ++ [(a, e)]).getLast? = some (a, e) := by simp
        unfold stepS
        rw [hlast]
        simp only
        by_cases he : e = T
        · rw [if_pos he, List.dropLast_concat]
          refine ⟨fun s hs => ?_, fun τ hτ => ?_⟩
          · rcases List.mem_append.1 hs with h | h
            · have := h1 s (List.mem_append_left _ h); omega
            · have : s = (a, T + 1) := by simpa using h
              subst this
              have : a < e := hae.1
              exact ⟨by show a < T + 1; omega, Nat.le_refl _⟩
          · by_cases e' : τ = T
            · subst e'
              rw [List.any_append, hp]
              have : a < e := hae.1
              simp [inS]
              right; omega
            · rw [← h2 τ (by omega), List.any_append, List.any_append]
              congr 1
              simp only [List.any_cons, List.any_nil, Bool.or_false, inS]
              congr 1
              exact decide_eq_decide.2 (by omega)
        · rw [if_neg he]
          refine ⟨fun s hs => ?_, fun τ hτ => ?_⟩
          · rcases List.mem_append.1 hs with h | h
            · have := h1 s h; omega
            · have : s = (T, T + 1) := by simpa using h
              subst this; exact ⟨Nat.lt_succ_self _, Nat.le_refl _⟩
          · rw [List.any_append]
            by_cases e' : τ = T
            · subst e'; simp [inS, hp]
            · rw [h2 τ (by omega)]
              simp [inS]
              omega
theorem sil_any {b : Brg} {l : List Sg} {τ : Nat} (h : τ < b.t.toNat) : (silS b l).any (inS · τ) = decide (levV b l τ = 0) := (runs_ok _ _).2 τ h
theorem lev_pos {b : Brg} {l : List Sg} (hE : brE b l = 0) (τ : Nat) : 0 ≤ levV b l τ ∧ levV b l τ ≤ 1001 := by
  unfold brE at hE
  obtain ⟨_, h⟩ := first0' hE
  obtain ⟨h, _⟩ := first0' h
  unfold watV at h
  obtain ⟨_, h⟩ := first0' h
  obtain ⟨_, h⟩ := first0' h
  obtain ⟨_, h⟩ := first0' h
  obtain ⟨_, h⟩ := first0' h
  obtain ⟨h, _⟩ := first0' h
  have hf := within0' h
  unfold levV
  rw [show IntKind.i64.wrap (b.f + 1) = b.f + 1 from W_in (by omega) (by omega)]
  omega
theorem load52 {H : Heap} {m o : Nat} {s : Option Nat} {x y : Value} (h : cellsA H m o 2 = some [x, y]) : loadA Try.prog 52 H (.pointer (some ⟨m, o, s⟩)) = some (.agg #[x, y]) := by
  simp only [loadA, ag52, sz52, h, Option.map_some]
theorem bin_neqb {x y : Operand} {H : Heap} {n : Nat} {a b : Bool} : binV Try.prog .neq 4 x y (.bool a) (.bool b) H n = some (.bool (!decide (a = b)), H, n) := by
  cases a <;> cases b <;> kernel_rfl
theorem sps_cells {S : List (Nat × Nat)} {j : Nat} (h : j < S.length) : ((sps S).drop (j * 2)).take 2 = [iv S[j].1, iv S[j].2] := flat_at (c := fun s : Nat × Nat => [iv s.1, iv s.2]) (fun _ => rfl) S j h
theorem levL_at {b : Brg} {l : List Sg} {τ : Nat} (h : τ < b.t.toNat) : (levL b l)[τ]? = some (iv (levV b l τ)) := by
  unfold levL
  rw [List.getElem?_map, List.getElem?_range h]; rfl
theorem insL_at {b : Brg} {l : List Sg} {τ : Nat} (h : τ < b.t.toNat) : (insL b l)[τ]? = some (.bool (insideV b l (τ : Int))) := by
  unfold insL
  rw [List.getElem?_map, List.getElem?_range h]; rfl
/-! ### the answers of the fires -/
theorem foL_zero {b : Brg} {l : List Sg} {f : Nat → Int} : ∀ {fs : List Fir}, (∀ q ∈ fs, q.2 = f q.1.toNat) → firstV (foL b l f fs) = 0
  | [], _ => rfl
  | q :: fs, h => by
    have hq := h q (List.mem_cons_self ..)
    show firstV (foE b l q (f q.1.toNat) :: foL b l f fs) = 0
    have : foE b l q (f q.1.toNat) = 0 := by
      unfold foE
      rw [hq, show decide (f q.1.toNat < f q.1.toNat) = false from by simp]
      rfl
    rw [firstV, if_pos this]
    exact foL_zero fun q hq => h q (List.mem_cons_of_mem _ hq)
theorem firE_ok {T : Int} {fs : List Fir} (hT : 1 ≤ T ∧ T ≤ 4096) (hl : fs.length ≤ 256) (h : ∀ q ∈ fs, 0 ≤ q.1 ∧ q.1 < T ∧ 1 ≤ q.2 ∧ q.2 ≤ 1001) : firE T fs = 0 := by
  unfold firE
  rw [if_neg (by omega)]
  refine scanV_zero fun j hj => ?_
  have hq := h _ (List.getElem_mem hj)
  rw [List.getD_eq_getElem?_getD, List.getElem?_eq_getElem hj]
  simp only [Option.getD_some]
  unfold fiE
  rw [show IntKind.i64.wrap (T - 1) = T - 1 from W_in (by omega) (by omega)]
  have w0 : ∀ a lo hi : Int, lo ≤ a → a ≤ hi → withinV a lo hi = 0 := fun a lo hi h1 h2 => by unfold withinV; rw [if_neg (by omega)]
  rw [w0 _ _ _ (by omega) (by omega), w0 _ _ _ (by omega) (by omega)]
  rfl
/-- fires at their levels are good -/
theorem cf_good {b : Brg} {l : List Sg} {F : List Fir} (hE : brE b l = 0) (hl : F.length ≤ 8) (hF : ∀ q ∈ F, 0 ≤ q.1 ∧ q.1 < b.t ∧ q.2 = levV b l q.1.toNat ∧ levV b l q.1.toNat ≠ 0) : cfE b l F = 0 := by
  unfold cfE
  rw [firE_ok (brE0 hE) (by omega) fun q hq => by
    obtain ⟨h1, h2, h3, h4⟩ := hF q hq
    have := lev_pos (b := b) (l := l) hE q.1.toNat
    omega, if_pos rfl]
  exact foL_zero fun q hq => (hF q hq).2.2.1
/-- one more at a silent tick is not -/
theorem cf_bad {b : Brg} {l : List Sg} {F : List Fir} {τ : Nat} (hE : brE b l = 0) (hl : F.length ≤ 8) (hF : ∀ q ∈ F, 0 ≤ q.1 ∧ q.1 < b.t ∧ q.2 = levV b l q.1.toNat ∧ levV b l q.1.toNat ≠ 0) (ht : (τ : Int) < b.t) (hz : levV b l τ = 0) : cfE b l (F ++ [((τ : Int), 1)]) = if insideV b l τ = true then 31 else 21 := by
  unfold cfE
  rw [firE_ok (brE0 hE) (by simp; omega) fun q hq => by
    rcases List.mem_append.1 hq with hq | hq
    · obtain ⟨h1, h2, h3, h4⟩ := hF q hq
      have := lev_pos (b := b) (l := l) hE q.1.toNat
      omega
    · have : q = ((τ : Int), 1) := by simpa using hq
      subst this
      simp only
      omega, if_pos rfl]
  unfold foL
  rw [List.map_append, firstV_app]
  rw [show firstV (F.map fun q => foE b l q (levV b l q.1.toNat)) = 0 from foL_zero fun q hq => (hF q hq).2.2.1, if_pos rfl]
  show firstV [foE b l ((τ : Int), 1) (levV b l τ)] = _
  rw [hz]
  unfold foE
  cases insideV b l τ <;> rfl
end Go.Proofs.Ytljglocehbccnaa
