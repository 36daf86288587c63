/-
Contracts and plain reckonings behind the law GunEncloses, part 5 of 8 (each under the conditions in its statement).
-/
import Derived.Test.YtndlfijfjglkdaaGreatDoorRb
import Derived.Test.YtndlfijfjglkdaaGreatDoorRd
import Derived.Test.YtndlfijfjglkdaaGreatDoorRc
namespace Go.Proofs.YtndlfijfjglkdaaGreatDoor
open Go Go.Ab Go.Proofs Ieee
theorem w244 (b : Bool) (e : Int) : AC Tryz.prog 244 [.bool b, .int .i64 e] [] 10 (.int .i64 (whenV b e)) [] 10 := by
 have hr := recT_ok (P := Tryz.prog) (l := []) (by simp)
 refine AC.pure Tryz.func244 rfl (by kernel_rfl) rfl [] rfl ?_
 refine E.seq ?_
 refine E.reg hr (by simp [argsFr, Tryz.f244]; rfl) ?_
 refine E.seq ?_
 refine E.seq ?_
 refine E.reg hr (by simp; rfl) ?_
 refine E.cond (by rfl) (fun h => ?_) (fun h => ?_)
 · try simp at h
   refine E.seq ?_
   refine E.reg hr (by simp; rfl) ?_
   refine E.ret ?_
   exact pureK.ret rfl rfl (by simp [one, whenV, h]) (sub_refl _)
 · try simp at h
   refine E.skip ?_
   refine E.seq ?_
   refine E.reg hr (by simp; rfl) ?_
   refine E.ret ?_
   exact pureK.ret rfl rfl (by simp [one, whenV, h]) (sub_refl _)
theorem ok244 : EntOk Tryz.prog (244, g114) := by
 intro args H n v H' n' h
 simp only [g114] at h
 split at h
 · rename_i b e
   injection h with h; injection h with e1 e2; injection e2 with e2 e3; subst e1 e2 e3
   exact AC.liftP rfl (Part.plain (by simp) [] (by simp [Seen]) gsz ⟨_, _, w244 b e⟩)
 · cases h
theorem w243 (l : List Int) (o c : Nat) (hl : l.length < 2 ^ 31) : AC Tryz.prog 243 [.slice (some ⟨10, o, none⟩) l.length c] [(10, .inp o (l.map iv))] 11 (iv (firstV l)) [(10, .inp o (l.map iv))] 11 := by
 have hr := recT_ok (P := Tryz.prog) (l := []) (by simp)
 refine AC.pure Tryz.func243 rfl (by kernel_rfl) rfl [5, 6, 7] rfl ?_
 refine E.seq ?_
 refine E.reg hr (by simp [argsFr, Tryz.f243]; rfl) ?_
 refine E.seq ?_
 refine E.seq ?_
 refine E.reg hr (by simp [opBuiltin, builtinA]; rfl) ?_
 refine E.block ?_
 refine E.loop ?_
 refine EL.ind (fun i : Nat => { fr := [(5, .slice (some ⟨10, o, none⟩) l.length c), (6, iv l.length), (7, iv i)], sz := 15, H := [(10, .inp o (l.map iv))], n := 11, marks := [], vs := [5, 6, 7] }) (fun i => l.length - i) (fun i => i ≤ l.length ∧ firstV (l.drop i) = firstV l) 0 (.less rfl rfl rfl (by simp) (by simp)) ⟨Nat.zero_le _, rfl⟩ (fun _ => rfl) ?_
 intro i ⟨hi, hg⟩
 refine E.seq ?_
 refine E.reg hr (by simp; rfl) ?_
 refine E.seq ?_
 refine E.cond (by rfl) (fun h => ?_) (fun h => ?_)
 · simp at h
   refine E.skip ?_
   refine E.seq ?_
   refine E.block ?_
   refine E.seq ?_
   refine E.reg hr (by simp [opIndexaddr, Tryz.underlying206, flat, h, loadA, cellA]; rfl) ?_
   refine E.seq ?_
   refine E.reg hr (by simp; rfl) ?_
   refine E.cond (by rfl) (fun h2 => ?_) (fun h2 => ?_)
   · simp at h2
     refine E.seq ?_
     refine E.reg hr (by simp; rfl) ?_
     refine E.ret ?_
     refine pureK.ret rfl rfl ?_ (sub_refl _)
     rw [List.drop_eq_getElem_cons h] at hg
     simp [one, ← hg, firstV, h2]
   · simp at h2
     refine E.skip ?_
     have hw : IntKind.i64.wrap ((i : Int) + 1) = (i : Int) + 1 := W_in (by omega) (by omega)
     refine E.reg hr (by simp [hw]; rfl) ?_
     rw [List.drop_eq_getElem_cons h] at hg
     exact ⟨i + 1, .less rfl rfl rfl (by simp) (by simp), ⟨h, by rw [← hg]; simp [firstV, h2]⟩, by dsimp only; omega⟩
 · simp at h
   refine E.exit ?_
   refine E.seq ?_
   refine E.reg hr (by simp; rfl) ?_
   refine E.ret ?_
   have : l.drop i = [] := by simp; omega
   refine pureK.ret rfl rfl ?_ (sub_refl _)
   simp [one, ← hg, this, firstV]
theorem ok243 : EntOk Tryz.prog (243, g113) := by
 intro args H n v H' n' h
 simp only [g113] at h
 split at h
 · rename_i a len c
   rw [Option.map_eq_some_iff] at h
   obtain ⟨l, h1, h⟩ := h
   injection h with e1 e2; injection e2 with e2 e3; subst e1 e2 e3
   obtain ⟨hf, hc, hlen, hlt⟩ := intsAt_ok h1
   subst hlen
   exact AC.liftP rfl (Part.one (fun s => [s]) (by intro φ φ0 s s0 h; simp [denL, h]) (by intro p s h; exact ⟨h, trivial⟩) hf hc (afL_iv l) [] (by simp [Seen]) gsz fun c => ⟨_, _, w243 l _ c hlt⟩)
 · cases h
theorem c1024 : FloatKind.f32.nearest 1024 = 1149239296 := by decide +kernel
theorem n1024 : runP Tryz.prog (Op.unary .neg (.float .f32 1149239296)) = some (.float .f32 3296722944) := by kernel_rfl
theorem v1024 : fin32 1149239296 = true ∧ val32 1149239296 = (2 ^ 10 * UV : Nat) := by
 have h : single.read 1149239296 = .number false 8388608 (-13) := by rw [read32]; decide
 unfold fin32 val32
 rw [h]
 refine ⟨rfl, ?_⟩
 show ((mv2 8388608 (-13) : Nat) : Int) = _
 rw [show (8388608 : Nat) = 2 ^ 23 from rfl, mv2_two (k := 10) (by decide)]
theorem v1024n : fin32 3296722944 = true ∧ val32 3296722944 = -((2 ^ 10 * UV : Nat) : Int) := by
 have h : single.read 3296722944 = .number true 8388608 (-13) := by rw [read32]; decide
 unfold fin32 val32
 rw [h]
 refine ⟨rfl, ?_⟩
 show -((mv2 8388608 (-13) : Nat) : Int) = _
 rw [show (8388608 : Nat) = 2 ^ 23 from rfl, mv2_two (k := 10) (by decide)]
theorem cvFI0 (b : Nat) : runP Tryz.prog (convert 98 3 (.float .f32 b)) = runP Tryz.prog (Conv.floatToInt .f32 b .i64) := by kernel_rfl
theorem cvFI {b : Nat} (h : fin32 b = true) (hr : -1000000 ≤ (val32 b).tdiv UV ∧ (val32 b).tdiv UV ≤ 1000000) : runP Tryz.prog (convert 98 3 (.float .f32 b)) = some (iv ((val32 b).tdiv UV)) := by
 rw [cvFI0]
 unfold Conv.floatToInt
 have := toInt_val h
 have e : (FloatKind.f32.decode b).toInt .zero = some ((val32 b).tdiv UV) := this
 rw [e]
 simp only
 rw [if_pos ⟨by have : IntKind.i64.min = -9223372036854775808 := by decide
                omega, by have : IntKind.i64.max = 9223372036854775807 := by decide
                          omega⟩]
 rfl
theorem h00 : (FloatKind.f32.format.order 0 0 == some Ordering.eq) = true := by decide +kernel
theorem w245 (b : Nat) : AC Tryz.prog 245 [.float .f32 b] [] 10 (.bool (fin32 b)) [] 10 := by
 have hr := recT_ok (P := Tryz.prog) (l := []) (by simp)
 refine AC.pure Tryz.func245 rfl (by kernel_rfl) rfl [] rfl ?_
 refine E.seq ?_
 refine E.reg hr (by simp; rfl) ?_
 refine E.seq ?_
 cases h : fin32 b with
 | true =>
   refine E.reg hr (by simp [bin_fsub (k := .f32) (sub_self h), bin_feql, h00]; rfl) ?_
   refine E.ret ?_
   exact pureK.ret rfl rfl (by simp) (sub_refl _)
 | false =>
   apply E.opn (Q := fun v => ∃ q, v = .float .f32 q ∧ nanB .f32 q) (st0 := { fr := [(2, .bool false)], sz := 7, H := [], n := 10, marks := [], vs := [] }) (hr := hr) (i := 2)
   case ho => rfl
   case hpre => simp [opsF_cons, opsF_nil, oneF_plain]; rfl
   case hg => rfl
   case hd => rfl
   case hop => exact .bin (by simp; rfl) (by simp; rfl) rfl rfl
   case hq => exact sub_open (k := .f32) (a := b) (b := b) (sub_none h)
   case haf =>
     rintro v ⟨q, rfl, _⟩
     rfl
   case hpost =>
     rintro v ⟨q, rfl, hq⟩
     have ho : FloatKind.f32.format.order q 0 = none := nan_ord hq
     refine ⟨_, by simp [opsF_cons, opsF_nil, oneF_plain, bin_feql, ho]; rfl, ?_⟩
     exact .keep rfl rfl rfl (by simp) (Sub.refl _)
   refine E.ret ?_
   exact pureK.ret rfl rfl (by simp) (sub_refl _)
end Go.Proofs.YtndlfijfjglkdaaGreatDoor

namespace Go.Proofs.YtndlfijfjglkdaaGreatDoor
open Go Go.Ab Go.Proofs Ieee
theorem fin_none {b : Nat} (h : fin32 b = false) : (∃ s f, single.read b = .nan s f) ∨ ∃ s, single.read b = .infinity s := by
 unfold fin32 at h
 split at h
 · cases h
 · rename_i hn
   rcases hr : single.read b with ⟨s, m, e⟩ | s | ⟨s, t⟩
   · exact absurd hr (hn _ _ _)
   · exact .inr ⟨s, rfl⟩
   · exact .inl ⟨s, t, rfl⟩
theorem r1024 : single.read 1149239296 = .number false 8388608 (-13) := by rw [read32]; decide
theorem r1024n : single.read 3296722944 = .number true 8388608 (-13) := by rw [read32]; decide
theorem le_low {b : Nat} (h : fin32 b = true) : (FloatKind.f32.format.order 3296722944 b == some Ordering.lt || FloatKind.f32.format.order 3296722944 b == some Ordering.eq) = decide (-((2 ^ 10 * UV : Nat) : Int) ≤ val32 b) := by
 have : FloatKind.f32.format.order 3296722944 b = some (compare (val32 3296722944) (val32 b)) := ord32 v1024n.1 h
 rw [this, v1024n.2, cmp_le]
theorem le_high {b : Nat} (h : fin32 b = true) : (FloatKind.f32.format.order b 1149239296 == some Ordering.lt || FloatKind.f32.format.order b 1149239296 == some Ordering.eq) = decide (val32 b ≤ ((2 ^ 10 * UV : Nat) : Int)) := by
 have : FloatKind.f32.format.order b 1149239296 = some (compare (val32 b) (val32 1149239296)) := ord32 h v1024.1
 rw [this, v1024.2, cmp_le]
theorem six_bound {b : Nat} (hs : (val32 b).natAbs ≤ 2 ^ 10 * UV) : -16384 ≤ six32 b ∧ six32 b ≤ 16384 := by
 have h1 : (six32 b).natAbs ≤ 16384 := by
   unfold six32
   rw [Int.natAbs_tdiv, Int.natAbs_mul]
   obtain ⟨U, hU⟩ : ∃ U, UV = U := ⟨_, rfl⟩
   have hp : 0 < U := by rw [← hU]; exact UV_pos
   rw [hU] at hs ⊢
   rw [show (16 : Int).natAbs = 16 from rfl, Int.natAbs_natCast]
   have h2 : 16 * (val32 b).natAbs ≤ 16384 * U := by
     have : (2 : Nat) ^ 10 = 1024 := rfl
     rw [this] at hs
     omega
   calc 16 * (val32 b).natAbs / U ≤ 16384 * U / U := Nat.div_le_div_right h2
     _ = 16384 := Nat.mul_div_cancel _ hp
 omega
theorem six_run {b : Nat} (h : fin32 b = true) (hs : (val32 b).natAbs ≤ 2 ^ 10 * UV) : ∃ r, single.mul b 1098907648 = some r ∧ single.mul 1098907648 b = some r ∧ runP Tryz.prog (convert 98 3 (.float .f32 r)) = some (iv (six32 b)) ∧ (FloatKind.f32.format.order (FloatKind.f32.nearest (six32 b)) r == some Ordering.eq) = decide (UV ∣ (16 * val32 b).natAbs) := by
 obtain ⟨r, m1, m2, m3, m4⟩ := mul16 h hs
 have hb := six_bound hs
 have e6 : (val32 r).tdiv UV = six32 b := by rw [m4]; rfl
 refine ⟨r, m1, m2, ?_, ?_⟩
 · rw [← e6]
   exact cvFI m3 (by rw [e6]; omega)
 · obtain ⟨n1, n2⟩ := nearest_val (n := six32 b) (by omega)
   have : FloatKind.f32.format.order (FloatKind.f32.nearest (six32 b)) r = some (compare (val32 (FloatKind.f32.nearest (six32 b))) (val32 r)) := ord32 n1 m3
   rw [this, n2, m4, cmp_eq]
   refine decide_eq_decide.2 ⟨fun e => ?_, fun e => ?_⟩
   · rw [← e, Int.natAbs_mul, Int.natAbs_natCast]
     exact Nat.dvd_mul_left _ _
   · have hd : (UV : Int) ∣ 16 * val32 b := Int.natAbs_dvd_natAbs.1 (by simpa using e)
     exact Int.tdiv_mul_cancel hd
theorem good_false {b : Nat} (h : ¬ (val32 b).natAbs ≤ 2 ^ 10 * UV) : good32 b = false := by
 unfold good32
 rw [decide_eq_false h]
 simp
theorem w246 (b : Nat) : AC Tryz.prog 246 [.float .f32 b, iv 1024] [] 10 (.bool (good32 b)) [] 10 := by
 have hr := recT_ok (P := Tryz.prog) (l := []) (by simp)
 refine AC.pure Tryz.func246 rfl (by kernel_rfl) rfl [] rfl ?_
 refine E.seq ?_
 refine E.reg hr (by simp; rfl) ?_
 refine E.seq ?_
 cases h : fin32 b with
 | false =>
   have hg : good32 b = false := by unfold good32; rw [h]; rfl
   rcases fin_none h with ⟨s, f, e⟩ | ⟨s, e⟩
   · have o1 : FloatKind.f32.format.order 3296722944 b = none := by
       show (single.read 3296722944).order (single.read b) = none
       rw [r1024n, e]; rfl
     refine E.reg hr (by simp [opConvert, c1024, n1024, bin_fleq, o1, yieldedA, undefV]; rfl) ?_
     refine E.ret ?_
     exact pureK.ret rfl rfl (by simp [hg]) (sub_refl _)
   · cases s with
     | true =>
       have o1 : FloatKind.f32.format.order 3296722944 b = some .gt := by
         show (single.read 3296722944).order (single.read b) = _
         rw [r1024n, e]; rfl
       refine E.reg hr (by simp [opConvert, c1024, n1024, bin_fleq, o1, yieldedA, undefV]; rfl) ?_
       refine E.ret ?_
       exact pureK.ret rfl rfl (by simp [hg]) (sub_refl _)
     | false =>
       have o1 : FloatKind.f32.format.order 3296722944 b = some .lt := by
         show (single.read 3296722944).order (single.read b) = _
         rw [r1024n, e]; rfl
       have o2 : FloatKind.f32.format.order b 1149239296 = some .gt := by
         show (single.read b).order (single.read 1149239296) = _
         rw [r1024, e]; rfl
       refine E.reg hr (by simp [opConvert, c1024, n1024, bin_fleq, o1, o2, yieldedA, undefV]; rfl) ?_
       refine E.ret ?_
       exact pureK.ret rfl rfl (by simp [hg]) (sub_refl _)
 | true =>
   have q1 := le_low h
   have q2 := le_high h
   obtain ⟨U, hU⟩ : ∃ U : Nat, 2 ^ 10 * UV = U := ⟨_, rfl⟩
   rw [hU] at q1 q2
   by_cases a1 : -(U : Int) ≤ val32 b
   case neg =>
     have hg : good32 b = false := good_false (by rw [hU]; omega)
     rw [decide_eq_false a1] at q1
     refine E.reg hr (by simp [-Bool.or_eq_false_iff, opConvert, c1024, n1024, bin_fleq, q1, yieldedA, undefV]; rfl) ?_
     refine E.ret ?_
     exact pureK.ret rfl rfl (by simp [hg]) (sub_refl _)
   rw [decide_eq_true a1] at q1
   by_cases a2 : val32 b ≤ (U : Int)
   case neg =>
     have hg : good32 b = false := good_false (by rw [hU]; omega)
     rw [decide_eq_false a2] at q2
     refine E.reg hr (by simp [-Bool.or_eq_false_iff, -Bool.or_eq_true, opConvert, c1024, n1024, bin_fleq, q1, q2, yieldedA, undefV]; rfl) ?_
     refine E.ret ?_
     exact pureK.ret rfl rfl (by simp [hg]) (sub_refl _)
   rw [decide_eq_true a2] at q2
   have hs : (val32 b).natAbs ≤ 2 ^ 10 * UV := by rw [hU]; omega
   obtain ⟨r, m1, _, m3, m4⟩ := six_run h hs
   have hg : good32 b = decide (UV ∣ (16 * val32 b).natAbs) := by
     unfold good32
     rw [h, decide_eq_true hs]
     rfl
   rw [← hg] at m4
   refine E.reg hr (by simp [-Bool.or_eq_false_iff, -Bool.or_eq_true, opConvert, c1024, n1024, bin_fleq, bin_feql, bin_fmul (k := .f32) m1, m3, m4, q1, q2, yieldedA]; rfl) ?_
   refine E.ret ?_
   exact pureK.ret rfl rfl (by simp) (sub_refl _)
end Go.Proofs.YtndlfijfjglkdaaGreatDoor

namespace Go.Proofs.YtndlfijfjglkdaaGreatDoor
open Go Go.Ab Go.Proofs Ieee
def gFl (F : Nat → Value) (args : List Value) (H : Heap) (n : Nat) : R := match args with
 | [.float .f32 b] => some (F b, H, n)
 | _ => none
theorem okFl {f : FuncId} {F : Nat → Value} (hF : ∀ b, af (F b) = true) (h : ∀ b, AC Tryz.prog f [.float .f32 b] [] 10 (F b) [] 10) : EntOk Tryz.prog (f, gFl F) := by
 intro args H n v H' n' h'
 simp only [gFl] at h'
 split at h'
 · injection h' with h'; injection h' with e1 e2; injection e2 with e2 e3; subst e1 e2 e3
   exact AC.liftP (hF _) (Part.plain (by simp) [] (by simp [Seen]) gsz ⟨_, _, h _⟩)
 · cases h'
theorem ok245 : EntOk Tryz.prog (245, gFl fun b => .bool (fin32 b)) := okFl (fun _ => rfl) w245
def g246 (args : List Value) (H : Heap) (n : Nat) : R := match args with
 | [.float .f32 b, .int .i64 m] => if m = 1024 then some (.bool (good32 b), H, n) else none
 | _ => none
theorem ok246 : EntOk Tryz.prog (246, g246) := by
 intro args H n v H' n' h'
 simp only [g246] at h'
 split at h'
 · split at h'
   · rename_i hm
     subst hm
     injection h' with h'; injection h' with e1 e2; injection e2 with e2 e3; subst e1 e2 e3
     exact AC.liftP rfl (Part.plain (by simp) [] (by simp [Seen]) gsz ⟨_, _, w246 _⟩)
   · cases h'
 · cases h'
theorem w206 (b : Nat) : AC Tryz.prog 206 [.float .f32 b] [] 10 (iv (err32 b)) [] 10 := by
 have hr := recT_ok (P := Tryz.prog) (l := [(245, gFl fun b => .bool (fin32 b)), (244, g114), (246, g246), (243, g113)]) (by simp only [List.forall_mem_cons]; exact ⟨ok245, ok244, ok246, ok243, by simp⟩)
 refine AC.pure Tryz.func206 rfl (by kernel_rfl) rfl [] rfl ?_
 refine E.seq ?_
 refine E.reg hr (by simp; rfl) ?_
 refine E.seq ?_
 refine E.reg hr (by simp [gFl, g246, g113, g114, intsAt, intsOf]; rfl) ?_
 refine E.ret ?_
 refine pureK.ret rfl rfl ?_ (by repeat first | exact sub_refl _ | refine sub_cons rfl ?_)
 unfold err32
 cases h : fin32 b <;> cases h2 : good32 b <;> simp [whenV, firstV]
theorem ok206 : EntOk Tryz.prog (206, gFl fun b => iv (err32 b)) := okFl (fun _ => rfl) w206
def sm32 (b : Nat) : Bool := fin32 b && decide ((val32 b).natAbs ≤ 2 ^ 10 * UV)
theorem sm_good {b : Nat} (h : good32 b = true) : sm32 b = true := by
 unfold good32 at h
 unfold sm32
 rw [Bool.and_eq_true] at h
 exact h.1
def gSix (args : List Value) (H : Heap) (n : Nat) : R := match args with
 | [.float .f32 b] => if sm32 b = true then some (iv (six32 b), H, n) else none
 | _ => none
theorem okSix {f : FuncId} (h : ∀ b, sm32 b = true → AC Tryz.prog f [.float .f32 b] [] 10 (iv (six32 b)) [] 10) : EntOk Tryz.prog (f, gSix) := by
 intro args H n v H' n' h'
 simp only [gSix] at h'
 split at h'
 · split at h'
   · rename_i hm
     injection h' with h'; injection h' with e1 e2; injection e2 with e2 e3; subst e1 e2 e3
     exact AC.liftP rfl (Part.plain (by simp) [] (by simp [Seen]) gsz ⟨_, _, h _ hm⟩)
   · cases h'
 · cases h'
theorem w203 (b : Nat) (h : sm32 b = true) : AC Tryz.prog 203 [.float .f32 b] [] 10 (iv (six32 b)) [] 10 := by
 unfold sm32 at h
 rw [Bool.and_eq_true, decide_eq_true_eq] at h
 obtain ⟨r, m1, m2, m3, _⟩ := six_run h.1 h.2
 have hr := recT_ok (P := Tryz.prog) (l := []) (by simp)
 refine AC.pure Tryz.func203 rfl (by kernel_rfl) rfl [] rfl ?_
 refine E.seq ?_
 refine E.reg hr (by simp; rfl) ?_
 refine E.seq ?_
 refine E.reg hr (by simp [opConvert, bin_fmul (k := .f32) m1, m3]; rfl) ?_
 refine E.ret ?_
 exact pureK.ret rfl rfl (by simp) (sub_refl _)
theorem ok203 : EntOk Tryz.prog (203, gSix) := okSix w203
theorem w85 (b : Nat) (h : sm32 b = true) : AC Tryz.prog 85 [.float .f32 b] [] 10 (iv (six32 b)) [] 10 := by
 unfold sm32 at h
 rw [Bool.and_eq_true, decide_eq_true_eq] at h
 obtain ⟨r, m1, m2, m3, _⟩ := six_run h.1 h.2
 have hr := recT_ok (P := Tryz.prog) (l := []) (by simp)
 refine AC.pure Tryz.func85 rfl (by kernel_rfl) rfl [] rfl ?_
 refine E.seq ?_
 refine E.reg hr (by simp; rfl) ?_
 refine E.seq ?_
 refine E.reg hr (by simp [opConvert, bin_fmul (k := .f32) m2, m3]; rfl) ?_
 refine E.ret ?_
 exact pureK.ret rfl rfl (by simp) (sub_refl _)
theorem ok85 : EntOk Tryz.prog (85, gSix) := okSix w85
def gFd (F : Nat → Value) (args : List Value) (H : Heap) (n : Nat) : R := match args with
 | [.float .f64 b] => some (F b, H, n)
 | _ => none
theorem okFd {f : FuncId} {F : Nat → Value} (hF : ∀ b, af (F b) = true) (h : ∀ b, AC Tryz.prog f [.float .f64 b] [] 10 (F b) [] 10) : EntOk Tryz.prog (f, gFd F) := by
 intro args H n v H' n' h'
 simp only [gFd] at h'
 split at h'
 · injection h' with h'; injection h' with e1 e2; injection e2 with e2 e3; subst e1 e2 e3
   exact AC.liftP (hF _) (Part.plain (by simp) [] (by simp [Seen]) gsz ⟨_, _, h _⟩)
 · cases h'
theorem w248 (b : Nat) : AC Tryz.prog 248 [.float .f64 b] [] 10 (.bool (double.order b b != some .eq)) [] 10 := by
 have hr := recT_ok (P := Tryz.prog) (l := []) (by simp)
 refine AC.pure Tryz.func248 rfl (by kernel_rfl) rfl [] rfl ?_
 refine E.seq ?_
 refine E.reg hr (by simp; rfl) ?_
 refine E.seq ?_
 refine E.reg hr (by simp [bin_fneql]; rfl) ?_
 refine E.ret ?_
 exact pureK.ret rfl rfl rfl (sub_refl _)
theorem ok248 : EntOk Tryz.prog (248, gFd fun b => .bool (double.order b b != some .eq)) := okFd (fun _ => rfl) w248
theorem ex291 (b : Nat) (H : Heap) (n : Nat) : externF Tryz.prog 291 [.float .f64 b] H n = some (.int .u64 b, H, n) := by kernel_rfl
theorem ex290 (b : Nat) (H : Heap) (n : Nat) : externF Tryz.prog 290 [.int .u64 (b : Int)] H n = some (.float .f64 b, H, n) := by kernel_rfl
end Go.Proofs.YtndlfijfjglkdaaGreatDoor

namespace Go.Proofs.YtndlfijfjglkdaaGreatDoor
open Go Go.Ab Go.Proofs Ieee
def g291 (args : List Value) (H : Heap) (n : Nat) : R := match args with
 | [.float .f64 b] => some (.int .u64 b, H, n)
 | _ => none
theorem ok291 : EntOk Tryz.prog (291, g291) := by
 intro args H n v H' n' h
 simp only [g291] at h
 split at h
 · injection h with h; injection h with e1 e2; injection e2 with e2 e3; subst e1 e2 e3
   exact externF_ok (ex291 _ _ _)
 · cases h
def g290 (args : List Value) (H : Heap) (n : Nat) : R := match args with
 | [.int .u64 a] => if 0 ≤ a then some (.float .f64 a.toNat, H, n) else none
 | _ => none
theorem ok290 : EntOk Tryz.prog (290, g290) := by
 intro args H n v H' n' h
 simp only [g290] at h
 split at h
 · rename_i a
   split at h
   · rename_i ha
     injection h with h; injection h with e1 e2; injection e2 with e2 e3; subst e1 e2 e3
     obtain ⟨m, rfl⟩ : ∃ m : Nat, a = m := ⟨a.toNat, by omega⟩
     exact externF_ok (ex290 _ _ _)
   · cases h
 · cases h
theorem not_top {b : Nat} (h : b < 2 ^ 64) : (BitVec.ofInt 64 (b : Int) &&& ~~~ BitVec.ofInt 64 9223372036854775808).toNat = b % 2 ^ 63 := by
 have e1 : (BitVec.ofInt 64 (b : Int)).toNat = b := by
   rw [BitVec.toNat_ofInt]
   omega
 have e2 : (~~~ BitVec.ofInt 64 9223372036854775808).toNat = 2 ^ 63 - 1 := by decide
 rw [BitVec.toNat_and, e1, e2, Nat.and_two_pow_sub_one_eq_mod]
theorem andNot_run {b : Nat} (h : b < 2 ^ 64) {t : TypeId} {x y : Operand} {H : Heap} {n : Nat} : binV Tryz.prog .andNot t x y (.int .u64 b) (.int .u64 9223372036854775808) H n = some (.int .u64 ((b % 2 ^ 63 : Nat) : Int), H, n) := by
 have : runP Tryz.prog (do eqGuard .andNot t x y (.int .u64 b) (.int .u64 9223372036854775808); binOp .andNot t (.int .u64 b) (.int .u64 9223372036854775808)) = some (.int .u64 (IntKind.u64.wrap (BitVec.ofInt 64 (b : Int) &&& ~~~ BitVec.ofInt 64 9223372036854775808).toNat)) := rfl
 rw [not_top h] at this
 have hw : IntKind.u64.wrap ((b % 2 ^ 63 : Nat) : Int) = ((b % 2 ^ 63 : Nat) : Int) := by
   unfold IntKind.wrap
   simp [IntKind.signed, IntKind.bits]
   omega
 rw [hw] at this
 simp only [binV, afq_af, af_int, Bool.and_self, if_true, this, Option.bind_some]
theorem w272 (b : Nat) (h : b < 2 ^ 64) : AC Tryz.prog 272 [.float .f64 b] [] 10 (.float .f64 (b % 2 ^ 63)) [] 10 := by
 have hr := recT_ok (P := Tryz.prog) (l := [(291, g291), (290, g290)]) (by simp [ok291, ok290])
 refine AC.pure Tryz.func272 rfl (by kernel_rfl) rfl [] rfl ?_
 refine E.seq ?_
 refine E.reg hr (by simp; rfl) ?_
 refine E.seq ?_
 obtain ⟨c, hc⟩ : ∃ c, b % 2 ^ 63 = c := ⟨_, rfl⟩
 have ha := fun t x y H n => andNot_run h (t := t) (x := x) (y := y) (H := H) (n := n)
 rw [hc] at ha ⊢
 have hc0 : (0 : Int) ≤ c := by omega
 refine E.reg hr (by simp [g291, g290, ha]; rfl) ?_
 refine E.ret ?_
 exact pureK.ret rfl rfl (by simp) (sub_refl _)
def g272 (args : List Value) (H : Heap) (n : Nat) : R := match args with
 | [.float .f64 b] => if b < 2 ^ 64 then some (.float .f64 (b % 2 ^ 63), H, n) else none
 | _ => none
theorem ok272 : EntOk Tryz.prog (272, g272) := by
 intro args H n v H' n' h
 simp only [g272] at h
 split at h
 · split at h
   · rename_i hb
     injection h with h; injection h with e1 e2; injection e2 with e2 e3; subst e1 e2 e3
     exact AC.liftP rfl (Part.plain (by simp) [] (by simp [Seen]) gsz ⟨_, _, w272 _ hb⟩)
   · cases h
 · cases h
def isInf (b : Nat) : Bool := double.order (b % 2 ^ 63) 9218868437227405311 == some .gt
theorem w249 (b : Nat) (h : b < 2 ^ 64) : AC Tryz.prog 249 [.float .f64 b, iv 0] [] 10 (.bool (isInf b)) [] 10 := by
 have hr := recT_ok (P := Tryz.prog) (l := [(272, g272)]) (by simp [ok272])
 have h2 : ∀ H n, g272 [.float .f64 b] H n = some (.float .f64 (b % 2 ^ 63), H, n) := fun H n => if_pos h
 refine AC.pure Tryz.func249 rfl (by kernel_rfl) rfl [] rfl ?_
 unfold isInf
 obtain ⟨c, hc⟩ : ∃ c, b % 2 ^ 63 = c := ⟨_, rfl⟩
 rw [hc] at h2 ⊢
 refine E.seq ?_
 refine E.reg hr (by simp; rfl) ?_
 refine E.seq ?_
 refine E.seq ?_
 refine E.reg hr (by simp; rfl) ?_
 refine E.cond (t := true) (by simp) (fun _ => ?_) (fun h => by cases h)
 refine E.reg hr (by simp [h2]; rfl) ?_
 refine E.seq ?_
 refine E.reg hr (by simp [bin_fgtr]; rfl) ?_
 refine E.ret ?_
 exact pureK.ret rfl rfl rfl (sub_refl _)
def g249 (args : List Value) (H : Heap) (n : Nat) : R := match args with
 | [.float .f64 b, .int .i64 z] => if b < 2 ^ 64 ∧ z = 0 then some (.bool (isInf b), H, n) else none
 | _ => none
theorem ok249 : EntOk Tryz.prog (249, g249) := by
 intro args H n v H' n' h
 simp only [g249] at h
 split at h
 · split at h
   · rename_i hb
     obtain ⟨hb, rfl⟩ := hb
     injection h with h; injection h with e1 e2; injection e2 with e2 e3; subst e1 e2 e3
     exact AC.liftP rfl (Part.plain (by simp) [] (by simp [Seen]) gsz ⟨_, _, w249 _ hb⟩)
   · cases h
 · cases h
theorem ex273 {b : Nat} {s : Bool} {m : Nat} {e : Int} (h : double.read b = .number s m e) (H : Heap) (n : Nat) : externF Tryz.prog 273 [.float .f64 b] H n = some (.float .f64 (double.write ((Datum.number s m e).integral .down)), H, n) := by
 have e1 : externF Tryz.prog 273 [.float .f64 b] H n = match runP Tryz.prog (do let r ← Go.Extern.MathFloor.toIntegral "math.archFloor" .down #[.float .f64 b]; pure (Next.value r)) with
   | some (.value v) => if af v then some (v, H, n) else none
   | _ => none := by kernel_rfl
 rw [e1]
 have e2 : (Go.Extern.MathFloor.toIntegral "math.archFloor" .down #[.float .f64 b]) = pure (.float .f64 (double.write ((Datum.number s m e).integral .down))) := by
   show (match FloatKind.f64.decode b with
     | .nan s t => if FloatKind.f64.format.quiet t = t then pure (Value.float .f64 b) else do
       let kept ← choose (.extern "math.Floor,Ceil,Trunc,RoundToEven.signallingNaN kept" 2)
       pure (.float .f64 (if kept == 1 then b else FloatKind.f64.encode (.nan s (FloatKind.f64.format.quiet t))))
     | d => pure (.float .f64 (FloatKind.f64.encode (d.integral .down)))) = _
   rw [show FloatKind.f64.decode b = .number s m e from h]
   rfl
 rw [e2]
 rfl
def g273 (args : List Value) (H : Heap) (n : Nat) : R := match args with
 | [.float .f64 b] => match double.read b with
   | .number s m e => some (.float .f64 (double.write ((Datum.number s m e).integral .down)), H, n)
   | _ => none
 | _ => none
theorem ok273 : EntOk Tryz.prog (273, g273) := by
 intro args H n v H' n' h
 simp only [g273] at h
 split at h
 · split at h
   · rename_i hb
     injection h with h; injection h with e1 e2; injection e2 with e2 e3; subst e1 e2 e3
     exact externF_ok (ex273 hb _ _)
   · cases h
 · cases h
theorem w250 {b : Nat} {s : Bool} {m : Nat} {e : Int} (h : double.read b = .number s m e) : AC Tryz.prog 250 [.float .f64 b] [] 10 (.float .f64 (double.write ((Datum.number s m e).integral .down))) [] 10 := by
 have hr := recT_ok (P := Tryz.prog) (l := [(273, g273)]) (by simp [ok273])
 have h2 : ∀ H n, g273 [.float .f64 b] H n = some (.float .f64 (double.write ((Datum.number s m e).integral .down)), H, n) := fun H n => by
   simp only [g273]
   rw [h]
 obtain ⟨r, hr2⟩ : ∃ r, double.write ((Datum.number s m e).integral .down) = r := ⟨_, rfl⟩
 rw [hr2] at h2 ⊢
 refine AC.pure Tryz.func250 rfl (by kernel_rfl) rfl [] rfl ?_
 refine E.seq ?_
 refine E.reg hr (by simp; rfl) ?_
 refine E.seq ?_
 refine E.cond (t := true) (by simp) (fun _ => ?_) (fun h => by cases h)
 refine E.seq ?_
 refine E.reg hr (by simp [h2]; rfl) ?_
 refine E.ret ?_
 exact pureK.ret rfl rfl (by simp) (sub_refl _)
def g250 (args : List Value) (H : Heap) (n : Nat) : R := g273 args H n
theorem ok250 : EntOk Tryz.prog (250, g250) := by
 intro args H n v H' n' h
 simp only [g250, g273] at h
 split at h
 · split at h
   · rename_i hb
     injection h with h; injection h with e1 e2; injection e2 with e2 e3; subst e1 e2 e3
     exact AC.liftP rfl (Part.plain (by simp) [] (by simp [Seen]) gsz ⟨_, _, w250 hb⟩)
   · cases h
 · cases h
end Go.Proofs.YtndlfijfjglkdaaGreatDoor

namespace Go.Proofs.YtndlfijfjglkdaaGreatDoor
open Go Go.Ab Go.Proofs Ieee
theorem fin_top {b : Nat} (h : fin32 b = true) : (val32 b).natAbs ≤ 2 ^ 128 * UV := by
 have key : ∀ s m (e : Int), single.read b = .number s m e → m < 2 ^ 24 → e ≤ 104 → (val32 b).natAbs ≤ 2 ^ 128 * UV := fun s m e he hm hle => by
   have : val32 b = sv2 s m e := by unfold val32; rw [he]
   rw [this, sv2_abs]
   unfold mv2 UV
   calc m * 2 ^ (e + 1200).toNat ≤ 2 ^ 24 * 2 ^ 1304 := Nat.mul_le_mul (Nat.le_of_lt hm) (Nat.pow_le_pow_right (by decide) (by omega))
     _ = 2 ^ (24 + 1304) := (Nat.pow_add ..).symm
     _ = 2 ^ (128 + 1200) := by rw [show 24 + 1304 = 128 + 1200 from rfl]
     _ = 2 ^ 128 * 2 ^ 1200 := Nat.pow_add 2 128 1200
 have hr := read32 b
 have hm := Nat.mod_lt (b % 2 ^ 31) (y := 2 ^ 23) (by decide)
 by_cases c1 : b % 2 ^ 31 < 2 ^ 23
 · rw [if_pos c1] at hr
   exact key _ _ _ hr (by omega) (by omega)
 rw [if_neg c1] at hr
 by_cases c2 : b % 2 ^ 31 < 0x7f800000
 · rw [if_pos c2] at hr
   exact key _ _ _ hr (by omega) (by omega)
 rw [if_neg c2] at hr
 by_cases c3 : b % 2 ^ 31 = 0x7f800000
 · rw [if_pos c3] at hr
   unfold fin32 at h
   rw [hr] at h
   cases h
 · rw [if_neg c3] at hr
   unfold fin32 at h
   rw [hr] at h
   cases h
theorem max64 : fin64 9218868437227405311 = true ∧ ((2 ^ 128 * UV : Nat) : Int) ≤ val64 9218868437227405311 := by
 have h : double.read 9218868437227405311 = .number false 9007199254740991 971 := by rw [read64]; decide
 obtain ⟨q1, q2⟩ := fin64_of h
 refine ⟨q1, ?_⟩
 rw [q2]
 show _ ≤ ((mv2 9007199254740991 971 : Nat) : Int)
 have : 2 ^ 128 * UV ≤ mv2 9007199254740991 971 := by
   unfold mv2 UV
   calc 2 ^ 128 * 2 ^ 1200 = 2 ^ (128 + 1200) := (Nat.pow_add ..).symm
     _ ≤ 2 ^ ((971 : Int) + 1200).toNat := Nat.pow_le_pow_right (by decide) (by decide)
     _ ≤ 9007199254740991 * 2 ^ ((971 : Int) + 1200).toNat := Nat.le_mul_of_pos_left _ (by decide)
 exact Int.ofNat_le.2 this
theorem abs64 {b : Nat} (h : fin64 b = true) : fin64 (b % 2 ^ 63) = true ∧ val64 (b % 2 ^ 63) = ((val64 b).natAbs : Int) := by
 have key : ∀ s m (e : Int), double.read b = .number s m e → double.read (b % 2 ^ 63) = .number false m e → fin64 (b % 2 ^ 63) = true ∧ val64 (b % 2 ^ 63) = ((val64 b).natAbs : Int) := fun s m e h1 h2 => by
   obtain ⟨q1, q2⟩ := fin64_of h1
   obtain ⟨q3, q4⟩ := fin64_of h2
   refine ⟨q3, ?_⟩
   rw [q4, q2, sv2_abs]
   rfl
 have hr := read64 b
 have hr2 := read64 (b % 2 ^ 63)
 have e1 : b % 2 ^ 63 % 2 ^ 63 = b % 2 ^ 63 := Nat.mod_mod ..
 have e2 : (b % 2 ^ 63 / 2 ^ 63 % 2 == 1) = false := by
   rw [Nat.div_eq_of_lt (Nat.mod_lt _ (by decide))]
   rfl
 rw [e1, e2] at hr2
 by_cases c1 : b % 2 ^ 63 < 2 ^ 52
 · rw [if_pos c1] at hr hr2
   exact key _ _ _ hr hr2
 rw [if_neg c1] at hr hr2
 by_cases c2 : b % 2 ^ 63 < 0x7ff0000000000000
 · rw [if_pos c2] at hr hr2
   exact key _ _ _ hr hr2
 rw [if_neg c2] at hr
 unfold fin64 at h
 by_cases c3 : b % 2 ^ 63 = 0x7ff0000000000000
 · rw [if_pos c3] at hr
   rw [hr] at h
   cases h
 · rw [if_neg c3] at hr
   rw [hr] at h
   cases h
theorem not_inf {r : Nat} (h : fin64 r = true) (hv : (val64 r).natAbs ≤ 2 ^ 128 * UV) : isInf r = false := by
 obtain ⟨h1, h2⟩ := abs64 h
 unfold isInf
 rw [ord64 h1 max64.1, cmp_gt, h2]
 have := max64.2
 exact decide_eq_false (by omega)
theorem not_nan {r : Nat} (h : fin64 r = true) : (double.order r r != some Ordering.eq) = false := by
 rw [ord64 h h]
 have : (some (compare (val64 r) (val64 r)) == some Ordering.eq) = true := by rw [cmp_eq]; simp
 simp only [bne, this, Bool.not_true]
theorem d1024 : FloatKind.f64.nearest 1024 = 4652218415073722368 := by decide +kernel
theorem d1024n : FloatKind.f64.nearest (-1024) = 13875590451928498176 := by decide +kernel
theorem cv316 (n : Int) : runP Tryz.prog (convert 3 316 (.int .i64 n)) = some (.float .f64 (FloatKind.f64.nearest n)) := by kernel_rfl
theorem u1024 : fin64 4652218415073722368 = true ∧ val64 4652218415073722368 = (2 ^ 10 * UV : Nat) := by
 have h : double.read 4652218415073722368 = .number false 4503599627370496 (-42) := by rw [read64]; decide
 obtain ⟨q1, q2⟩ := fin64_of h
 refine ⟨q1, ?_⟩
 rw [q2]
 show ((mv2 4503599627370496 (-42) : Nat) : Int) = _
 rw [show (4503599627370496 : Nat) = 2 ^ 52 from rfl, mv2_two (k := 10) (by decide)]
theorem u1024n : fin64 13875590451928498176 = true ∧ val64 13875590451928498176 = -((2 ^ 10 * UV : Nat) : Int) := by
 have h : double.read 13875590451928498176 = .number true 4503599627370496 (-42) := by rw [read64]; decide
 obtain ⟨q1, q2⟩ := fin64_of h
 refine ⟨q1, ?_⟩
 rw [q2]
 show -((mv2 4503599627370496 (-42) : Nat) : Int) = _
 rw [show (4503599627370496 : Nat) = 2 ^ 52 from rfl, mv2_two (k := 10) (by decide)]
theorem cvFF0 (b : Nat) : runP Tryz.prog (convert 98 316 (.float .f32 b)) = runP Tryz.prog (Conv.floatToFloat .f32 b .f64) := by kernel_rfl
theorem cvFF {b : Nat} (h : fin32 b = true) : ∃ r, runP Tryz.prog (convert 98 316 (.float .f32 b)) = some (.float .f64 r) ∧ fin64 r = true ∧ val64 r = val32 b ∧ r < 2 ^ 64 := by
 obtain ⟨s, m, e, h1, h2, h3⟩ := wide h
 refine ⟨_, ?_, h2, h3, ?_⟩
 · rw [cvFF0]
   have hd : FloatKind.f32.decode b = .number s m e := h1
   unfold Conv.floatToFloat
   rw [if_neg (by decide)]
   rw [hd]
   obtain ⟨s2, m2, e2, q1, _⟩ := fin64_form h2
   have hi : (FloatKind.f64.decode (FloatKind.f64.encode (.number s m e))).isInfinity = false := by
     show (double.read (double.write (.number s m e))).isInfinity = false
     rw [q1]; rfl
   simp only [hi, Bool.false_eq_true, if_false]
   rfl
 · exact double.write_lt _
theorem cvInf {b : Nat} {s : Bool} (h : single.read b = .infinity s) : runP Tryz.prog (convert 98 316 (.float .f32 b)) = some (.float .f64 (if s then 18442240474082181120 else 9218868437227405312)) := by
 rw [cvFF0]
 have hd : FloatKind.f32.decode b = .infinity s := h
 unfold Conv.floatToFloat
 rw [if_neg (by decide), hd]
 cases s <;> rfl
theorem cvNan {b : Nat} {s : Bool} {f : Nat} (h : single.read b = .nan s f) : RunQ Tryz.prog (convert 98 316 (.float .f32 b)) fun v => ∃ q, v = .float .f64 q ∧ nanB .f64 q := fun w => by
 have e0 : (convert 98 316 (.float .f32 b)).run Tryz.prog w = (Conv.floatToFloat .f32 b .f64).run Tryz.prog w := by kernel_rfl
 have hd : FloatKind.f32.decode b = .nan s f := h
 rw [e0]
 unfold Conv.floatToFloat
 rw [if_neg (by decide), hd]
 refine ⟨_, w.drawn + 1, ?_, _, rfl, cut_conv .f64 b (w.tape w.drawn (.nanConv .f64 b))⟩
 simp [Question.forced]
end Go.Proofs.YtndlfijfjglkdaaGreatDoor

namespace Go.Proofs.YtndlfijfjglkdaaGreatDoor
open Go Go.Ab Go.Proofs Ieee
theorem inf_pos : (double.order 9218868437227405312 9218868437227405312 != some Ordering.eq) = false ∧ isInf 9218868437227405312 = true := by decide +kernel
theorem inf_neg : (double.order 18442240474082181120 18442240474082181120 != some Ordering.eq) = false ∧ isInf 18442240474082181120 = true := by decide +kernel
set_option maxRecDepth 20000 in
theorem w208 (b : Nat) : AC Tryz.prog 208 [.float .f32 b, iv 1024] [] 10 (iv (err32 b)) [] 10 := by
 have hr := recT_ok (P := Tryz.prog) (l := [(248, gFd fun b => .bool (double.order b b != some .eq)), (249, g249), (250, g250), (28, g114)]) (by simp only [List.forall_mem_cons]; exact ⟨ok248, ok249, ok250, ok28, by simp⟩)
 have g48 : ∀ q H m, gFd (fun b => .bool (double.order b b != some .eq)) [.float .f64 q] H m = some (.bool (double.order q q != some .eq), H, m) := fun _ _ _ => rfl
 refine AC.pure Tryz.func208 rfl (by kernel_rfl) rfl [] rfl ?_
 refine E.seq ?_
 refine E.reg hr (by simp; rfl) ?_
 cases h : fin32 b with
 | false =>
   have he : err32 b = 1 := by unfold err32; rw [h]; rfl
   rcases fin_none h with ⟨s, f, e⟩ | ⟨s, e⟩
   · refine EN.join (e := .ret) { fr := [(4, iv 1)], sz := 34, H := [], n := 10, marks := [], vs := [] } (EN.seq ?_) (pureK.ret rfl rfl (by simp [he]) (sub_refl _))
     apply EN.opn (Q := fun v => ∃ q, v = .float .f64 q ∧ nanB .f64 q) (hr := hr) (i := 1)
     case ho => rfl
     case hpre => simp [opsF_cons, opsF_nil, oneF_plain]; rfl
     case hg => rfl
     case hd => rfl
     case hop => exact .conv (by simp; rfl) rfl
     case hq => exact cvNan e
     case haf =>
       rintro v ⟨q, rfl, _⟩
       rfl
     case hpost =>
       rintro v ⟨q, rfl, hq⟩
       have ho : (double.order q q != some Ordering.eq) = true := by
         have : double.order q q = none := nan_ord (k := .f64) hq
         rw [this]
         rfl
       refine ⟨_, by simp [opsF_cons, opsF_nil, oneF_plain]; rfl, E.toN ?_⟩
       refine E.seq ?_
       refine E.seq ?_
       refine E.reg hr (by simp [g48, ho, yieldedA, undefV]; rfl) ?_
       refine E.cond (t := true) (by simp) (fun _ => ?_) (fun h => by cases h)
       refine E.seq ?_
       refine E.reg hr (by simp; rfl) ?_
       refine E.ret ?_
       exact ⟨rfl, .keep rfl rfl rfl (by simp) (Sub.refl _)⟩
   · have hc := cvInf e
     cases s with
     | true =>
       obtain ⟨i1, i2⟩ := inf_neg
       have g9 : ∀ H m, g249 [.float .f64 18442240474082181120, .int .i64 0] H m = some (.bool true, H, m) := fun H m => by
         have : g249 [.float .f64 18442240474082181120, .int .i64 0] H m = if (18442240474082181120 : Nat) < 2 ^ 64 ∧ (0 : Int) = 0 then some (.bool (isInf 18442240474082181120), H, m) else none := rfl
         rw [this, if_pos ⟨by decide, rfl⟩, i2]
       refine E.seq ?_
       refine E.reg hr (by simp [opConvert, hc]; rfl) ?_
       refine E.seq ?_
       refine E.seq ?_
       refine E.reg hr (by simp [g48, i1, g9, yieldedA]; rfl) ?_
       refine E.cond (t := true) (by simp) (fun _ => ?_) (fun h => by cases h)
       refine E.seq ?_
       refine E.reg hr (by simp; rfl) ?_
       refine E.ret ?_
       exact pureK.ret rfl rfl (by simp [he]) (sub_refl _)
     | false =>
       obtain ⟨i1, i2⟩ := inf_pos
       have g9 : ∀ H m, g249 [.float .f64 9218868437227405312, .int .i64 0] H m = some (.bool true, H, m) := fun H m => by
         have : g249 [.float .f64 9218868437227405312, .int .i64 0] H m = if (9218868437227405312 : Nat) < 2 ^ 64 ∧ (0 : Int) = 0 then some (.bool (isInf 9218868437227405312), H, m) else none := rfl
         rw [this, if_pos ⟨by decide, rfl⟩, i2]
       refine E.seq ?_
       refine E.reg hr (by simp [opConvert, hc]; rfl) ?_
       refine E.seq ?_
       refine E.seq ?_
       refine E.reg hr (by simp [g48, i1, g9, yieldedA]; rfl) ?_
       refine E.cond (t := true) (by simp) (fun _ => ?_) (fun h => by cases h)
       refine E.seq ?_
       refine E.reg hr (by simp; rfl) ?_
       refine E.ret ?_
       exact pureK.ret rfl rfl (by simp [he]) (sub_refl _)
 | true =>
   obtain ⟨r, c1, c2, c3, c4⟩ := cvFF h
   have ht := fin_top h
   have i1 := not_nan c2
   have i2 := not_inf c2 (by rw [c3]; exact ht)
   have g9 : ∀ H m, g249 [.float .f64 r, .int .i64 0] H m = some (.bool false, H, m) := fun H m => by
     show (if _ then _ else _) = _
     rw [if_pos ⟨c4, rfl⟩, i2]
   refine E.seq ?_
   refine E.reg hr (by simp [opConvert, c1]; rfl) ?_
   refine E.seq ?_
   refine E.seq ?_
   refine E.reg hr (by simp [g48, i1, g9, yieldedA]; rfl) ?_
   refine E.cond (t := false) (by simp) (fun h => by cases h) (fun _ => ?_)
   refine E.skip ?_
   refine E.seq ?_
   have q1 : (FloatKind.f64.format.order r 4652218415073722368 == some Ordering.gt) = decide (((2 ^ 10 * UV : Nat) : Int) < val32 b) := by
     have : FloatKind.f64.format.order r 4652218415073722368 = some (compare (val64 r) (val64 4652218415073722368)) := ord64 c2 u1024.1
     rw [this, cmp_gt, u1024.2, c3]
   have q2 : (FloatKind.f64.format.order r 13875590451928498176 == some Ordering.lt) = decide (val32 b < -((2 ^ 10 * UV : Nat) : Int)) := by
     have : FloatKind.f64.format.order r 13875590451928498176 = some (compare (val64 r) (val64 13875590451928498176)) := ord64 c2 u1024n.1
     rw [this, cmp_lt, u1024n.2, c3]
   obtain ⟨U, hU⟩ : ∃ U : Nat, 2 ^ 10 * UV = U := ⟨_, rfl⟩
   rw [hU] at q1 q2
   have hwm : IntKind.i64.wrap (-1024) = -1024 := by decide
   by_cases a1 : (U : Int) < val32 b
   · have he : err32 b = 3 := by unfold err32; rw [h, good_false (by rw [hU]; omega)]; rfl
     rw [decide_eq_true a1] at q1
     refine E.reg hr (by simp [opConvert, cv316, d1024, bin_fgtr, q1, g114, yieldedA, undefV]; rfl) ?_
     refine E.ret ?_
     exact pureK.ret rfl rfl (by simp [he, whenV]) (sub_refl _)
   rw [decide_eq_false a1] at q1
   by_cases a2 : val32 b < -(U : Int)
   · have he : err32 b = 3 := by unfold err32; rw [h, good_false (by rw [hU]; omega)]; rfl
     rw [decide_eq_true a2] at q2
     refine E.reg hr (by simp [opConvert, cv316, d1024, d1024n, bin_fgtr, bin_flss, q1, q2, hwm, g114, yieldedA, undefV]; rfl) ?_
     refine E.ret ?_
     exact pureK.ret rfl rfl (by simp [he, whenV]) (sub_refl _)
   rw [decide_eq_false a2] at q2
   have hs : (val32 b).natAbs ≤ 2 ^ 10 * UV := by rw [hU]; omega
   obtain ⟨r2, m1, m2, m3⟩ := mul64 c2 (by rw [c3]; exact hs)
   have hs2 : (val64 r2).natAbs ≤ 2 ^ 14 * UV := by
     rw [m3, c3, Int.natAbs_mul, show (16 : Int).natAbs = 2 ^ 4 from rfl]
     calc 2 ^ 4 * (val32 b).natAbs ≤ 2 ^ 4 * (2 ^ 10 * UV) := Nat.mul_le_mul_left _ hs
       _ = 2 ^ 14 * UV := by rw [← Nat.mul_assoc]
   obtain ⟨s, m, e, e1, fl, e2, e3, e4⟩ := floor64 m2 hs2
   have g5 : ∀ H k, g250 [.float .f64 r2] H k = some (.float .f64 fl, H, k) := fun H k => by
     simp only [g250, g273]
     rw [e1]
     simp only
     rw [e2]
   have q3 : (FloatKind.f64.format.order r2 fl != some Ordering.eq) = !good32 b := by
     have ho : FloatKind.f64.format.order r2 fl = some (compare (val64 r2) (val64 fl)) := ord64 m2 e3
     have hg : good32 b = decide (UV ∣ (16 * val32 b).natAbs) := by
       unfold good32
       rw [h, decide_eq_true hs]
       rfl
     rw [ho, hg]
     simp only [bne]
     rw [cmp_eq]
     congr 1
     refine decide_eq_decide.2 ?_
     rw [eq_comm, e4, m3, c3]
   refine E.reg hr (by simp [opConvert, cv316, d1024, d1024n, bin_fgtr, bin_flss, bin_fneql, bin_fmul (k := .f64) m1, g5, q1, q2, q3, hwm, g114, yieldedA]; rfl) ?_
   refine E.ret ?_
   refine pureK.ret rfl rfl ?_ (sub_refl _)
   unfold err32
   rw [h]
   cases good32 b <;> simp [whenV]
def g208 (args : List Value) (H : Heap) (n : Nat) : R := match args with
 | [.float .f32 b, .int .i64 m] => if m = 1024 then some (iv (err32 b), H, n) else none
 | _ => none
theorem ok208 : EntOk Tryz.prog (208, g208) := by
 intro args H n v H' n' h'
 simp only [g208] at h'
 split at h'
 · split at h'
   · rename_i hm
     subst hm
     injection h' with h'; injection h' with e1 e2; injection e2 with e2 e3; subst e1 e2 e3
     exact AC.liftP rfl (Part.plain (by simp) [] (by simp [Seen]) gsz ⟨_, _, w208 _⟩)
   · cases h'
 · cases h'
theorem w158 (b : Nat) : AC Tryz.prog 158 [.float .f32 b] [] 10 (iv (err32 b)) [] 10 := by
 have hr := recT_ok (P := Tryz.prog) (l := [(208, g208)]) (by simp [ok208])
 refine AC.pure Tryz.func158 rfl (by kernel_rfl) rfl [] rfl ?_
 refine E.seq ?_
 refine E.reg hr (by simp; rfl) ?_
 refine E.seq ?_
 refine E.reg hr (by simp [g208]; rfl) ?_
 refine E.ret ?_
 exact pureK.ret rfl rfl (by simp) (sub_refl _)
theorem ok158 : EntOk Tryz.prog (158, gFl fun b => iv (err32 b)) := okFl (fun _ => rfl) w158
end Go.Proofs.YtndlfijfjglkdaaGreatDoor

namespace Go.Ab
open Go
theorem flat_n {b o : Nat} : flat ⟨b, o, none⟩ = true := rfl
section
variable {n : Nat} {H : Heap}
@[simp] theorem namesOk_tidy : namesOk n (tidy n H) = true := (namesOk_tidyL _).1
@[simp] theorem plainH_tidy : plainH (tidy n H) = true := (namesOk_tidyL _).2
theorem tidy_lt : ∀ k b, hget (tidy n H) k = some b → k < n := fun _ _ h => (hget_tidy.1 h).2.1
@[simp] theorem tidy_new : hget (tidy n H) n = none := (no_new tidy_lt).1
@[simp] theorem tidy_new' {c : Nat} : hget (tidy n H) (n + c) = none := (no_new tidy_lt).2 c
end
theorem hdel_none : ∀ {H : Heap} {n : Nat}, hget H n = none → hdel H n = H
 | [], _, _ => rfl
 | (k, b) :: H, n, h => by
   rw [hget_cons] at h
   split at h
   · cases h
   · rename_i hne
     rw [hdel, beq_dec, decide_eq_false hne]
     rw [hdel_none h]
@[simp] theorem sne2 {n : Nat} : (n + 1 + 1 = n) = False := eq_false (by omega)
@[simp] theorem slt2 {n : Nat} : (n < n + 1 + 1) = True := eq_true (by omega)
@[simp] theorem sne3 {n : Nat} : (n + 1 + 1 + 1 = n) = False := eq_false (by omega)
@[simp] theorem slt3 {n : Nat} : (n < n + 1 + 1 + 1) = True := eq_true (by omega)
@[simp] theorem sle3 {n : Nat} : (n ≤ n + 1 + 1 + 1) = True := eq_true (by omega)
@[simp] theorem sne4 {n : Nat} : (n + 1 + 1 + 1 + 1 = n) = False := eq_false (by omega)
@[simp] theorem slt4 {n : Nat} : (n < n + 1 + 1 + 1 + 1) = True := eq_true (by omega)
@[simp] theorem sne5 {n : Nat} : (n + 1 + 1 + 1 + 1 + 1 = n) = False := eq_false (by omega)
@[simp] theorem slt5 {n : Nat} : (n < n + 1 + 1 + 1 + 1 + 1) = True := eq_true (by omega)
@[simp] theorem sne6 {n : Nat} : (n + 1 + 1 + 1 + 1 + 1 + 1 = n) = False := eq_false (by omega)
@[simp] theorem slt6 {n : Nat} : (n < n + 1 + 1 + 1 + 1 + 1 + 1) = True := eq_true (by omega)
@[simp] theorem sne7 {n : Nat} : (n + 1 + 1 + 1 + 1 + 1 + 1 + 1 = n) = False := eq_false (by omega)
@[simp] theorem slt7 {n : Nat} : (n < n + 1 + 1 + 1 + 1 + 1 + 1 + 1) = True := eq_true (by omega)
@[simp] theorem sne8 {n : Nat} : (n + 1 + 1 + 1 + 1 + 1 + 1 + 1 + 1 = n) = False := eq_false (by omega)
@[simp] theorem slt8 {n : Nat} : (n < n + 1 + 1 + 1 + 1 + 1 + 1 + 1 + 1) = True := eq_true (by omega)
@[simp] theorem sle8 {n : Nat} : (n ≤ n + 1 + 1 + 1 + 1 + 1 + 1 + 1 + 1) = True := eq_true (by omega)
@[simp] theorem sne9 {n : Nat} : (n + 1 + 1 + 1 + 1 + 1 + 1 + 1 + 1 + 1 = n) = False := eq_false (by omega)
@[simp] theorem slt9 {n : Nat} : (n < n + 1 + 1 + 1 + 1 + 1 + 1 + 1 + 1 + 1) = True := eq_true (by omega)
theorem put_at {α : Type} {cs : List α} {i : Nat} {v : α} (h : i < cs.length) : cs.take i ++ [v] ++ cs.drop (i + 1) = cs.set i v := by
 rw [List.set_eq_take_append_cons_drop, if_pos h, List.append_assoc]
 rfl
theorem store_at {H : Heap} {b i : Nat} {t : TypeId} {cs : List Value} {v : Value} (h : hget H b = some (.cells cs t)) (hi : i < cs.length) : storeA H b i [v] = some (hset H b (.cells (cs.set i v) t)) := by
 unfold storeA
 rw [h]
 simp only [List.length_cons, List.length_nil, putL]
 rw [if_pos (by omega), put_at hi]
theorem hget_set {H : Heap} {b k : Nat} {x : Blk} : hget (hset H b x) k = if b = k then (hget H b).map fun _ => x else hget H k := by
 rw [hget_hset]
theorem namesOk_iff {k : Nat} : ∀ {H : Heap}, namesOk k H = true ↔ ∀ x ∈ H, x.1 < k
 | [] => by simp [namesOk]
 | (i, b) :: H => by
   rw [namesOk]
   by_cases h : i < k
   · rw [(blt_iff _ _).2 h]
     simp [namesOk_iff (H := H), h]
   · have : Nat.blt i k = false := by rw [← Bool.not_eq_true, blt_iff]; exact h
     rw [this]
     simp [h]
theorem hget_in : ∀ {H : Heap} {k : Nat} {b : Blk}, hget H k = some b → ∃ x ∈ H, x.1 = k
 | [], _, _, h => by cases h
 | (j, c) :: H, k, b, h => by
   rw [hget_cons] at h
   split at h
   · rename_i e; exact ⟨(j, c), List.mem_cons_self .., e⟩
   · obtain ⟨x, hx, e⟩ := hget_in h
     exact ⟨x, List.mem_cons_of_mem _ hx, e⟩
theorem namesOk_none {H : Heap} {k : Nat} (h : namesOk k H = true) : ∀ j, k ≤ j → hget H j = none := fun j hj => by
 cases e : hget H j with
 | none => rfl
 | some b =>
   obtain ⟨x, hx, e⟩ := hget_in e
   have := namesOk_iff.1 h x hx
   omega
theorem hdel_mem : ∀ {H : Heap} {k : Nat} {x : Nat × Blk}, x ∈ hdel H k → x ∈ H
 | [], _, _, h => h
 | (i, b) :: H, k, x, h => by
   rw [hdel] at h
   split at h
   · exact List.mem_cons_of_mem _ (hdel_mem h)
   · rcases List.mem_cons.1 h with rfl | h
     · exact List.mem_cons_self ..
     · exact List.mem_cons_of_mem _ (hdel_mem h)
theorem hset_mem : ∀ {H : Heap} {k : Nat} {c : Blk} {x : Nat × Blk}, x ∈ hset H k c → ∃ y ∈ H, y.1 = x.1
 | [], _, _, _, h => by cases h
 | (i, b) :: H, k, c, x, h => by
   rw [hset] at h
   split at h
   · rcases List.mem_cons.1 h with rfl | h
     · exact ⟨(i, b), List.mem_cons_self .., rfl⟩
     · first
       | exact ⟨x, List.mem_cons_of_mem _ h, rfl⟩
       | (obtain ⟨y, hy, e⟩ := hset_mem h; exact ⟨y, List.mem_cons_of_mem _ hy, e⟩)
   · rcases List.mem_cons.1 h with rfl | h
     · exact ⟨(i, b), List.mem_cons_self .., rfl⟩
     · obtain ⟨y, hy, e⟩ := hset_mem h
       exact ⟨y, List.mem_cons_of_mem _ hy, e⟩
theorem namesOk_hdel {H : Heap} {k j : Nat} (h : namesOk k H = true) : namesOk k (hdel H j) = true := namesOk_iff.2 fun x hx => namesOk_iff.1 h x (hdel_mem hx)
theorem namesOk_hset {H : Heap} {k j : Nat} {c : Blk} (h : namesOk k H = true) : namesOk k (hset H j c) = true := namesOk_iff.2 fun x hx => by
 obtain ⟨y, hy, e⟩ := hset_mem hx
 have := namesOk_iff.1 h y hy
 omega
theorem namesOk_put {H : Heap} {k j : Nat} {c : Blk} (hj : j < k) (h : namesOk k H = true) : namesOk k ((j, c) :: H) = true := by
 rw [namesOk, (blt_iff _ _).2 hj]; exact h
theorem takeNew_app {n : Nat} {B : Heap} : ∀ {A : Heap}, (∀ x ∈ A, n ≤ x.1) → takeNew n (A ++ B) = A ++ takeNew n B
 | [], _ => rfl
 | (k, b) :: A, h => by
   have : Nat.ble n k = true := Nat.ble_eq_true_of_le (h (k, b) (List.mem_cons_self ..))
   rw [List.cons_append, takeNew, this]
   simp only
   rw [takeNew_app fun x hx => h x (List.mem_cons_of_mem _ hx)]
   rfl
theorem plainH_app {B : Heap} : ∀ {A : Heap}, plainH A = true → plainH B = true → plainH (A ++ B) = true
 | [], _, h => h
 | (k, b) :: A, h1, h2 => by
   rw [plainH] at h1
   rw [List.cons_append, plainH]
   rw [Bool.and_eq_true] at h1 ⊢
   exact ⟨h1.1, plainH_app h1.2 h2⟩
theorem namesOk_app {n : Nat} {A B : Heap} (h1 : ∀ x ∈ A, x.1 < n) (h2 : namesOk n B = true) : namesOk n (A ++ B) = true := namesOk_iff.2 fun x hx => by
 rcases List.mem_append.1 hx with h | h
 · exact h1 x h
 · exact namesOk_iff.1 h2 x h
def names (c : Nat) : Nat → List Nat
 | 0 => []
 | k + 1 => c :: names (c + 1) k
theorem names_len : ∀ (k c : Nat), (names c k).length = k
 | 0, _ => rfl
 | k + 1, c => by simp [names, names_len k]
theorem names_get : ∀ (k c i : Nat), i < k → (names c k)[i]? = some (c + i)
 | 0, _, _, h => by omega
 | k + 1, c, 0, _ => by simp [names]
 | k + 1, c, i + 1, h => by
   rw [names, List.getElem?_cons_succ, names_get k (c + 1) i (by omega)]
   congr 1; omega
theorem names_ge : ∀ (k c m : Nat), m ∈ names c k → c ≤ m ∧ m < c + k
 | 0, _, _, h => by cases h
 | k + 1, c, m, h => by
   rcases List.mem_cons.1 h with rfl | h
   · omega
   · have := names_ge k (c + 1) m h
     omega
structure RowK (α : Type) (dec : Dec α) where
 val : Nat → List α → Value
 blk : List α → Blk
 ren : ∀ (ρ : Nat → Nat) m l, Ab.ren ρ (val m l) = val (ρ m) l
 sc : ∀ (p : Nat → Prop) m l, p m → Ab.sc p (val m l)
 fix : ∀ (ρ : Nat → Nat) l, renB ρ (blk l) = blk l
 scB : ∀ (p : Nat → Prop) l, Ab.scB p (blk l)
 car : ∀ l, carried (blk l)
 own : ∀ l, (blk l).own = true
 see : ∀ H m l, hget H m = some (blk l) → l.length < 2147483648 → listV 1 dec H (val m l) = some l
structure LstK where
 val : Nat → Nat → Value
 blk : List Value → Blk
 ren : ∀ (ρ : Nat → Nat) m k, Ab.ren ρ (val m k) = val (ρ m) k
 sc : ∀ (p : Nat → Prop) m k, p m → Ab.sc p (val m k)
 af : ∀ m k, Ab.af (val m k) = false
 fix : ∀ (ρ : Nat → Nat) l, renB ρ (blk l) = blk (renL ρ l)
 scB : ∀ (p : Nat → Prop) l, scL p l → Ab.scB p (blk l)
 car : ∀ l, carried (blk l)
 own : ∀ l, (blk l).own = true
 cells : ∀ H m l, hget H m = some (blk l) → cellsA H m 0 l.length = some l
 form : ∀ m k, ∃ s c, val m k = .slice (some ⟨m, 0, s⟩) k c ∧ flat ⟨m, 0, s⟩ = true
structure En (α : Type) (dec : Dec α) where
 to : α → Value
 ren : ∀ (ρ : Nat → Nat) x, Ab.ren ρ (to x) = to x
 sc : ∀ (p : Nat → Prop) x, Ab.sc p (to x)
 one : ∀ H x, dec H [to x] = some x
theorem En.renL {α : Type} {dec : Dec α} (e : En α dec) (ρ : Nat → Nat) : ∀ l : List α, Ab.renL ρ (l.map e.to) = l.map e.to
 | [] => rfl
 | x :: l => by simp only [List.map_cons, Ab.renL, e.ren, e.renL ρ l]
theorem En.scL {α : Type} {dec : Dec α} (e : En α dec) (p : Nat → Prop) : ∀ l : List α, Ab.scL p (l.map e.to)
 | [] => trivial
 | x :: l => ⟨e.sc p x, e.scL p l⟩
theorem En.dec {α : Type} {dec : Dec α} (e : En α dec) {H : Heap} {l : List α} (i : Nat) (v : Value) (h : (l.map e.to)[i]? = some v) : dec H [v] = l[i]? := by
 rw [List.getElem?_map, Option.map_eq_some_iff] at h
 obtain ⟨x, hx, rfl⟩ := h
 rw [e.one, hx]
def kCp {α : Type} {dec : Dec α} (e : En α dec) (t : TypeId) : RowK α dec where
 val := fun m l => if l.length = 0 then .slice (some ⟨m, 0, none⟩) 0 0 else .slice (some ⟨m, 0, some 0⟩) l.length 0
 blk := fun l => if l.length = 0 then .cells [] t else .ext (l.map e.to) t 1
 ren := fun ρ m l => by split <;> rfl
 sc := fun p m l h => by split <;> exact h
 fix := fun ρ l => by
   split
   · simp [renB, Ab.renL]
   · simp only [renB, e.renL]
 scB := fun p l => by
   split
   · trivial
   · exact e.scL p l
 car := fun l => by split <;> trivial
 own := fun l => by split <;> rfl
 see := fun H m l h hl => by
   by_cases h0 : l.length = 0
   · obtain rfl := List.length_eq_zero_iff.1 h0
     rfl
   · rw [if_neg h0] at h ⊢
     exact listV_mk (cs := l.map e.to) rfl (by rw [cellsA_eq, h]; simp [cellsB]; exact List.take_of_length_le (by simp)) (by simp) hl fun i v hv => e.dec i v hv
def oMk (t : TypeId) : LstK where
 val := fun m k => .slice (some ⟨m, 0, none⟩) k k
 blk := fun l => .cells l t
 ren := fun ρ m l => rfl
 sc := fun p m l h => h
 af := fun m k => rfl
 fix := fun ρ l => rfl
 scB := fun p l h => h
 car := fun l => trivial
 own := fun l => rfl
 cells := fun H m l h => by rw [cellsA_eq, h]; simp [cellsB]
 form := fun m k => ⟨none, k, rfl, rfl⟩
end Go.Ab

namespace Go.Soft
end Go.Soft

namespace Go.Proofs.YtndlfijfjglkdaaGreatDoor
open Go Go.Ab Go.Proofs
abbrev gAgg (g : Gun) : Value := .agg ⟨[.string g.name, iv g.v, iv g.x, iv g.y, iv g.d, iv g.lo, iv g.hi]⟩
end Go.Proofs.YtndlfijfjglkdaaGreatDoor

namespace Go.Proofs.YtndlfijfjglkdaaGreatDoor
open Go Go.Ab Go.Proofs Go.Soft
theorem gcs_lenB : ∀ l : List Gun, (gcs l).length = l.length * 7
 | [] => rfl
 | g :: l => by
   have := gcs_lenB l
   unfold gcs at this ⊢
   rw [List.flatMap_cons, List.length_append, this, List.length_cons]
   show 7 + l.length * 7 = (l.length + 1) * 7
   omega
theorem gcs_appendB (a b : List Gun) : gcs (a ++ b) = gcs a ++ gcs b := by simp [gcs]
theorem gcs_atB {l : List Gun} {j : Nat} (hj : j < l.length) : ((gcs l).drop (j * 7)).take 7 = Gun.cells l[j] := by
 have e : l = l.take j ++ l[j] :: l.drop (j + 1) := by rw [← List.drop_eq_getElem_cons hj, List.take_append_drop]
 have hlen : (gcs (l.take j)).length = j * 7 := by rw [gcs_lenB, List.length_take]; congr 1; omega
 have h1 : gcs l = gcs (l.take j) ++ (Gun.cells l[j] ++ gcs (l.drop (j + 1))) := by
   conv => lhs; rw [e, gcs_appendB]
   rfl
 rw [h1, List.drop_left' hlen]
 exact List.take_left' rfl
end Go.Proofs.YtndlfijfjglkdaaGreatDoor

namespace Go.Proofs.YtndlfijfjglkdaaGreatDoor
open Go Go.Ab Go.Proofs Go.Soft
theorem load95 {H : Heap} {m o : Nat} {s : Option Nat} {g : Gun} (h : cellsA H m o 7 = some (Gun.cells g)) : loadA Tryz.prog 95 H (.pointer (some ⟨m, o, s⟩)) = some (gAgg g) := by
 simp only [loadA, ag95, sz95, h, Option.map_some]
end Go.Proofs.YtndlfijfjglkdaaGreatDoor

namespace Go.Proofs.YtndlfijfjglkdaaGreatDoor
open Go Go.Ab Go.Proofs Go.Soft
theorem gcs_injB : ∀ {a b : List Gun}, gcs a = gcs b → a = b
 | [], [], _ => rfl
 | [], g :: b, h => by have := congrArg List.length h; rw [gcs_lenB, gcs_lenB] at this; simp at this
 | g :: a, [], h => by have := congrArg List.length h; rw [gcs_lenB, gcs_lenB] at this; simp at this
 | g :: a, g' :: b, h => by
   have e1 : gcs (g :: a) = Gun.cells g ++ gcs a := rfl
   have e2 : gcs (g' :: b) = Gun.cells g' ++ gcs b := rfl
   rw [e1, e2] at h
   obtain ⟨h1, h2⟩ := List.append_inj h rfl
   obtain ⟨s, v, x, y, f, l, u⟩ := g
   obtain ⟨s', v', x', y', f', l', u'⟩ := g'
   simp only [Gun.cells, List.cons.injEq, Value.string.injEq, Value.int.injEq, true_and, and_true] at h1
   obtain ⟨rfl, rfl, rfl, rfl, rfl, rfl, rfl⟩ := h1
   rw [gcs_injB h2]
end Go.Proofs.YtndlfijfjglkdaaGreatDoor

namespace Go.Proofs.YtndlfijfjglkdaaGreatDoor
open Go Go.Ab Go.Proofs Go.Soft
def GunsAt (H : Heap) (v : Value) (l : List Gun) : Prop := ∃ a c, v = .slice (some a) l.length c ∧ flat a = true ∧ cellsA H a.block a.off (l.length * 7) = some (gcs l) ∧ 0 < l.length ∧ l.length < 2147483648
end Go.Proofs.YtndlfijfjglkdaaGreatDoor

namespace Go.Proofs.YtndlfijfjglkdaaGreatDoor
open Go Go.Ab Go.Proofs Go.Soft
end Go.Proofs.YtndlfijfjglkdaaGreatDoor

namespace Go.Ab
open Go
mutual
theorem ren_af (ρ : Nat → Nat) : ∀ v, af v = true → ren ρ v = v
 | .bool _, _ | .int _ _, _ | .float _ _, _ | .complex _ _ _, _ | .string _, _ | .nilFunc, _ | .nilIface, _ | .chan _, _ => by simp [ren]
 | .pointer none, _ | .slice none _ _, _ | .map none, _ => by simp [ren]
 | .pointer (some a), hs | .slice (some _) _ _, hs | .map (some r), hs | .func (.yield l) a b, hs => by simp [af] at hs
 | .func (.func f) a b, hs | .func (.method f) a b, hs | .func (.methodOf _ f) a b, hs | .func (.via _ _ f _) a b, hs => by
   simp only [af, Bool.and_eq_true] at hs
   simp only [ren]
   rw [renL_af ρ _ hs.1, renL_af ρ _ hs.2]
 | .iface t v, hs => by simp only [ren]; rw [ren_af ρ v (by simpa [af] using hs)]
 | .agg cs, hs => by simp only [ren]; rw [renL_af ρ _ (by simpa [af] using hs)]
 | .tuple cs, hs => by simp only [ren]; rw [renL_af ρ _ (by simpa [af] using hs)]
theorem renL_af (ρ : Nat → Nat) : ∀ vs, afL vs = true → renL ρ vs = vs
 | [], _ => rfl
 | v :: vs, hs => by
   simp only [afL, Bool.and_eq_true] at hs
   simp only [renL]; rw [ren_af ρ v hs.1, renL_af ρ vs hs.2]
end
end Go.Ab

namespace Go.Proofs.YtndlfijfjglkdaaGreatDoor
open Go Go.Ab Go.Proofs Go.Soft
end Go.Proofs.YtndlfijfjglkdaaGreatDoor

namespace Go.Proofs.YtndlfijfjglkdaaGreatDoor
open Go Go.Ab Go.Proofs Go.Soft
theorem GunsAt.one {H : Heap} {v : Value} {l k : List Gun} (h : GunsAt H v l) (h' : GunsAt H v k) : l = k := by
 obtain ⟨a, c, rfl, _, h1, _⟩ := h
 obtain ⟨a', c', e, _, h1', _⟩ := h'
 injection e with e1 e2 e3
 injection e1 with e1
 subst e1
 rw [← e2, h1] at h1'
 injection h1' with h1'
 exact gcs_injB h1'
end Go.Proofs.YtndlfijfjglkdaaGreatDoor

namespace Go.Proofs.YtndlfijfjglkdaaGreatDoor
open Go Go.Ab Go.Proofs Go.Soft
end Go.Proofs.YtndlfijfjglkdaaGreatDoor

namespace Go.Proofs.YtndlfijfjglkdaaGreatDoor
open Go Go.Ab Go.Proofs Go.Soft
end Go.Proofs.YtndlfijfjglkdaaGreatDoor

namespace Go.Proofs.YtndlfijfjglkdaaGreatDoor
open Go Go.Ab Go.Proofs Go.Soft
end Go.Proofs.YtndlfijfjglkdaaGreatDoor

namespace Go.Proofs.YtndlfijfjglkdaaGreatDoor
open Go Go.Ab Go.Proofs Go.Soft
end Go.Proofs.YtndlfijfjglkdaaGreatDoor

namespace Go.Ab
open Go
theorem plainH_hdel : ∀ {H : Heap} {k : Nat}, plainH H = true → plainH (hdel H k) = true
 | [], _, _ => rfl
 | (i, b) :: H, k, h => by
   simp only [plainH, Bool.and_eq_true] at h
   rw [hdel]
   split
   · exact plainH_hdel h.2
   · simp only [plainH, Bool.and_eq_true]
     exact ⟨h.1, plainH_hdel h.2⟩
theorem list_all {cs : List Value} {o n : Nat} {f : Nat → Value} (h : ∀ i, i < n → cs[o + i]? = some (f i)) (hn : 0 < n) : o + n ≤ cs.length ∧ (cs.drop o).take n = (List.range n).map f := by
 have h1 := (List.getElem?_eq_some_iff.1 (h (n - 1) (by omega))).1
 refine ⟨by omega, ?_⟩
 apply List.ext_getElem?
 intro i
 by_cases hi : i < n
 · rw [List.getElem?_take, if_pos hi, List.getElem?_drop, h i hi, List.getElem?_map, List.getElem?_range hi]
   rfl
 · rw [List.getElem?_eq_none (by rw [List.length_take]; omega), List.getElem?_eq_none (by simp; omega)]
theorem cells_all {H : Heap} {k o n : Nat} {f : Nat → Value} (h : ∀ i, i < n → cellA H k (o + i) = some (f i)) (hn : 0 < n) : cellsA H k o n = some ((List.range n).map f) := by
 have h0 := h 0 hn
 rw [cellsA_eq]
 rw [cellA_eq] at h0
 cases hb : hget H k with
 | none => rw [hb] at h0; cases h0
 | some b =>
   have hg : ∀ i, i < n → cellB (o + i) b = some (f i) := fun i hi => by
     have := h i hi
     rw [cellA_eq, hb] at this
     exact this
   rw [Option.bind_some]
   cases b with
   | cells cs t =>
     obtain ⟨h1, h2⟩ := list_all (cs := cs) (o := o) hg hn
     simp only [cellsB, if_pos h1, h2]
   | ext cs t sz =>
     obtain ⟨h1, h2⟩ := list_all (cs := cs) (o := o) hg hn
     simp only [cellsB, if_pos h1, h2]
   | row cs sz =>
     obtain ⟨h1, h2⟩ := list_all (cs := cs) (o := o) hg hn
     simp only [cellsB, if_pos h1, h2]
   | inp o' cs =>
     have h3 : o' ≤ o := by
       have := hg 0 hn
       simp only [cellB] at this
       split at this
       · omega
       · cases this
     obtain ⟨h1, h2⟩ := list_all (cs := cs) (o := o - o') (f := f) (n := n) (fun i hi => by
       have := hg i hi
       simp only [cellB] at this
       rw [if_pos (by omega)] at this
       rwa [show o - o' + i = o + i - o' by omega]) hn
     have h4 : o' ≤ o ∧ o - o' + n ≤ cs.length := ⟨h3, h1⟩
     simp only [cellsB, if_pos h4, h2]
   | tab cs => cases (hg 0 hn)
   | map es cl => cases (hg 0 hn)
   | iter s p => cases (hg 0 hn)
   | miter m s se la => cases (hg 0 hn)
   | defd => cases (hg 0 hn)
   | loop => cases (hg 0 hn)
end Go.Ab

namespace Go.Ab
open Go
def outS (o k : Nat) : Value := if k = 0 then .slice none 0 0 else .slice (some ⟨o, 0, some 0⟩) k 0
@[simp] theorem outS_nil {o : Nat} : outS o 0 = .slice none 0 0 := rfl
theorem outS_ne {o k : Nat} (h : k ≠ 0) : outS o k = .slice (some ⟨o, 0, some 0⟩) k 0 := if_neg h
def outSB (n t sz k : Nat) (cs : List Value) : Heap := if k = 0 then [] else [(n, .ext cs t sz)]
structure GL (L : Heap) (n t sz : Nat) (cs : List Value) (k : Nat) (Hx : Heap) (N o : Nat) : Prop where
 len : cs.length = k * sz
 out : k ≠ 0 → hget Hx o = some (.ext cs t sz) ∧ o < N
 sub : Sub L Hx
 nm : namesOk N Hx = true
 big : n ≤ N
 low : n ≤ o
 pl : plainH Hx = true
section
variable {L Hx : Heap} {n t sz k N o : Nat} {cs new : List Value}
theorem GL.start (hs : Sub L Hx) (hn : namesOk N Hx = true) (hb : n ≤ N) (hp : plainH Hx = true) : GL L n t sz [] 0 Hx N n :=
 ⟨by simp, fun h => absurd rfl h, hs, hn, hb, Nat.le_refl _, hp⟩
theorem GL.skip (hL : ∀ k b, hget L k = some b → k < n) (h : GL L n t sz cs k Hx N o) (b : Blk) (hp : plainB2 b = true) : GL L n t sz cs k ((N, b) :: Hx) (N + 1) o := by
 have hb := h.big
 refine ⟨h.len, fun hk => ?_, fun j b' hj => ?_, namesOk_put (by omega) (namesOk_mono (by omega) _ h.nm), by omega, h.low, by rw [plainH, hp, h.pl]; rfl⟩
 · obtain ⟨h1, h2⟩ := h.out hk
   rw [hget_cons, if_neg (by omega)]
   exact ⟨h1, by omega⟩
 · have := hL j b' hj
   rw [hget_cons, if_neg (by omega)]
   exact h.sub j b' hj
theorem GL.grow (hL : ∀ k b, hget L k = some b → k < n) (h : GL L n t sz cs k Hx N o) {cs' : List Value} {k' : Nat} (hl : cs'.length = k' * sz) : GL L n t sz cs' k' ((N, .ext cs' t sz) :: (if k = 0 then Hx else hdel Hx o)) (N + 1) N := by
 have hb := h.big
 have hlo := h.low
 have hg : ∀ j, j < n → hget (if k = 0 then Hx else hdel Hx o) j = hget Hx j := fun j hj => by
   split
   · rfl
   · rw [hget_hdel, if_neg (by omega)]
 have hn2 : namesOk N (if k = 0 then Hx else hdel Hx o) = true := by
   split
   · exact h.nm
   · exact namesOk_hdel h.nm
 have hp2 : plainH (if k = 0 then Hx else hdel Hx o) = true := by
   split
   · exact h.pl
   · exact plainH_hdel h.pl
 refine ⟨hl, fun _ => ⟨by rw [hget_cons, if_pos rfl], by omega⟩, fun j b hj => ?_, namesOk_put (by omega) (namesOk_mono (by omega) _ hn2), by omega, by omega, by simp [plainH, hp2]⟩
 have := hL j b hj
 rw [hget_cons, if_neg (by omega), hg j this]
 exact h.sub j b hj
theorem GL.app {P : Program} {st : TypeId} {i : TypeInfo} (hL : ∀ k b, hget L k = some b → k < n) (hu : P.underlying st = some (.slice t)) (hi : P.info? t = some i) (hsz : i.size = sz) (hz : zeroOk i = true) (hb : i.bytes ≤ 128) (h : GL L n t sz cs k Hx N o) (hk : k < 2147483647) (hnew : new.length = sz) (hs0 : 0 < sz) (hone : oneL new = true) (hpn : plainB2 (.cells new t) = true) :
   ∃ Hz, builtinA P .append #[st, st] ((N, .cells new t) :: Hx) (N + 1) [outS o k, .slice (some ⟨N, 0, none⟩) 1 1] = some (outS (N + 1) (k + 1), Hz, N + 1 + 1) ∧ GL L n t sz (cs ++ new) (k + 1) Hz (N + 1 + 1) (N + 1) := by
 have h2 := h.skip hL (.cells new t) hpn
 refine ⟨_, ?_, h2.grow hL (by rw [List.length_append, h.len, hnew, Nat.succ_mul])⟩
 have hc : cellsA ((N, .cells new t) :: Hx) N 0 (1 * sz) = some new := by
   rw [cellsA_eq, hget_cons, if_pos rfl]
   simp only [Option.bind_some, cellsB]
   rw [if_pos (by omega), List.drop_zero, List.take_of_length_le (by omega)]
 have hsm1 : smallA i.bytes 1 = true := by
   unfold smallA
   rw [Bool.and_eq_true]
   exact ⟨decide_eq_true (by omega), decide_eq_true (by omega)⟩
 have hsm : smallA i.bytes (k + 1) = true := by
   unfold smallA
   rw [Bool.and_eq_true]
   refine ⟨decide_eq_true ?_, decide_eq_true ?_⟩
   · have := Nat.mul_le_mul_left (k + 1) hb
     omega
   · omega
 have h1 : ¬ 1 * sz = 0 := by omega
 show appendA P #[st, st] _ _ _ _ = _
 unfold appendA
 have hnb : Nat.beq new.length (1 * sz) = true := by rw [hnew, Nat.one_mul, Nat.beq_refl]
 rw [outS_ne (Nat.succ_ne_zero k)]
 by_cases hk0 : k = 0
 · subst hk0
   simp only [outS_nil, List.getElem?_toArray, List.getElem?_cons_zero, List.getElem?_cons_succ, hu, hi, lenX, lenV, srcX, srcA, hsz, if_neg h1, flat_n, if_true, hc, hnb, hone, Bool.and_self]
   unfold appendTo
   have hcs : cs = [] := List.eq_nil_of_length_eq_zero (by rw [h.len, Nat.zero_mul])
   subst hcs
   simp only [and_self, if_true, Nat.one_ne_zero, if_false, hsm1, hz, Bool.and_self, hsz]
   rfl
 · obtain ⟨ho, _⟩ := h2.out hk0
   have hle : ¬ (k + 1) * sz ≤ cs.length := by rw [h.len, Nat.succ_mul]; omega
   have hle2 : k * sz ≤ cs.length := by rw [h.len]; omega
   have htk : cs.take (k * sz) = cs := List.take_of_length_le (by rw [h.len]; omega)
   rw [outS_ne hk0]
   simp only [List.getElem?_toArray, List.getElem?_cons_zero, List.getElem?_cons_succ, hu, hi, lenX, lenV, srcX, srcA, hsz, if_neg h1, flat_n, if_true, hc, hnb, hone, Bool.and_self]
   unfold appendTo
   simp only [ho, hsz, hle2, and_self, if_true, if_neg hle, hsm, hz, Bool.and_self, htk, if_neg hk0]
   rfl
theorem sc_outS {o k : Nat} {p : Nat → Prop} (h : p o) : sc p (outS o k) := by
 unfold outS
 split
 · trivial
 · exact h
theorem ren_outS {o m k : Nat} {ρ : Nat → Nat} (h : ρ o = m) : ren ρ (outS o k) = outS m k := by
 unfold outS
 split
 · rfl
 · simp [ren, h]
theorem GL.fresh {n0 : Nat} (h : GL L n t sz cs k Hx N o) (hn : n0 ≤ n) (haf : afL cs = true) (hren : ∀ ρ, renL ρ cs = cs) : Fresh n0 (n0 + 1) L (outS n0 k) (outSB n0 t sz k cs) (outS o k) Hx := by
 have hlo := h.low
 refine ⟨fun j => if j = n0 then o else j, fun j hj => if_neg (by omega), by rw [ren_outS (ρ := fun j => if j = n0 then o else j) (m := o) (by simp)], fun j b hj => ?_, fun j b j' c hj hj' _ => ?_, h.sub⟩
 · by_cases hk : k = 0
   · rw [outSB, if_pos hk] at hj; cases hj
   · rw [outSB, if_neg hk, hget_cons] at hj
     split at hj
     · rename_i e; subst e; injection hj with hj; subst hj
       refine ⟨Nat.le_refl _, Nat.lt_succ_self _, by simp; omega, ?_, scL_af _ _ haf, trivial, rfl⟩
       simp [renB, hren, (h.out hk).1]
     · cases hj
 · by_cases hk : k = 0
   · rw [outSB, if_pos hk] at hj; cases hj
   · rw [outSB, if_neg hk, hget_cons] at hj hj'
     split at hj
     · split at hj'
       · omega
       · cases hj'
     · cases hj
end
theorem AC.wider {P : Program} {f : FuncId} {args : List Value} {H : Heap} {n : Nat} {v : Value} (h : AC P f args H n v H n) (hr : v = Ab.ren id v) (hv : sc (· < n + 1) v) : AC P f args H n v H (n + 1) :=
 AC.given fun hold _ _ => h.ren id (fun _ _ => rfl) (by omega) hr hv (fun _ _ hk => .inl ⟨hk, hk⟩) fun j b k c hj hk h1 _ _ => absurd (hold j b h1).1 (by omega)
theorem AC.grown {P : Program} {f : FuncId} {fn : Func} {c : Code} {args : List Value} {H : Heap} {n t sz k : Nat} {cs : List Value} (hf : P.funcs[f]? = some fn) (hb : fn.body = some c) (he : enterable P f = true) (hlen : Nat.ble args.length fn.ntmps = true) (vs : List Nat)
   (h : E P n none c { fr := argsFr args 0, sz := fn.ntmps, H, n, marks := [], vs } (outK P fn (Fresh n (n + 1) H (outS n k) (outSB n t sz k cs)))) : AC P f args H n (outS n k) (outSB n t sz k cs ++ H) (n + 1) := by
 by_cases hk : k = 0
 · subst hk
   have h2 : AC P f args H n (.slice none 0 0) H n := AC.pure hf hb he hlen vs rfl (E.mono h fun e st hh => by
     obtain ⟨h1, h2, us, h3, ρ, _, h4, _, _, h5⟩ := hh
     exact ⟨h1, h2, ⟨us, h3, by rw [h4]; rfl⟩, h5⟩)
   exact h2.wider rfl trivial
 · exact AC.fresh hf hb he hlen vs (by omega) (sc_outS (by omega)) (fun ρ => by rw [outS_ne hk]; rfl) h
theorem fresh_none {n t sz : Nat} {H H1 : Heap} {cs : List Value} (hs : Sub H H1) : Fresh n (n + 1) H (outS n 0) (outSB n t sz 0 cs) (.slice none 0 0) H1 :=
 ⟨id, fun _ _ => rfl, rfl, fun k b hk => (by cases hk), fun j b k c hj _ _ => (by cases hj), hs⟩
theorem outSB_ge {n t sz k : Nat} {cs : List Value} : ∀ x ∈ outSB n t sz k cs, n ≤ x.1 := fun x hx => by
 unfold outSB at hx
 split at hx
 · cases hx
 · rw [List.mem_singleton] at hx; subst hx; exact Nat.le_refl _
theorem fresh_sb {n m t sz k : Nat} {cs : List Value} {H Z : Heap} (haf : afL cs = true) (hren : ∀ ρ, renL ρ cs = cs) (hm : n ≤ m) (hs : Sub H Z) (hZ : hget H m = none) : Fresh n (n + 1) H (outS n k) (outSB n t sz k cs) (outS m k) (outSB m t sz k cs ++ Z) := by
 by_cases hk : k = 0
 · subst hk
   exact fresh_none hs
 · have e : outSB m t sz k cs ++ Z = (m, .ext cs t sz) :: Z := by rw [outSB, if_neg hk]; rfl
   rw [e]
   refine ⟨fun j => if j = n then m else j, fun j hj => if_neg (by omega), by rw [ren_outS (ρ := fun j => if j = n then m else j) (m := m) (by simp)], fun j b hj => ?_, fun j b j' c hj hj' _ => ?_, fun j b hj => ?_⟩
   · rw [outSB, if_neg hk, hget_cons] at hj
     split at hj
     · rename_i e; subst e; injection hj with hj; subst hj
       refine ⟨Nat.le_refl _, Nat.lt_succ_self _, by simpa using hm, ?_, scL_af _ _ haf, trivial, rfl⟩
       simp [renB, hren]
     · cases hj
   · rw [outSB, if_neg hk, hget_cons] at hj hj'
     split at hj
     · split at hj'
       · omega
       · cases hj'
     · cases hj
   · rw [hget_cons, if_neg fun e => by rw [e] at hZ; rw [hZ] at hj; cases hj]
     exact hs j b hj
end Go.Ab

namespace Go.Ab
open Go
theorem flat_at {α : Type} {c : α → List Value} {sz : Nat} (hc : ∀ x, (c x).length = sz) : ∀ (l : List α) (i : Nat) (h : i < l.length), ((l.flatMap c).drop (i * sz)).take sz = c l[i]
 | x :: l, 0, _ => by
   simp only [Nat.zero_mul, List.drop_zero, List.flatMap_cons, List.getElem_cons_zero]
   exact List.take_left' (hc x)
 | x :: l, i + 1, h => by
   rw [Nat.succ_mul, Nat.add_comm, ← List.drop_drop, List.flatMap_cons, List.drop_left' (hc x)]
   exact flat_at hc l i (by simpa using h)
theorem flat_len {α : Type} {c : α → List Value} {sz : Nat} (hc : ∀ x, (c x).length = sz) : ∀ l : List α, (l.flatMap c).length = l.length * sz
 | [] => by simp
 | x :: l => by
   rw [List.flatMap_cons, List.length_append, hc, flat_len hc l, List.length_cons, Nat.succ_mul, Nat.add_comm]
theorem listV_flat {α : Type} {c : α → List Value} {sz : Nat} {dec : Dec α} (hc : ∀ x, (c x).length = sz) {H : Heap} (hd : ∀ x, dec H (c x) = some x) {a : Addr} {cap : Nat} {l : List α} (hf : flat a = true) (hcs : cellsA H a.block a.off (l.length * sz) = some (l.flatMap c)) (hlt : l.length < 2147483648) : listV sz dec H (.slice (some a) l.length cap) = some l := by
 show (if l.length < 2147483648 then _ else _) = _
 rw [if_pos hlt]
 by_cases h0 : l.length = 0
 · rw [if_pos h0, List.length_eq_zero_iff.1 h0]
 · rw [if_neg h0, if_pos hf, hcs]
   refine mapO_of (chunks_len _ _ _) fun i x hx => ?_
   by_cases hi : i < l.length
   · rw [chunks_get _ _ _ _ hi] at hx
     injection hx with hx
     rw [← hx, flat_at hc l i hi, hd, List.getElem?_eq_getElem hi]
   · rw [List.getElem?_eq_none (by rw [chunks_len]; omega)] at hx
     cases hx
theorem listV_outS {α : Type} {c : α → List Value} {sz t : Nat} {dec : Dec α} (hc : ∀ x, (c x).length = sz) (hd : ∀ H x, dec H (c x) = some x) {N : Nat} {Z : Heap} {l : List α} (hlt : l.length < 2147483648) : listV sz dec (outSB N t sz l.length (l.flatMap c) ++ Z) (outS N l.length) = some l := by
 by_cases h0 : l.length = 0
 · rw [List.length_eq_zero_iff.1 h0]; rfl
 · rw [outS_ne h0, outSB, if_neg h0]
   refine listV_flat hc (hd _) rfl ?_ hlt
   show cellsA ((N, .ext (l.flatMap c) t sz) :: Z) N 0 _ = _
   rw [cellsA_eq, hget_cons, if_pos rfl]
   simp only [Option.bind_some, cellsB]
   rw [if_pos (by rw [flat_len hc]; omega), List.drop_zero, List.take_of_length_le (by rw [flat_len hc]; omega)]
end Go.Ab

namespace Go.Proofs.YtndlfijfjglkdaaGreatDoor
open Go Go.Ab Go.Proofs Ieee
abbrev fl (b : Nat) : Value := .float .f32 b
def decFl : Dec Nat := fun _ cs => match cs with
 | [.float .f32 b] => some b
 | _ => none
theorem decFl_mono : DecMono decFl := fun _H _H' _cs _y _ h => h
theorem decFl_frz : DecFrz decFl := fun _H _cs => rfl
theorem decFl_tidy : DecTidy decFl := fun _H _n _cs _y _ h => h
abbrev fltV (H : Heap) (v : Value) : Option (List Nat) := listV 1 decFl H v
theorem fltV_form {H : Heap} {v : Value} {l : List Nat} (h : fltV H v = some l) :
   ∃ oa c, v = .slice oa l.length c ∧ l.length < 2147483648 ∧ (oa = none → c = 0) ∧ ∀ i (hi : i < l.length), ∃ a, oa = some a ∧ flat a = true ∧ cellA H a.block (a.off + i) = some (fl l[i]) := by
 obtain ⟨oa, c, e, h1, h2, h3⟩ := listV_form h
 refine ⟨oa, c, e, h1, h2, fun i hi => ?_⟩
 obtain ⟨a, r, e1, e2, e3, e4⟩ := h3 i hi
 rw [Nat.mul_one] at e3
 obtain ⟨x, rfl, hx⟩ := cells_one e3
 refine ⟨a, e1, e2, ?_⟩
 rw [hx]
 unfold decFl at e4
 split at e4
 · rename_i b hb
   injection hb with hb
   injection e4 with e4
   rw [hb, e4]
 · cases e4
def enF : En Nat decFl where
 to := fl
 ren := fun _ _ => rfl
 sc := fun _ _ => trivial
 one := fun _ _ => rfl
abbrev kF : RowK Nat decFl := kCp enF 98
theorem oneL_fl : ∀ l : List Nat, oneL (l.map enF.to) = true
 | [] => rfl
 | x :: l => by
   have := oneL_fl l
   show oneL (fl x :: l.map enF.to) = true
   simp [oneL, this]
theorem fltV_src {H : Heap} {v : Value} {l : List Nat} (h : fltV H v = some l) (hne : l.length ≠ 0) : ∃ a c, v = .slice (some a) l.length c ∧ flat a = true ∧ cellsA H a.block a.off l.length = some (l.map enF.to) := by
 obtain ⟨oa, c, e, hlt, _, hrow⟩ := fltV_form h
 obtain ⟨a, rfl, hf, _⟩ := hrow 0 (by omega)
 refine ⟨a, c, e, hf, ?_⟩
 subst e
 unfold fltV listV at h
 simp only [if_pos hlt, if_neg hne, hf, if_true, Nat.mul_one] at h
 obtain ⟨cs, hc, hm⟩ := Option.bind_eq_some_iff.1 h
 rw [hc]
 have hl := mapO_get hm
 have hcl : cs.length = l.length := by
   have := hl.1
   rw [chunks_len] at this
   have h2 := cellsA_cell hc (i := 0) (by omega)
   exact h2.2
 congr 1
 refine List.ext_getElem? fun i => ?_
 by_cases hi : i < l.length
 · obtain ⟨a', e1, _, h3⟩ := hrow i hi
   injection e1 with e1
   subst e1
   have h4 := (cellsA_cell hc hi).1
   rw [← h4, h3, List.getElem?_map, List.getElem?_eq_getElem hi]
   rfl
 · rw [List.getElem?_eq_none (by omega), List.getElem?_eq_none (by rw [List.length_map]; omega)]
theorem app_flts {H : Heap} {n m : Nat} {l : List Nat} {v : Value} (h : fltV H v = some l) (hne : l.length ≠ 0) (h0 : cellsA H n 0 0 = some []) :
   builtinA Tryz.prog .append #[52, 52] H m [.slice (some ⟨n, 0, none⟩) 0 0, v] = some (.slice (some ⟨m, 0, some 0⟩) l.length 0, (m, .ext (l.map enF.to) 98 1) :: H, m + 1) := by
 have hlt : l.length < 2147483648 := by
   obtain ⟨_, _, _, hlt, _⟩ := fltV_form h
   exact hlt
 obtain ⟨a, c, rfl, hf, hc⟩ := fltV_src h hne
 have hsm : l.length * 4 ≤ 1099511627776 ∧ l.length ≤ 1099511627776 := by omega
 simp [-cellsA, -flat, hf, hc, hne, hsm, h0, oneL_fl]
set_option maxRecDepth 20000 in
theorem w78 {H : Heap} {n : Nat} {v : Value} {l : List Nat} (hl : fltV H v = some l) : AC Tryz.prog 78 [v] H n (kF.val n l) ([(n, kF.blk l)] ++ H) (n + 1) := by
 refine AC.given fun hold hsc hgn => AC.tidied (fun x hx => ?_) ?_
 · rw [List.mem_singleton] at hx; subst hx; exact Nat.le_refl _
 replace hl : fltV (tidy n H) v = some l := listV_tidy decFl_tidy (fun k b h => (hold k b h).1) hl
 have hr := recT_ok (P := Tryz.prog) (l := []) (by simp)
 have hS : Sub (tidy n H) ((n, .cells [] 98) :: tidy n H) := Sub.cons (by simp) (Sub.refl _)
 have hl' := listV_mono decFl_mono hS hl
 refine AC.fresh Tryz.func78 rfl (by kernel_rfl) rfl [0, 2] (by omega) (kF.sc _ _ _ (by omega)) (fun ρ => by rw [kF.ren]; simp only [kF, kCp]; split <;> rfl) ?_
 refine E.seq ?_
 refine E.reg hr (by simp; rfl) ?_
 by_cases hne : l.length = 0
 · obtain rfl := List.length_eq_zero_iff.1 hne
   obtain ⟨oa, c, rfl, _, _, _⟩ := fltV_form hl
   have hfin : Fresh n (n + 1) (tidy n H) (kF.val n []) [(n, kF.blk [])] (.slice (some ⟨n, 0, none⟩) 0 0) ((n, .cells [] 98) :: tidy n H) := by
     refine ⟨id, fun _ _ => rfl, rfl, fun k b hk => ?_, fun j b k c hj hk e => e, hS⟩
     rw [hget_cons] at hk
     split at hk
     · rename_i e; subst e; injection hk with hk; subst hk
       refine ⟨Nat.le_refl _, Nat.lt_succ_self _, Nat.le_refl _, ?_, kF.scB _ _, kF.car _, kF.own _⟩
       rw [kF.fix, id, hget_cons, if_pos rfl]
       rfl
     · cases hk
   cases oa with
   | none =>
     refine E.seq ?_
     refine E.reg hr (by simp; rfl) ?_
     refine E.ret ?_
     exact outK.ret rfl rfl hfin
   | some a =>
     refine E.seq ?_
     refine E.reg hr (by simp; rfl) ?_
     refine E.ret ?_
     exact outK.ret rfl rfl hfin
 · have hnn : ¬ l = [] := fun e => hne (by rw [e]; rfl)
   have happ := app_flts (n := n) (m := n + 1) hl' hne (by rw [cellsA_eq, hget_cons, if_pos rfl]; rfl)
   refine E.seq ?_
   refine E.reg hr (by simp [-builtinA, happ]; rfl) ?_
   refine E.ret ?_
   refine outK.ret rfl rfl ⟨fun k => if k = n then n + 1 else k, fun k hk => if_neg (by omega), ?_, fun k b hk => ?_, fun j b k c hj hk _ => ?_, hS.trans (Sub.cons (by simp) (Sub.refl _))⟩
   · rw [kF.ren]
     simp [kF, kCp, hnn]
   · rw [hget_cons] at hk
     split at hk
     · rename_i e; subst e; injection hk with hk; subst hk
       refine ⟨Nat.le_refl _, Nat.lt_succ_self _, by simp, ?_, kF.scB _ _, kF.car _, kF.own _⟩
       rw [kF.fix]
       simp [kF, kCp, hnn]
     · cases hk
   · rw [hget_cons] at hj hk
     split at hj
     · split at hk
       · omega
       · cases hk
     · cases hj
def g78 (args : List Value) (H : Heap) (n : Nat) : R := match args with
 | [v] => (fltV H v).map fun l => (kF.val n l, (n, kF.blk l) :: H, n + 1)
 | _ => none
theorem ok78 : EntOk Tryz.prog (78, g78) := by
 intro args H n v H' n' h
 simp only [g78] at h
 split at h
 · rw [Option.map_eq_some_iff] at h
   obtain ⟨ls, h1, h⟩ := h
   injection h with e1 e2; injection e2 with e2 e3; subst e1 e2 e3
   exact w78 h1
 · cases h
def errsL (l : List Nat) : List Value := l.flatMap fun b => [iv (err32 b)]
def sixL (l : List Nat) : List Value := l.flatMap fun b => [iv (six32 b)]
theorem errsL_eq (l : List Nat) : errsL l = (l.map err32).map iv := by
 induction l with
 | nil => rfl
 | cons b l ih => simp [errsL] at ih ⊢; exact ih
theorem sixL_eq (l : List Nat) : sixL l = (l.map six32).map iv := by
 induction l with
 | nil => rfl
 | cons b l ih => simp [sixL] at ih ⊢; exact ih
theorem ivs_ren (ρ : Nat → Nat) : ∀ l : List Int, renL ρ (l.map iv) = l.map iv
 | [] => rfl
 | x :: l => by simp only [List.map_cons, renL, ivs_ren ρ l]; rfl
theorem sz27i : Tryz.t27.size = 1 := by kernel_rfl
theorem by27 : Tryz.t27.bytes ≤ 128 := by decide +kernel
theorem zo27 : zeroOk Tryz.t27 = true := by kernel_rfl
theorem sz3i : Tryz.t3.size = 1 := by kernel_rfl
theorem by3 : Tryz.t3.bytes ≤ 128 := by decide +kernel
theorem zo3 : zeroOk Tryz.t3 = true := by kernel_rfl
set_option maxRecDepth 20000 in
theorem w205 {H : Heap} {n : Nat} {v : Value} {l : List Nat} (hV : fltV H v = some l) : AC Tryz.prog 205 [v, .func (.func 206) #[] #[]] H n (outS n l.length) (outSB n 27 1 l.length (errsL l) ++ H) (n + 1) := by
 refine AC.given fun hold hsc hgn => AC.tidied (fun x hx => outSB_ge x hx) ?_
 replace hV : fltV (tidy n H) v = some l := listV_tidy decFl_tidy (fun k b h => (hold k b h).1) hV
 have hr := recT_ok (P := Tryz.prog) (l := [(206, gFl fun b => iv (err32 b))]) (by simp [ok206])
 obtain ⟨oa, c, rfl, hlt, _, hrow⟩ := fltV_form hV
 refine AC.grown Tryz.func205 rfl (by kernel_rfl) rfl [1, 5, 8, 9, 10] ?_
 refine E.seq ?_
 refine E.reg hr (by simp; rfl) ?_
 refine E.seq ?_
 refine E.reg hr (by simp; rfl) ?_
 refine E.seq ?_
 refine E.seq ?_
 refine E.reg hr (by simp; rfl) ?_
 refine E.block ?_
 refine E.loop ?_
 refine EL.ind (fun x : Nat × Heap × Nat × Nat => { fr := [(1, .func (.func 206) #[] #[]), (5, outS x.2.2.2 x.1), (8, .slice oa l.length c), (9, iv l.length), (10, iv x.1)], sz := 22, H := x.2.1, n := x.2.2.1, marks := [], vs := [1, 5, 8, 9, 10] }) (fun x => l.length - x.1) (fun x => x.1 ≤ l.length ∧ GL (tidy n H) n 27 1 (errsL (l.take x.1)) x.1 x.2.1 x.2.2.1 x.2.2.2) (0, tidy n H, n, n) (.keep rfl rfl rfl (by simp) (Sub.refl _)) ⟨Nat.zero_le _, by simpa [errsL] using GL.start (t := 27) (sz := 1) (Sub.refl (tidy n H)) namesOk_tidy (Nat.le_refl n) (by simp)⟩ (fun _ => rfl) ?_
 rintro ⟨i, Hx, N, o⟩ ⟨hi, hG⟩
 dsimp only at hi hG ⊢
 have hw : IntKind.i64.wrap ((i : Int) + 1) = (i : Int) + 1 := W_in (by omega) (by omega)
 refine E.seq ?_
 refine E.reg hr (by simp; rfl) ?_
 refine E.seq ?_
 by_cases hil : i < l.length
 · obtain ⟨a, rfl, hf, hc⟩ := hrow i hil
   have htk : l.take (i + 1) = l.take i ++ [l[i]] := List.take_succ_eq_append_getElem hil
   have hsn : errsL (l.take i) ++ [iv (err32 l[i])] = errsL (l.take (i + 1)) := by rw [htk]; unfold errsL; rw [List.flatMap_append]; rfl
   obtain ⟨q, hq⟩ : ∃ q, l[i] = q := ⟨_, rfl⟩
   rw [hq] at hc hsn
   have hfl : ∀ H m, gFl (fun b => iv (err32 b)) [.float .f32 q] H m = some (iv (err32 q), H, m) := fun _ _ => rfl
   obtain ⟨Hz, happ, hGz⟩ := hG.app (P := Tryz.prog) (st := 206) (i := Tryz.t27) (new := [iv (err32 q)]) tidy_lt Tryz.underlying206 inf27 sz27i zo27 by27 (by omega) rfl (by omega) rfl rfl
   rw [hsn] at hGz
   refine E.cond (t := true) (by simp [hil]) (fun _ => ?_) (fun h => by cases h)
   refine E.skip ?_
   refine E.seq ?_
   refine E.block ?_
   refine E.seq ?_
   refine E.reg hr (by simp [-cellA, -flat, hil, hf, hG.sub.cell hc]; rfl) ?_
   refine E.reg hr (by simp [-builtinA, run_vcall_tmp, vcallF, target, hfl, happ]; rfl) ?_
   refine E.reg hr (by simp [hw]; rfl) ?_
   exact ⟨(i + 1, Hz, N + 1 + 1, N + 1), .keep rfl rfl rfl (by simp) (Sub.refl _), ⟨hil, hGz⟩, by dsimp only; omega⟩
 · have hil' : i = l.length := by omega
   subst hil'
   rw [List.take_length] at hG
   refine E.cond (t := false) (by simp) (fun h => by cases h) (fun _ => ?_)
   refine E.exit ?_
   refine E.seq ?_
   refine E.reg hr (by simp; rfl) ?_
   refine E.ret ?_
   exact outK.ret rfl rfl (hG.fresh (Nat.le_refl _) (by rw [errsL_eq]; exact afL_iv _) fun ρ => by rw [errsL_eq]; exact ivs_ren ρ _)
end Go.Proofs.YtndlfijfjglkdaaGreatDoor

namespace Go.Proofs.YtndlfijfjglkdaaGreatDoor
open Go Go.Ab Go.Proofs Ieee
def g205 (args : List Value) (H : Heap) (n : Nat) : R := match args with
 | [v, .func (.func 206) ⟨[]⟩ ⟨[]⟩] => (fltV H v).map fun l => (outS n l.length, outSB n 27 1 l.length (errsL l) ++ H, n + 1)
 | _ => none
theorem ok205 : EntOk Tryz.prog (205, g205) := by
 intro args H n v H' n' h
 simp only [g205] at h
 split at h
 · rw [Option.map_eq_some_iff] at h
   obtain ⟨l, h1, h⟩ := h
   injection h with e1 e2; injection e2 with e2 e3; subst e1 e2 e3
   exact w205 h1
 · cases h
theorem first_out {H : Heap} {n m : Nat} {l : List Nat} (hl : l.length < 2147483648) : g113' [outS n l.length] (outSB n 27 1 l.length (errsL l) ++ H) m = some (iv (firstV (l.map err32)), outSB n 27 1 l.length (errsL l) ++ H, m) := by
 by_cases h0 : l.length = 0
 · obtain rfl := List.length_eq_zero_iff.1 h0
   rfl
 · have hb : outSB n 27 1 l.length (errsL l) = [(n, .ext (errsL l) 27 1)] := if_neg h0
   rw [outS_ne h0, hb]
   have : intsAt ([(n, Blk.ext (errsL l) 27 1)] ++ H) ⟨n, 0, some 0⟩ l.length = some (l.map err32) := by
     refine intsAt_iv rfl ?_ hl
     rw [cellsA_eq, List.singleton_append, hget_cons, if_pos rfl]
     show cellsB 0 l.length (.ext (errsL l) 27 1) = _
     rw [errsL_eq]
     simp [cellsB]
     exact List.take_of_length_le (by simp)
   simp only [g113', this, Option.map_some]
def chkV (m : Int) (l : List Nat) : Int := if m < l.length then 5 else firstV (l.map err32)
theorem w155 {H : Heap} {n : Nat} {v : Value} {l : List Nat} (m : Int) (hV : fltV H v = some l) : AC Tryz.prog 155 [v, iv m] H n (iv (chkV m l)) H n := by
 refine AC.given fun hold hsc hgn => AC.tidied (B := []) (by simp) ?_
 replace hV : fltV (tidy n H) v = some l := listV_tidy decFl_tidy (fun k b h => (hold k b h).1) hV
 have hr := recT_ok (P := Tryz.prog) (l := [(205, g205), (113, g113')]) (by simp [ok205, ok113'])
 obtain ⟨oa, c, rfl, hlt, _, _⟩ := fltV_form hV
 have h205 : ∀ k, g205 [.slice oa l.length c, .func (.func 206) #[] #[]] (tidy n H) k = some (outS k l.length, outSB k 27 1 l.length (errsL l) ++ tidy n H, k + 1) := fun k => by
   simp only [g205, hV, Option.map_some]
 have h113 := first_out (H := tidy n H) (n := n) (m := n + 1) (l := l) hlt
 refine AC.pure Tryz.func155 rfl (by kernel_rfl) rfl [] rfl ?_
 refine E.seq ?_
 refine E.reg hr (by simp; rfl) ?_
 refine E.seq ?_
 refine E.seq ?_
 refine E.reg hr (by simp; rfl) ?_
 by_cases hm : m < l.length
 · refine E.cond (t := true) (by simp [hm]) (fun _ => ?_) (fun h => by cases h)
   refine E.seq ?_
   refine E.reg hr (by simp; rfl) ?_
   refine E.ret ?_
   exact pureK.ret rfl rfl (by simp [chkV, hm]) (Sub.refl _)
 · refine E.cond (t := false) (by simp [hm]) (fun h => by cases h) (fun _ => ?_)
   refine E.skip ?_
   refine E.seq ?_
   refine E.reg hr (by simp [h205, h113]; rfl) ?_
   refine E.ret ?_
   exact pureK.ret rfl rfl (by simp [chkV, hm]) (Sub.app (fun x hx => namesOk_none namesOk_tidy _ (outSB_ge x hx)) (Sub.refl _))
def g155 (args : List Value) (H : Heap) (n : Nat) : R := match args with
 | [v, .int .i64 m] => (fltV H v).map fun l => (iv (chkV m l), H, n)
 | _ => none
theorem ok155 : EntOk Tryz.prog (155, g155) := by
 intro args H n v H' n' h
 simp only [g155] at h
 split at h
 · rw [Option.map_eq_some_iff] at h
   obtain ⟨l, h1, h⟩ := h
   injection h with e1 e2; injection e2 with e2 e3; subst e1 e2 e3
   exact w155 _ h1
 · cases h
set_option maxRecDepth 20000 in
theorem w202 {H : Heap} {n : Nat} {v : Value} {l : List Nat} (hV : fltV H v = some l) (hS : ∀ b ∈ l, sm32 b = true) : AC Tryz.prog 202 [v, .func (.func 203) #[] #[]] H n (outS n l.length) (outSB n 3 1 l.length (sixL l) ++ H) (n + 1) := by
 refine AC.given fun hold hsc hgn => AC.tidied (fun x hx => outSB_ge x hx) ?_
 replace hV : fltV (tidy n H) v = some l := listV_tidy decFl_tidy (fun k b h => (hold k b h).1) hV
 have hr := recT_ok (P := Tryz.prog) (l := [(203, gSix)]) (by simp [ok203])
 obtain ⟨oa, c, rfl, hlt, _, hrow⟩ := fltV_form hV
 refine AC.grown Tryz.func202 rfl (by kernel_rfl) rfl [1, 5, 8, 9, 10] ?_
 refine E.seq ?_
 refine E.reg hr (by simp; rfl) ?_
 refine E.seq ?_
 refine E.reg hr (by simp; rfl) ?_
 refine E.seq ?_
 refine E.seq ?_
 refine E.reg hr (by simp; rfl) ?_
 refine E.block ?_
 refine E.loop ?_
 refine EL.ind (fun x : Nat × Heap × Nat × Nat => { fr := [(1, .func (.func 203) #[] #[]), (5, outS x.2.2.2 x.1), (8, .slice oa l.length c), (9, iv l.length), (10, iv x.1)], sz := 22, H := x.2.1, n := x.2.2.1, marks := [], vs := [1, 5, 8, 9, 10] }) (fun x => l.length - x.1) (fun x => x.1 ≤ l.length ∧ GL (tidy n H) n 3 1 (sixL (l.take x.1)) x.1 x.2.1 x.2.2.1 x.2.2.2) (0, tidy n H, n, n) (.keep rfl rfl rfl (by simp) (Sub.refl _)) ⟨Nat.zero_le _, by simpa [sixL] using GL.start (t := 3) (sz := 1) (Sub.refl (tidy n H)) namesOk_tidy (Nat.le_refl n) (by simp)⟩ (fun _ => rfl) ?_
 rintro ⟨i, Hx, N, o⟩ ⟨hi, hG⟩
 dsimp only at hi hG ⊢
 have hw : IntKind.i64.wrap ((i : Int) + 1) = (i : Int) + 1 := W_in (by omega) (by omega)
 refine E.seq ?_
 refine E.reg hr (by simp; rfl) ?_
 refine E.seq ?_
 by_cases hil : i < l.length
 · obtain ⟨a, rfl, hf, hc⟩ := hrow i hil
   have htk : l.take (i + 1) = l.take i ++ [l[i]] := List.take_succ_eq_append_getElem hil
   have hsn : sixL (l.take i) ++ [iv (six32 l[i])] = sixL (l.take (i + 1)) := by rw [htk]; unfold sixL; rw [List.flatMap_append]; rfl
   obtain ⟨q, hq⟩ : ∃ q, l[i] = q := ⟨_, rfl⟩
   rw [hq] at hc hsn
   have hfl : ∀ H m, gSix [.float .f32 q] H m = some (iv (six32 q), H, m) := fun _ _ => if_pos (hS q (hq ▸ List.getElem_mem hil))
   obtain ⟨Hz, happ, hGz⟩ := hG.app (P := Tryz.prog) (st := 45) (i := Tryz.t3) (new := [iv (six32 q)]) tidy_lt Tryz.underlying45 inf3 sz3i zo3 by3 (by omega) rfl (by omega) rfl rfl
   rw [hsn] at hGz
   refine E.cond (t := true) (by simp [hil]) (fun _ => ?_) (fun h => by cases h)
   refine E.skip ?_
   refine E.seq ?_
   refine E.block ?_
   refine E.seq ?_
   refine E.reg hr (by simp [-cellA, -flat, hil, hf, hG.sub.cell hc]; rfl) ?_
   refine E.reg hr (by simp [-builtinA, run_vcall_tmp, vcallF, target, hfl, happ]; rfl) ?_
   refine E.reg hr (by simp [hw]; rfl) ?_
   exact ⟨(i + 1, Hz, N + 1 + 1, N + 1), .keep rfl rfl rfl (by simp) (Sub.refl _), ⟨hil, hGz⟩, by dsimp only; omega⟩
 · have hil' : i = l.length := by omega
   subst hil'
   rw [List.take_length] at hG
   refine E.cond (t := false) (by simp) (fun h => by cases h) (fun _ => ?_)
   refine E.exit ?_
   refine E.seq ?_
   refine E.reg hr (by simp; rfl) ?_
   refine E.ret ?_
   exact outK.ret rfl rfl (hG.fresh (Nat.le_refl _) (by rw [sixL_eq]; exact afL_iv _) fun ρ => by rw [sixL_eq]; exact ivs_ren ρ _)
def allSm (l : List Nat) : Bool := l.all sm32
def g202 (args : List Value) (H : Heap) (n : Nat) : R := match args with
 | [v, .func (.func 203) ⟨[]⟩ ⟨[]⟩] => match fltV H v with
   | some l => if allSm l = true then some (outS n l.length, outSB n 3 1 l.length (sixL l) ++ H, n + 1) else none
   | none => none
 | _ => none
theorem ok202 : EntOk Tryz.prog (202, g202) := by
 intro args H n v H' n' h
 simp only [g202] at h
 split at h
 · split at h
   · rename_i h1
     split at h
     · rename_i h2
       injection h with h; injection h with e1 e2; injection e2 with e2 e3; subst e1 e2 e3
       exact w202 h1 (List.all_eq_true.1 h2)
     · cases h
   · cases h
 · cases h
theorem w153 {H : Heap} {n : Nat} {v : Value} {l : List Nat} (hV : fltV H v = some l) (hS : allSm l = true) : AC Tryz.prog 153 [v] H n (outS n l.length) (outSB n 3 1 l.length (sixL l) ++ H) (n + 1) := by
 refine AC.given fun hold hsc hgn => AC.tidied (fun x hx => outSB_ge x hx) ?_
 replace hV : fltV (tidy n H) v = some l := listV_tidy decFl_tidy (fun k b h => (hold k b h).1) hV
 have hr := recT_ok (P := Tryz.prog) (l := [(202, g202)]) (by simp [ok202])
 obtain ⟨oa, c, rfl, hlt, _, _⟩ := fltV_form hV
 have h202 : ∀ k, g202 [.slice oa l.length c, .func (.func 203) #[] #[]] (tidy n H) k = some (outS k l.length, outSB k 3 1 l.length (sixL l) ++ tidy n H, k + 1) := fun k => by
   simp only [g202, hV]
   rw [if_pos hS]
 refine AC.grown Tryz.func153 rfl (by kernel_rfl) rfl [] ?_
 refine E.seq ?_
 refine E.reg hr (by simp; rfl) ?_
 refine E.seq ?_
 refine E.reg hr (by simp [h202]; rfl) ?_
 refine E.ret ?_
 exact outK.ret rfl rfl (fresh_sb (by rw [sixL_eq]; exact afL_iv _) (fun ρ => by rw [sixL_eq]; exact ivs_ren ρ _) (Nat.le_refl _) (Sub.refl _) (by simp))
def g153 (args : List Value) (H : Heap) (n : Nat) : R := match args with
 | [v] => match fltV H v with
   | some l => if allSm l = true then some (outS n l.length, outSB n 3 1 l.length (sixL l) ++ H, n + 1) else none
   | none => none
 | _ => none
theorem ok153 : EntOk Tryz.prog (153, g153) := by
 intro args H n v H' n' h
 simp only [g153] at h
 split at h
 · split at h
   · rename_i h1
     split at h
     · rename_i h2
       injection h with h; injection h with e1 e2; injection e2 with e2 e3; subst e1 e2 e3
       exact w153 h1 h2
     · cases h
   · cases h
 · cases h
theorem w87 {H : Heap} {n : Nat} {v : Value} {l : List Nat} (hV : fltV H v = some l) : AC Tryz.prog 87 [v] H n (iv (firstV (l.map err32))) H n := by
 refine AC.given fun hold hsc hgn => AC.tidied (B := []) (by simp) ?_
 replace hV : fltV (tidy n H) v = some l := listV_tidy decFl_tidy (fun k b h => (hold k b h).1) hV
 have hr := recT_ok (P := Tryz.prog) (l := [(158, gFl fun b => iv (err32 b))]) (by simp [ok158])
 obtain ⟨oa, c, rfl, hlt, _, hrow⟩ := fltV_form hV
 refine AC.pure Tryz.func87 rfl (by kernel_rfl) rfl [0, 3] rfl ?_
 refine E.seq ?_
 refine E.reg hr (by simp; rfl) ?_
 refine E.seq ?_
 refine E.seq ?_
 refine E.reg hr (by simp; rfl) ?_
 refine E.block ?_
 refine E.loop ?_
 refine EL.ind (fun i : Nat => { fr := [(0, .slice oa l.length c), (3, iv i)], sz := 19, H := tidy n H, n := n, marks := [], vs := [0, 3] }) (fun i => l.length - i) (fun i => i ≤ l.length ∧ firstV (l.map err32) = firstV ((l.drop i).map err32)) 0 (.keep rfl rfl rfl (by simp) (Sub.refl _)) ⟨Nat.zero_le _, rfl⟩ (fun _ => rfl) ?_
 rintro i ⟨hi, hg⟩
 have hw : IntKind.i64.wrap ((i : Int) + 1) = (i : Int) + 1 := W_in (by omega) (by omega)
 refine E.seq ?_
 refine E.seq ?_
 refine E.reg hr (by simp; rfl) ?_
 by_cases hil : i < l.length
 · obtain ⟨a, rfl, hf, hc⟩ := hrow i hil
   rw [List.drop_eq_getElem_cons hil, List.map_cons, firstV] at hg
   obtain ⟨q, hq⟩ : ∃ q, l[i] = q := ⟨_, rfl⟩
   rw [hq] at hc hg
   have hfl : ∀ H m, gFl (fun b => iv (err32 b)) [.float .f32 q] H m = some (iv (err32 q), H, m) := fun _ _ => rfl
   refine E.cond (t := true) (by simp [hil]) (fun _ => ?_) (fun h => by cases h)
   refine E.skip ?_
   refine E.seq ?_
   refine E.block ?_
   refine E.seq ?_
   refine E.reg hr (by simp [-cellA, -flat, hil, hf, hc, hfl]; rfl) ?_
   refine E.seq ?_
   refine E.reg hr (by simp; rfl) ?_
   by_cases he : err32 q = 0
   · rw [if_pos he] at hg
     refine E.cond (t := false) (by simp [he]) (fun h => by cases h) (fun _ => ?_)
     refine E.skip ?_
     refine E.reg hr (by simp [hw]; rfl) ?_
     exact ⟨i + 1, .keep rfl rfl rfl (by simp) (Sub.refl _), ⟨hil, hg⟩, by dsimp only; omega⟩
   · rw [if_neg he] at hg
     refine E.cond (t := true) (by simp [he]) (fun _ => ?_) (fun h => by cases h)
     refine E.seq ?_
     refine E.reg hr (by simp; rfl) ?_
     refine E.ret ?_
     exact pureK.ret rfl rfl (by simp [hg]) (Sub.refl _)
 · refine E.cond (t := false) (by simp [hil]) (fun h => by cases h) (fun _ => ?_)
   refine E.exit ?_
   rw [List.drop_of_length_le (by omega)] at hg
   refine E.seq ?_
   refine E.reg hr (by simp; rfl) ?_
   refine E.ret ?_
   exact pureK.ret rfl rfl (by rw [hg]; rfl) (Sub.refl _)
def gErr (F : List Nat → Int) (args : List Value) (H : Heap) (n : Nat) : R := match args with
 | [v] => (fltV H v).map fun l => (iv (F l), H, n)
 | _ => none
theorem okErr {f : FuncId} {F : List Nat → Int} (h : ∀ H n v l, fltV H v = some l → AC Tryz.prog f [v] H n (iv (F l)) H n) : EntOk Tryz.prog (f, gErr F) := by
 intro args H n v H' n' h'
 simp only [gErr] at h'
 split at h'
 · rw [Option.map_eq_some_iff] at h'
   obtain ⟨l, h1, h2⟩ := h'
   injection h2 with e1 e2; injection e2 with e2 e3; subst e1 e2 e3
   exact h _ _ _ _ h1
 · cases h'
theorem ok87 : EntOk Tryz.prog (87, gErr fun l => firstV (l.map err32)) := okErr fun _ _ _ _ h => w87 h
def lstV (l : List Nat) : Int := if l.length = 0 then 12 else chkV 64 l
end Go.Proofs.YtndlfijfjglkdaaGreatDoor

namespace Go.Proofs.YtndlfijfjglkdaaGreatDoor
open Go Go.Ab Go.Proofs Ieee
def decP : Dec (Int × Int) := fun _ cs => match cs with
 | [.int .i64 a, .int .i64 b] => some (a, b)
 | _ => none
theorem decP_mono : DecMono decP := fun _H _H' _cs _y _ h => h
theorem decP_tidy : DecTidy decP := fun _H _n _cs _y _ h => h
abbrev prsV (H : Heap) (v : Value) : Option (List (Int × Int)) := listV 2 decP H v
theorem decP_form {H : Heap} {r : List Value} {p : Int × Int} (h : decP H r = some p) : r = [iv p.1, iv p.2] := by
 unfold decP at h
 split at h
 · injection h with h; subst h; rfl
 · cases h
theorem prsV_form {H : Heap} {v : Value} {l : List (Int × Int)} (h : prsV H v = some l) :
   ∃ oa c, v = .slice oa l.length c ∧ l.length < 2147483648 ∧ ∀ i (hi : i < l.length), ∃ a, oa = some a ∧ flat a = true ∧ cellA H a.block (a.off + i * 2) = some (iv l[i].1) ∧ cellA H a.block (a.off + i * 2 + 1) = some (iv l[i].2) := by
 obtain ⟨oa, c, e, h1, _, h3⟩ := listV_form h
 refine ⟨oa, c, e, h1, fun i hi => ?_⟩
 obtain ⟨a, r, e1, e2, e3, e4⟩ := h3 i hi
 have := decP_form e4
 subst this
 have c0 := (cellsA_cell e3 (i := 0) (by omega)).1
 have c1 := (cellsA_cell e3 (i := 1) (by omega)).1
 exact ⟨a, e1, e2, c0, c1⟩
def outP (ns : List Int) (ps : List (Int × Int)) (i : Nat) : Bool := decide (ns.getD i 0 < (ps.getD i (0, 0)).1) || decide ((ps.getD i (0, 0)).2 < ns.getD i 0)
def firstOut (ns : List Int) (ps : List (Int × Int)) : Option Nat := (List.range ns.length).find? (outP ns ps)
def outV (ns : List Int) (ps : List (Int × Int)) : Int := match firstOut ns ps with
 | some i => i
 | none => -1
theorem firstOut_hit {ns : List Int} {ps : List (Int × Int)} {i : Nat} (hi : i < ns.length) (hb : ∀ j, j < i → outP ns ps j = false) (h : outP ns ps i = true) : firstOut ns ps = some i := by
 unfold firstOut
 rw [List.find?_range_eq_some]
 exact ⟨h, List.mem_range.2 hi, fun j hj => by simp [hb j hj]⟩
theorem firstOut_none {ns : List Int} {ps : List (Int × Int)} (hb : ∀ j, j < ns.length → outP ns ps j = false) : firstOut ns ps = none := by
 unfold firstOut
 rw [List.find?_range_eq_none]
 intro j hj
 simp [hb j hj]
set_option maxRecDepth 20000 in
theorem w152 {H : Heap} {n : Nat} {v u : Value} {ns : List Int} {ps : List (Int × Int)} (hV : intV H v = some ns) (hU : prsV H u = some ps) (hle : ns.length ≤ ps.length) : AC Tryz.prog 152 [v, u] H n (iv (outV ns ps)) H n := by
 refine AC.given fun hold hsc hgn => AC.tidied (B := []) (by simp) ?_
 replace hV : intV (tidy n H) v = some ns := listV_tidy decI_tidy (fun k b h => (hold k b h).1) hV
 replace hU : prsV (tidy n H) u = some ps := listV_tidy decP_tidy (fun k b h => (hold k b h).1) hU
 have hr := recT_ok (P := Tryz.prog) (l := []) (by simp)
 obtain ⟨oa, c, rfl, hlt, _, hrow⟩ := intV_form hV
 obtain ⟨ob, c2, rfl, hlt2, hrow2⟩ := prsV_form hU
 refine AC.pure Tryz.func152 rfl (by kernel_rfl) rfl [1, 7, 8, 9] rfl ?_
 refine E.seq ?_
 refine E.reg hr (by simp; rfl) ?_
 refine E.seq ?_
 refine E.seq ?_
 refine E.reg hr (by simp; rfl) ?_
 refine E.block ?_
 refine E.loop ?_
 refine EL.ind (fun i : Nat => { fr := [(1, .slice ob ps.length c2), (7, .slice oa ns.length c), (8, iv ns.length), (9, iv i)], sz := 32, H := tidy n H, n := n, marks := [], vs := [1, 7, 8, 9] }) (fun i => ns.length - i) (fun i => i ≤ ns.length ∧ ∀ j, j < i → outP ns ps j = false) 0 (.keep rfl rfl rfl (by simp) (Sub.refl _)) ⟨Nat.zero_le _, fun j hj => by omega⟩ (fun _ => rfl) ?_
 rintro i ⟨hi, hg⟩
 have hw : IntKind.i64.wrap ((i : Int) + 1) = (i : Int) + 1 := W_in (by omega) (by omega)
 refine E.seq ?_
 refine E.reg hr (by simp; rfl) ?_
 refine E.seq ?_
 by_cases hil : i < ns.length
 · obtain ⟨a, rfl, hf, hc⟩ := hrow i hil
   have hil2 : i < ps.length := by omega
   obtain ⟨b, rfl, hf2, hc1, hc2⟩ := hrow2 i hil2
   have ho : outP ns ps i = (decide (ns[i] < ps[i].1) || decide (ps[i].2 < ns[i])) := by
     unfold outP
     rw [List.getD_eq_getElem?_getD, List.getElem?_eq_getElem hil, List.getD_eq_getElem?_getD, List.getElem?_eq_getElem hil2]
     rfl
   obtain ⟨x, hx⟩ : ∃ x, ns[i] = x := ⟨_, rfl⟩
   obtain ⟨y, hy⟩ : ∃ y, ps[i] = y := ⟨_, rfl⟩
   rw [hx] at hc ho
   rw [hy] at hc1 hc2 ho
   refine E.cond (t := true) (by simp [hil]) (fun _ => ?_) (fun h => by cases h)
   refine E.skip ?_
   refine E.seq ?_
   refine E.block ?_
   refine E.seq ?_
   refine E.reg hr (by simp [-cellA, -flat, hil, hf, hc]; rfl) ?_
   refine E.seq ?_
   by_cases h1 : x < y.1
   · rw [decide_eq_true h1, Bool.true_or] at ho
     have hres : outV ns ps = i := by unfold outV; rw [firstOut_hit hil hg ho]
     refine E.reg hr (by simp [-cellA, -flat, hil2, hf2, hc1, h1, yieldedA, undefV]; rfl) ?_
     refine E.cond (t := true) (by simp) (fun _ => ?_) (fun h => by cases h)
     refine E.seq ?_
     refine E.reg hr (by simp; rfl) ?_
     refine E.ret ?_
     exact pureK.ret rfl rfl (by simp [hres]) (Sub.refl _)
   rw [decide_eq_false h1, Bool.false_or] at ho
   by_cases h2 : y.2 < x
   · rw [decide_eq_true h2] at ho
     have hres : outV ns ps = i := by unfold outV; rw [firstOut_hit hil hg ho]
     refine E.reg hr (by simp [-cellA, -flat, hil2, hf2, hc1, hc2, h1, h2, yieldedA]; rfl) ?_
     refine E.cond (t := true) (by simp) (fun _ => ?_) (fun h => by cases h)
     refine E.seq ?_
     refine E.reg hr (by simp; rfl) ?_
     refine E.ret ?_
     exact pureK.ret rfl rfl (by simp [hres]) (Sub.refl _)
   rw [decide_eq_false h2] at ho
   refine E.reg hr (by simp [-cellA, -flat, hil2, hf2, hc1, hc2, h1, h2, yieldedA]; rfl) ?_
   refine E.cond (t := false) (by simp) (fun h => by cases h) (fun _ => ?_)
   refine E.skip ?_
   refine E.reg hr (by simp [hw]; rfl) ?_
   exact ⟨i + 1, .keep rfl rfl rfl (by simp) (Sub.refl _), ⟨hil, fun j hj => if e : j = i then by subst e; exact ho else hg j (by omega)⟩, by dsimp only; omega⟩
 · have hres : outV ns ps = -1 := by unfold outV; rw [firstOut_none fun j hj => hg j (by omega)]
   refine E.cond (t := false) (by simp [hil]) (fun h => by cases h) (fun _ => ?_)
   refine E.exit ?_
   refine E.seq ?_
   refine E.reg hr (by simp; rfl) ?_
   refine E.ret ?_
   exact pureK.ret rfl rfl (by simp [hres]) (Sub.refl _)
def g152 (args : List Value) (H : Heap) (n : Nat) : R := match args with
 | [v, u] => match intV H v, prsV H u with
   | some ns, some ps => if ns.length ≤ ps.length then some (iv (outV ns ps), H, n) else none
   | _, _ => none
 | _ => none
theorem ok152 : EntOk Tryz.prog (152, g152) := by
 intro args H n v H' n' h
 simp only [g152] at h
 split at h
 · split at h
   · rename_i h1 h2
     split at h
     · rename_i h3
       injection h with h; injection h with e1 e2; injection e2 with e2 e3; subst e1 e2 e3
       exact w152 h1 h2 h3
     · cases h
   · cases h
 · cases h
end Go.Proofs.YtndlfijfjglkdaaGreatDoor

namespace Go.Ab
open Go
end Go.Ab

namespace Go.Proofs.YtndlfijfjglkdaaGreatDoor
open Go Go.Ab Go.Proofs Go.Soft
end Go.Proofs.YtndlfijfjglkdaaGreatDoor

namespace Go.Proofs.YtndlfijfjglkdaaGreatDoor
open Go Go.Ab Go.Proofs Go.Soft
end Go.Proofs.YtndlfijfjglkdaaGreatDoor

namespace Go.Proofs.YtndlfijfjglkdaaGreatDoor
open Go Go.Ab Go.Proofs Go.Soft
end Go.Proofs.YtndlfijfjglkdaaGreatDoor

namespace Go.Proofs.YtndlfijfjglkdaaGreatDoor
open Go Go.Ab Go.Proofs Go.Soft
end Go.Proofs.YtndlfijfjglkdaaGreatDoor

namespace Go.Proofs.YtndlfijfjglkdaaGreatDoor
open Go Go.Ab Go.Proofs Go.Soft
end Go.Proofs.YtndlfijfjglkdaaGreatDoor

namespace Go.Proofs.YtndlfijfjglkdaaGreatDoor
open Go Go.Ab Go.Proofs Go.Soft
def RowG (H : Heap) (m : Nat) (Z : List Gun) : Prop := hget H m = some (.ext (gcs Z) 95 7) ∨ hget H m = some (.row (gcs Z) 7)
end Go.Proofs.YtndlfijfjglkdaaGreatDoor

namespace Go.Proofs.YtndlfijfjglkdaaGreatDoor
open Go Go.Ab Go.Proofs Go.Soft
def Dis (l : List Gun) : Prop := ∀ i j (hi : i < l.length) (hj : j < l.length), l[i].name = l[j].name → i = j
theorem strE_zero {l : List Gun} (h : strE l = 0) : l ≠ [] ∧ l.length ≤ 8 ∧ Dis l ∧ ∀ g ∈ l, 1 ≤ g.v ∧ g.v ≤ 64 := by
 unfold strE at h
 split at h
 · cases h
 · rename_i h0
   split at h
   · cases h
   · rename_i h8
     have hz : ∀ i, i < l.length → gunChk l i = 0 := fun i hi => (firstV_zero _).1 h _ (List.mem_map.2 ⟨i, List.mem_range.2 hi, rfl⟩)
     have hg : ∀ i (hi : i < l.length), nameE l[i].name = 0 ∧ (if 0 ≤ atV l l[i].name i then (9 : Int) else 0) = 0 ∧ l[i].err = 0 := fun i hi => by
       have := hz i hi
       rw [gunChk_at hi] at this
       have h1 := (firstV_zero _).1 this
       exact ⟨h1 _ (by simp), h1 _ (by simp), h1 _ (by simp)⟩
     have hlt : ∀ i j (hi : i < l.length) (hj : j < l.length), i < j → l[i].name ≠ l[j].name := fun i j hi hj hij e => by
       have h2 := (hg j hj).2.1
       have hex : ∃ k, ∃ hk : k < j, (l[k]'(by omega)).name = l[j].name := ⟨i, hij, e⟩
       have h3 : 0 ≤ atV l l[j].name j := by
         apply Classical.byContradiction
         intro hn
         unfold atV at hn
         split at hn
         · omega
         · rename_i hf
           rw [List.findIdx?_eq_none_iff] at hf
           have hm : l[i] ∈ l.take j := by
             rw [List.mem_take_iff_getElem]
             exact ⟨i, by omega, rfl⟩
           have := hf _ hm
           simp [e] at this
       rw [if_pos h3] at h2
       cases h2
     refine ⟨fun e => h0 (by rw [e]; rfl), by omega, fun i j hi hj e => ?_, fun g hgm => ?_⟩
     · rcases Nat.lt_trichotomy i j with h | h | h
       · exact absurd e (hlt i j hi hj h)
       · exact h
       · exact absurd e.symm (hlt j i hj hi h)
     · obtain ⟨i, hi, rfl⟩ := List.getElem_of_mem hgm
       have h1 := (hg i hi).2.2
       unfold Gun.err at h1
       have h2 := (firstV_zero _).1 h1 (withinV l[i].v 1 64) (by simp)
       unfold withinV at h2
       split at h2
       · cases h2
       · omega
end Go.Proofs.YtndlfijfjglkdaaGreatDoor

namespace Go.Proofs.YtndlfijfjglkdaaGreatDoor
open Go Go.Ab Go.Proofs Go.Soft
def OwnG (H : Heap) (v : Value) (l : List Gun) : Prop := ∃ b, v = .slice (some ⟨b, 0, some 0⟩) l.length 0 ∧ RowG H b l ∧ 0 < l.length ∧ l.length < 2147483648
theorem OwnG.mono {H H' : Heap} (hs : Sub H H') {v : Value} {l : List Gun} (h : OwnG H v l) : OwnG H' v l := by
 obtain ⟨b, e, h1, h2⟩ := h
 refine ⟨b, e, ?_, h2⟩
 rcases h1 with h1 | h1
 · exact .inl (hs _ _ h1)
 · exact .inr (hs _ _ h1)
theorem OwnG.tidy {H : Heap} {n : Nat} (hl : ∀ k b, hget H k = some b → k < n) {v : Value} {l : List Gun} (h : OwnG H v l) : OwnG (Ab.tidy n H) v l := by
 obtain ⟨b, e, h1, h2⟩ := h
 refine ⟨b, e, ?_, h2⟩
 rcases h1 with h1 | h1
 · exact .inl (hget_tidy.2 ⟨h1, hl _ _ h1, rfl⟩)
 · exact .inr (hget_tidy.2 ⟨h1, hl _ _ h1, rfl⟩)
theorem OwnG.frz {H : Heap} {v : Value} {l : List Gun} (h : OwnG H v l) : OwnG (frzH H) v l := by
 obtain ⟨b, e, h1, h2⟩ := h
 refine ⟨b, e, .inr ?_, h2⟩
 rw [hget_frz]
 rcases h1 with h1 | h1 <;> rw [h1] <;> rfl
theorem OwnG.guns {H : Heap} {v : Value} {l : List Gun} (h : OwnG H v l) : GunsAt H v l := by
 obtain ⟨b, e, h1, h2, h3⟩ := h
 refine ⟨_, 0, e, rfl, ?_, h2, h3⟩
 have hg := gcs_length l
 rcases h1 with h1 | h1 <;> rw [cellsA_eq, h1] <;> simp [cellsB] <;> exact List.take_of_length_le (by omega)
theorem OwnG.check {H : Heap} {v : Value} {l : List Gun} (h : OwnG H v l) (n : Nat) : g31 [.agg ⟨[v]⟩] H n = some (iv (strE l), H, n) := by
 obtain ⟨b, rfl, h1, h2, h3⟩ := h
 have hr : rowOf H b = some (gcs l, 7) := by
   unfold rowOf
   rcases h1 with h1 | h1 <;> rw [h1]
 have hlt : l.length < 2 ^ 63 := by omega
 simp only [g31, hr, gunsOf_gcs]
 rw [if_pos ⟨trivial, hlt⟩]
end Go.Proofs.YtndlfijfjglkdaaGreatDoor

namespace Go.Proofs.YtndlfijfjglkdaaGreatDoor
open Go Go.Ab Go.Proofs Go.Soft
end Go.Proofs.YtndlfijfjglkdaaGreatDoor

namespace Go.Soft
end Go.Soft

namespace Go.Proofs.YtndlfijfjglkdaaGreatDoor
open Go Go.Ab Go.Proofs Go.Soft
end Go.Proofs.YtndlfijfjglkdaaGreatDoor

namespace Go.Proofs.YtndlfijfjglkdaaGreatDoor
open Go Go.Ab Go.Proofs Go.Soft
end Go.Proofs.YtndlfijfjglkdaaGreatDoor

namespace Go.Proofs.YtndlfijfjglkdaaGreatDoor
open Go Go.Ab Go.Proofs Go.Soft
theorem strAt_mono {H H' : Heap} (hs : Sub H H') {x : Value} {l : List Gun} (h : strAt H x = some l) : strAt H' x = some l := by
 unfold strAt at h ⊢
 split at h
 · exact h
 · unfold gunsAt at h ⊢
   split at h
   · rename_i hc
     rw [if_pos hc]
     obtain ⟨cs, h1, h2⟩ := Option.bind_eq_some_iff.1 h
     rw [hs.cells h1]
     exact h2
   · cases h
 · cases h
theorem strAt_tidy {H : Heap} {n : Nat} (hl : ∀ k b, hget H k = some b → k < n) {x : Value} {l : List Gun} (h : strAt H x = some l) : strAt (Ab.tidy n H) x = some l := by
 unfold strAt at h ⊢
 split at h
 · exact h
 · unfold gunsAt at h ⊢
   split at h
   · rename_i hc
     rw [if_pos hc]
     obtain ⟨cs, h1, h2⟩ := Option.bind_eq_some_iff.1 h
     rw [cellsA_tidy hl h1]
     exact h2
   · cases h
 · cases h
theorem strAt_guns {H : Heap} {v : Value} {l : List Gun} (h : strAt H (.agg ⟨[v]⟩) = some l) (hne : l ≠ []) (hlt : l.length < 2147483648) : GunsAt H v l := by
 unfold strAt at h
 split at h
 · injection h with h
   exact absurd h.symm hne
 · rename_i a len c e
   simp only [Value.agg.injEq, Array.mk.injEq, List.cons.injEq, and_true] at e
   subst e
   obtain ⟨hf, hc, hlen, _⟩ := gunsAt_ok h
   subst hlen
   exact ⟨a, c, rfl, hf, hc, List.length_pos_iff.2 hne, hlt⟩
 · cases h
theorem strAt_own {H : Heap} {n : Nat} {v : Value} {l : List Gun} (h : strAt H (.agg ⟨[v]⟩) = some l) (hne : l ≠ []) (hl : l.length ≤ 4096) : g21 [.agg ⟨[v]⟩] H n = some (.agg ⟨[.slice (some ⟨n, 0, some 0⟩) l.length 0]⟩, (n, .ext (gcs l) 95 7) :: H, n + 1) := by
 simp only [g21, h]
 rw [if_neg hne, if_pos hl]
theorem own_row {H : Heap} {n : Nat} {l : List Gun} (hne : l ≠ []) (hl : l.length ≤ 4096) : OwnG ((n, .ext (gcs l) 95 7) :: H) (.slice (some ⟨n, 0, some 0⟩) l.length 0) l :=
 ⟨n, rfl, .inl (by rw [hget_cons, if_pos rfl]), List.length_pos_iff.2 hne, by omega⟩
theorem sub_app {A H : Heap} {n : Nat} (hA : ∀ x ∈ A, n ≤ x.1) (hH : namesOk n H = true) : Sub H (A ++ H) :=
 Sub.app (fun x hx => namesOk_none hH _ (hA x hx)) (Sub.refl _)
end Go.Proofs.YtndlfijfjglkdaaGreatDoor

namespace Go.Proofs.YtndlfijfjglkdaaGreatDoor
open Go Go.Ab Go.Proofs Ieee
theorem cellA_read {L : List Nat} {H : Heap} {a o : Nat} : cellA (readA L H) a o = if memN L a = true then cellA H a o else none := by
 rw [cellA_eq, cellA_eq, hget_readA]
 split <;> rfl
theorem cellsA_read {L : List Nat} {H : Heap} {a o k : Nat} : cellsA (readA L H) a o k = if memN L a = true then cellsA H a o k else none := by
 rw [cellsA_eq, cellsA_eq, hget_readA]
 split <;> rfl
def eqF (a b : Nat) : Bool := FloatKind.f32.format.order a b == some .eq
def sameF : List Nat → List Nat → Bool
 | [], [] => true
 | a :: l, b :: k => eqF a b && sameF l k
 | _, _ => false
theorem sameF_len : ∀ {l k : List Nat}, sameF l k = true → l.length = k.length
 | [], [], _ => rfl
 | a :: l, b :: k, h => by
   simp only [sameF, Bool.and_eq_true] at h
   rw [List.length_cons, List.length_cons, sameF_len h.2]
 | [], _ :: _, h => by cases h
 | _ :: _, [], h => by cases h
theorem sameF_drop {l k : List Nat} {i : Nat} (h1 : i < l.length) (h2 : i < k.length) : sameF (l.drop i) (k.drop i) = (eqF l[i] k[i] && sameF (l.drop (i + 1)) (k.drop (i + 1))) := by
 rw [List.drop_eq_getElem_cons h1, List.drop_eq_getElem_cons h2]
 rfl
set_option maxRecDepth 20000 in
theorem w56F {H : Heap} {n : Nat} {v u : Value} {l k : List Nat} (hV : fltV H v = some l) (hU : fltV H u = some k) : AC Tryz.prog 56 [v, u] H n (.bool (sameF l k)) H n := by
 refine AC.given fun hold hsc hgn => AC.tidied (B := []) (by simp) ?_
 have hlt0 := fun k b h => (hold k b h).1
 replace hV : fltV (tidy n H) v = some l := listV_tidy decFl_tidy hlt0 hV
 replace hU : fltV (tidy n H) u = some k := listV_tidy decFl_tidy hlt0 hU
 have hr := recT_ok (P := Tryz.prog) (l := []) (by simp)
 obtain ⟨oa, c, rfl, hlt, _, hrow⟩ := fltV_form hV
 obtain ⟨ob, c2, rfl, hlt2, _, hrow2⟩ := fltV_form hU
 refine AC.pure Tryz.func56 rfl (by kernel_rfl) rfl [0, 1, 5] rfl ?_
 refine E.seq ?_
 refine E.reg hr (by simp; rfl) ?_
 refine E.seq ?_
 refine E.seq ?_
 refine E.reg hr (by simp; rfl) ?_
 by_cases hl : l.length = k.length
 case neg =>
   have hs : sameF l k = false := by
     cases h : sameF l k with
     | false => rfl
     | true => exact absurd (sameF_len h) hl
   have hl' : ¬ (l.length : Int) = k.length := by omega
   refine E.cond (t := true) (by simp [hl']) (fun _ => ?_) (fun h => by cases h)
   refine E.seq ?_
   refine E.reg hr (by simp; rfl) ?_
   refine E.ret ?_
   exact pureK.ret rfl rfl (by simp [hs]) (Sub.refl _)
 refine E.cond (t := false) (by simp [hl]) (fun h => by cases h) (fun _ => ?_)
 refine E.skip ?_
 refine E.seq ?_
 refine E.seq ?_
 refine E.reg hr (by simp; rfl) ?_
 refine E.block ?_
 refine E.loop ?_
 refine EL.ind (fun i : Nat => { fr := [(0, .slice oa l.length c), (1, .slice ob k.length c2), (5, iv i)], sz := 26, H := tidy n H, n := n, marks := [], vs := [0, 1, 5] }) (fun i => l.length - i) (fun i => i ≤ l.length ∧ sameF l k = sameF (l.drop i) (k.drop i)) 0 (.keep rfl rfl rfl (by simp) (Sub.refl _)) ⟨Nat.zero_le _, rfl⟩ (fun _ => rfl) ?_
 rintro i ⟨hi, hg⟩
 have hw : IntKind.i64.wrap ((i : Int) + 1) = (i : Int) + 1 := W_in (by omega) (by omega)
 refine E.seq ?_
 refine E.seq ?_
 refine E.reg hr (by simp; rfl) ?_
 by_cases hil : i < l.length
 · have hil2 : i < k.length := by omega
   have hilI : (i : Int) < k.length := by omega
   obtain ⟨a, rfl, hf, hc⟩ := hrow i hil
   obtain ⟨b, rfl, hf2, hc2⟩ := hrow2 i hil2
   rw [sameF_drop hil hil2] at hg
   have ha : a.block < n := cellA_lt (fun k b h => tidy_lt k b h) hc
   have hb : b.block < n := cellA_lt (fun k b h => tidy_lt k b h) hc2
   obtain ⟨x, hx⟩ : ∃ x, l[i] = x := ⟨_, rfl⟩
   obtain ⟨y, hy⟩ : ∃ y, k[i] = y := ⟨_, rfl⟩
   rw [hx] at hc hg
   rw [hy] at hc2 hg
   refine E.cond (t := true) (by simp [hil]) (fun _ => ?_) (fun h => by cases h)
   refine E.skip ?_
   refine E.seq ?_
   refine E.block ?_
   refine E.seq ?_
   cases he : eqF x y with
   | true =>
     have ho : (FloatKind.f32.format.order x y != some Ordering.eq) = false := by
       unfold eqF at he
       simp only [bne, he, Bool.not_true]
     rw [he, Bool.true_and] at hg
     refine E.drawU mixed hr [] [] [3, 7] (by kernel_rfl) (by simp [-cellA, -readA, -flat, cellA_read, hil, hilI, hf, hf2, hc, hc2, ha, hb, bin_fneql, ho]; rfl) ?_
     refine E.cond (t := false) (by simp) (fun h => by cases h) (fun _ => ?_)
     refine E.skip ?_
     refine E.reg hr (by simp [hw]; rfl) ?_
     exact ⟨i + 1, .keep rfl rfl rfl (by simp) (Sub.refl _), ⟨hil, hg⟩, by dsimp only; omega⟩
   | false =>
     have ho : (FloatKind.f32.format.order x y != some Ordering.eq) = true := by
       unfold eqF at he
       simp only [bne, he, Bool.not_false]
     rw [he, Bool.false_and] at hg
     refine E.drawU mixed hr [] [] [3, 7] (by kernel_rfl) (by simp [-cellA, -readA, -flat, cellA_read, hil, hilI, hf, hf2, hc, hc2, ha, hb, bin_fneql, ho]; rfl) ?_
     refine E.cond (t := true) (by simp) (fun _ => ?_) (fun h => by cases h)
     refine E.seq ?_
     refine E.reg hr (by simp; rfl) ?_
     refine E.ret ?_
     exact pureK.ret rfl rfl (by simp [hg]) (Sub.refl _)
 · rw [List.drop_of_length_le (by omega), List.drop_of_length_le (by omega)] at hg
   refine E.cond (t := false) (by simp [hil]) (fun h => by cases h) (fun _ => ?_)
   refine E.exit ?_
   refine E.seq ?_
   refine E.reg hr (by simp; rfl) ?_
   refine E.ret ?_
   exact pureK.ret rfl rfl (by rw [hg]; rfl) (Sub.refl _)
def g56F (args : List Value) (H : Heap) (n : Nat) : R := match args with
 | [v, u] => match fltV H v, fltV H u with
   | some l, some k => some (.bool (sameF l k), H, n)
   | _, _ => none
 | _ => none
theorem ok56F : EntOk Tryz.prog (56, g56F) := by
 intro args H n v H' n' h
 simp only [g56F] at h
 split at h
 · split at h
   · rename_i h1 h2
     injection h with h; injection h with e1 e2; injection e2 with e2 e3; subst e1 e2 e3
     exact w56F h1 h2
   · cases h
 · cases h
end Go.Proofs.YtndlfijfjglkdaaGreatDoor

namespace Go.Proofs.YtndlfijfjglkdaaGreatDoor
open Go Go.Ab Go.Proofs Ieee
def listE (l : List Gun) (d : ByteArray) (fs : List Nat) : Int := firstV [strE l, dirE d, lstV fs]
def OwnS (H : Heap) (x : Value) (l : List Gun) : Prop := (∃ v, x = .agg ⟨[v]⟩ ∧ OwnG H v l) ∨ (x = nilV ∧ l = [])
theorem OwnS.mono {H H' : Heap} (hs : Sub H H') {x : Value} {l : List Gun} (h : OwnS H x l) : OwnS H' x l := by
 rcases h with ⟨v, e, h⟩ | h
 · exact .inl ⟨v, e, h.mono hs⟩
 · exact .inr h
theorem OwnS.tidy {H : Heap} {n : Nat} (hl : ∀ k b, hget H k = some b → k < n) {x : Value} {l : List Gun} (h : OwnS H x l) : OwnS (Ab.tidy n H) x l := by
 rcases h with ⟨v, e, h⟩ | h
 · exact .inl ⟨v, e, h.tidy hl⟩
 · exact .inr h
theorem OwnS.box {H : Heap} {x : Value} {l : List Gun} (h : OwnS H x l) : ∃ v, x = .agg ⟨[v]⟩ := by
 rcases h with ⟨v, e, _⟩ | h
 · exact ⟨v, e⟩
 · exact ⟨_, h.1⟩
theorem OwnS.check {H : Heap} {x : Value} {l : List Gun} (h : OwnS H x l) (n : Nat) : g31 [x] H n = some (iv (strE l), H, n) := by
 rcases h with ⟨v, rfl, h⟩ | ⟨rfl, rfl⟩
 · exact h.check n
 · rfl
theorem OwnS.own {H : Heap} {x : Value} {l : List Gun} (h : OwnS H x l) (hst : strE l = 0) : ∃ v, x = .agg ⟨[v]⟩ ∧ OwnG H v l := by
 rcases h with h | ⟨rfl, rfl⟩
 · exact h
 · simp [strE] at hst
theorem names_tidy {H : Heap} {n : Nat} (hl : ∀ k b, hget H k = some b → k < n) (h : hget H 0 = some (.inp 0 names0)) : hget (tidy n H) 0 = some (.inp 0 names0) := hget_tidy.2 ⟨h, hl _ _ h, rfl⟩
set_option maxRecDepth 20000 in
theorem w151 {H : Heap} {n : Nat} {x u : Value} {l : List Gun} {d : ByteArray} {fs : List Nat} (h0 : hget H 0 = some (.inp 0 names0)) (hx : OwnS H x l) (hV : fltV H u = some fs) : AC Tryz.prog 151 [x, sv d, u] H n (iv (listE l d fs)) H n := by
 refine AC.given fun hold hsc hgn => AC.tidied (B := []) (by simp) ?_
 have hlt0 := fun k b h => (hold k b h).1
 replace hx := hx.tidy hlt0
 replace h0 := names_tidy hlt0 h0
 replace hV : fltV (tidy n H) u = some fs := listV_tidy decFl_tidy hlt0 hV
 obtain ⟨s, rfl⟩ := hx.box
 have hr := recT_ok (P := Tryz.prog) (l := [(31, g31), (114, g114), (115, g115), (113, g113), (155, g155)]) (by simp only [List.forall_mem_cons]; exact ⟨ok31, ok114, ok115, ok113, ok155, by simp⟩)
 obtain ⟨X0, hX0⟩ : ∃ X0, (n, Blk.cells [s] 32) :: tidy n H = X0 := ⟨_, rfl⟩
 have hS0 : Sub (tidy n H) X0 := by rw [← hX0]; exact Sub.cons (by simp) (Sub.refl _)
 have hb0 : cellsA X0 n 0 1 = some [s] := by rw [← hX0, cellsA_eq, hget_cons, if_pos rfl]; rfl
 have h31 : ∀ m, g31 [.agg ⟨[s]⟩] X0 m = some (iv (strE l), X0, m) := fun m => (hx.mono hS0).check m
 have h115 : ∀ m, g115 [sv d] X0 m = some (iv (dirE d), X0, m) := fun m => by simp only [g115]; rw [if_pos (hS0 _ _ h0)]
 have hV' : fltV X0 u = some fs := listV_mono decFl_mono hS0 hV
 have h155 : ∀ m, g155 [u, iv 64] X0 m = some (iv (chkV 64 fs), X0, m) := fun m => by simp only [g155, hV']; rfl
 obtain ⟨oa, c, rfl, hlt, _, _⟩ := fltV_form hV
 obtain ⟨a, ha⟩ : ∃ a, strE l = a := ⟨_, rfl⟩
 obtain ⟨b, hb⟩ : ∃ b, dirE d = b := ⟨_, rfl⟩
 obtain ⟨e, he⟩ : ∃ e, chkV 64 fs = e := ⟨_, rfl⟩
 rw [ha] at h31
 rw [hb] at h115
 rw [he] at h155
 refine AC.pure Tryz.func151 rfl (by kernel_rfl) rfl [0, 1, 2, 3, 6] rfl ?_
 refine E.seq ?_
 refine E.reg hr (by simp; rfl) ?_
 rw [hX0]
 refine E.seq ?_
 have hc : ∀ z : Int, cellsA ((n + 1, Blk.cells [iv a, iv b, iv z, iv e] 27) :: X0) (n + 1) 0 4 = some [iv a, iv b, iv z, iv e] := fun z => by rw [cellsA_eq, hget_cons, if_pos rfl]; rfl
 have hnn : hget X0 (n + 1) = none := by rw [← hX0, hget_cons, if_neg (by omega)]; simp
 have hS1 : ∀ z : Int, Sub (tidy n H) ((n + 1, Blk.cells [iv a, iv b, iv z, iv e] 27) :: X0) := fun z => hS0.trans (Sub.cons hnn (Sub.refl _))
 obtain ⟨m, hm⟩ : ∃ m, fs.length = m := ⟨_, rfl⟩
 have hres : listE l d fs = firstV [a, b, if m = 0 then 12 else 0, e] := by
   unfold listE lstV
   rw [ha, hb, he, hm]
   split <;> simp [firstV]
 rw [hm] at h155 hlt ⊢
 rw [hres]
 clear hV hV' hres hm
 rcases Nat.eq_zero_or_pos m with rfl | hp
 · refine E.reg hr (by simp [-cellsA, hb0, h31, h115, h155, g114, g113, whenV, intsAt, intsOf, hc]; rfl) ?_
   refine E.ret ?_
   exact pureK.ret rfl rfl (by simp) (hS1 _)
 · have hl0 : ¬ m = 0 := by omega
   refine E.reg hr (by simp [-cellsA, hb0, h31, h115, h155, hl0, g114, g113, whenV, intsAt, intsOf, hc]; rfl) ?_
   refine E.ret ?_
   exact pureK.ret rfl rfl (by simp [hl0]) (hS1 _)
theorem OwnS.one {H : Heap} {x : Value} {l k : List Gun} (h : OwnS H x l) (h' : OwnS H x k) : l = k := by
 rcases h with ⟨v, rfl, h⟩ | ⟨rfl, rfl⟩ <;> rcases h' with ⟨u, e, h'⟩ | ⟨e, rfl⟩
 · injection e with e
   injection e with e
   injection e with e
   subst e
   exact h.guns.one h'.guns
 · injection e with e
   injection e with e
   injection e with e
   subst e
   obtain ⟨b, e, _⟩ := h
   cases e
 · injection e with e
   injection e with e
   injection e with e
   subst e
   obtain ⟨b, e, _⟩ := h'
   cases e
 · rfl
open Classical in
noncomputable def g151 (args : List Value) (H : Heap) (n : Nat) : R := match args with
 | [x, .string d, u] => match fltV H u with
   | some fs => if h : hget H 0 = some (.inp 0 names0) ∧ ∃ l, OwnS H x l then some (iv (listE (Classical.choose h.2) d fs), H, n) else none
   | none => none
 | _ => none
theorem g151_at {H : Heap} {n : Nat} {x u : Value} {l : List Gun} {d : ByteArray} {fs : List Nat} (h0 : hget H 0 = some (.inp 0 names0)) (hx : OwnS H x l) (hV : fltV H u = some fs) : g151 [x, sv d, u] H n = some (iv (listE l d fs), H, n) := by
 simp only [g151, hV]
 rw [dif_pos ⟨h0, l, hx⟩, (Classical.choose_spec (p := fun l => OwnS H x l) ⟨l, hx⟩).one hx]
theorem ok151 : EntOk Tryz.prog (151, g151) := by
 intro args H n v H' n' h
 simp only [g151] at h
 split at h
 · split at h
   · rename_i fs h1
     split at h
     · rename_i h2
       injection h with h; injection h with e1 e2; injection e2 with e2 e3; subst e1 e2 e3
       exact w151 h2.1 (Classical.choose_spec h2.2) h1
     · cases h
   · cases h
 · cases h
end Go.Proofs.YtndlfijfjglkdaaGreatDoor
