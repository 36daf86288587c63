/-
The contract of strings.Join as an oracle; the printed states between which awake is run in pieces.
-/
import Derived.Shelf.Strings.Builder1
import Derived.Shelf.Strings.Builder2
import Derived.Shelf.LaysM
import Derived.Ground.Names2Prog
import Derived.Shelf.Strings.OnBuilder
import Derived.Test.YtndlfijfjglkdaaGreatDoorProg
import Derived.KernelRfl
import Derived.Test.YtndlfijfjglkdaaGreatDoorAf
namespace Go.Proofs
open Go.Shelf
def Tryz.lays156_ren : Go.Shelf.Ren := ⟨fun | 156 => 178 | 165 => 217 | 166 => 218 | 169 => 219 | 240 => 261 | 241 => 262 | 276 => 280 | 277 => 281 | n => n, fun | 31 => 102 | 9 => 9 | 3 => 3 | 4 => 4 | 0 => 0 | 20 => 20 | 72 => 292 | 76 => 296 | 70 => 290 | 37 => 84 | 75 => 295 | 127 => 331 | 164 => 345 | 5 => 5 | 80 => 247 | n => n, fun | n => n⟩
theorem Tryz.lays156 : Go.Proofs.Lays.n156 Tryz.prog Tryz.lays156_ren := {
 mixed := by kernel_rfl
 f156 := Tryz.func178.trans (congrArg some (by kernel_rfl))
 f165 := Tryz.func217.trans (congrArg some (by kernel_rfl))
 f166 := Tryz.func218.trans (congrArg some (by kernel_rfl))
 f169 := Tryz.func219.trans (congrArg some (by kernel_rfl))
 f240 := Tryz.func261.trans (congrArg some (by kernel_rfl))
 f241 := Tryz.func262.trans (congrArg some (by kernel_rfl))
 f276 := Tryz.func280.trans (congrArg some (by kernel_rfl))
 f277 := Tryz.func281.trans (congrArg some (by kernel_rfl))
 t0 := Tryz.underlying0
 a0 := Tryz.isAgg0
 z0 := Tryz.sizeOf0
 v0 := Tryz.zeroValue0
 t3 := Tryz.underlying3
 a3 := Tryz.isAgg3
 z3 := Tryz.sizeOf3
 v3 := Tryz.zeroValue3
 t4 := Tryz.underlying4
 a4 := Tryz.isAgg4
 z4 := Tryz.sizeOf4
 v4 := Tryz.zeroValue4
 t9 := Tryz.underlying9
 a9 := Tryz.isAgg9
 z9 := Tryz.sizeOf9
 v9 := Tryz.zeroValue9
 t20 := Tryz.underlying20
 a20 := Tryz.isAgg20
 z20 := Tryz.sizeOf20
 v20 := Tryz.zeroValue20
 t31 := Tryz.underlying102
 a31 := Tryz.isAgg102
 z31 := Tryz.sizeOf102
 v31 := Tryz.zeroValue102
 t37 := Tryz.underlying84
 a37 := Tryz.isAgg84
 z37 := Tryz.sizeOf84
 v37 := Tryz.zeroValue84
 t70 := Tryz.underlying290
 a70 := Tryz.isAgg290
 z70 := Tryz.sizeOf290
 v70 := Tryz.zeroValue290
 t72 := Tryz.underlying292
 a72 := Tryz.isAgg292
 z72 := Tryz.sizeOf292
 v72 := Tryz.zeroValue292
 t75 := Tryz.underlying295
 a75 := Tryz.isAgg295
 z75 := Tryz.sizeOf295
 v75 := Tryz.zeroValue295
 t76 := Tryz.underlying296
 a76 := Tryz.isAgg296
 z76 := Tryz.sizeOf296
 v76 := Tryz.zeroValue296
 t127 := Tryz.underlying331
 a127 := Tryz.isAgg331
 z127 := Tryz.sizeOf331
 v127 := Tryz.zeroValue331
 t164 := Tryz.underlying345
 a164 := Tryz.isAgg345
 z164 := Tryz.sizeOf345
 v164 := Tryz.zeroValue345 }
theorem Tryz.Builder_Extra_156 : Builder.Extra Tryz.prog Tryz.lays156_ren := {
 sizeBuilder := by kernel_rfl
 liesBuilder := by kernel_rfl
 t5 := Tryz.underlying5
 a5 := Tryz.isAgg5
 z5 := Tryz.sizeOf5
 v5 := Tryz.zeroValue5
 infoByte := by kernel_rfl
 cellsByte := by kernel_rfl
 sizeByte := by kernel_rfl
 neB5 := by decide }
open Go.RowKit in
theorem Tryz.strings_Join_none (a : Option Addr) (c : Nat) (sep : ByteArray) (w : World) :
   Calls Tryz.prog 178 #[.slice a 0 c, .string sep] w fun e w' => e = .returned (.string ⟨#[]⟩) ∧ w' = w := Any.strings_Join_none Tryz.lays156 Tryz.Builder_Extra_156 a c sep w
open Go.RowKit in
theorem Tryz.strings_Join (bk o c : Nat) (xs : List ByteArray) (sep : ByteArray) (w : World) (hcells : ∀ (j : Nat) x, xs[j]? = some x → w.cell? ⟨bk, o + j, none⟩ = some (.string x)) (hbk : bk < w.heap.size) (hN : xs.length ≤ 140737488355328) (hcap : xs.length ≤ c) (hlen : (Lib.join (xs.map (·.data.toList)) sep.data.toList).length ≤ 140737488355328) :
   Calls Tryz.prog 178 #[.slice (some ⟨bk, o, none⟩) xs.length c, .string sep] w fun e w' => e = .returned (.string ⟨(Lib.join (xs.map (·.data.toList)) sep.data.toList).toArray⟩) ∧ Below w.heap.size w w' := Any.strings_Join Tryz.lays156 Tryz.Builder_Extra_156 bk o c xs sep w hcells hbk hN hcap hlen
end Go.Proofs

namespace Go.Proofs.YtndlfijfjglkdaaGreatDoor
open Go Go.Ab Go.Proofs Go.RowKit
def strsA : List Value → Option (List ByteArray)
 | [] => some []
 | .string s :: t => (strsA t).map (s :: ·)
 | _ => none
theorem strsA_ok : ∀ (cs : List Value) (xs : List ByteArray), strsA cs = some xs → cs = xs.map .string
 | [], xs, h => by simp [strsA] at h; subst h; rfl
 | c :: cs, xs, h => by
   cases c <;> simp [strsA] at h
   obtain ⟨ys, hy, h⟩ := h
   subst h
   rw [strsA_ok cs ys hy]
   rfl
def joinV (xs : List ByteArray) (sep : ByteArray) : List UInt8 := Lib.join (xs.map (·.data.toList)) sep.data.toList
def roomy (H : Heap) (a : Addr) (n c : Nat) : Bool := match a.spot with
 | none => Nat.ble n c
 | some j => Nat.beq j 0 && Nat.beq c 0 && (match hget H a.block with
   | some (.ext _ _ z) => Nat.beq z 1
   | some (.row _ z) => Nat.beq z 1
   | _ => false)
def orcJ (H : Heap) (a : Addr) (n c : Nat) (sep : ByteArray) : Option Value :=
 match roomy H a n c with
 | false => none
 | true => match (cellsA H a.block a.off n).bind strsA with
   | none => none
   | some xs => match Nat.ble (joinV xs sep).length 140737488355328 && Nat.ble n 140737488355328 with
     | true => some (.string ⟨(joinV xs sep).toArray⟩)
     | false => none
def orcV (f : FuncId) (args : List Value) (H : Heap) : Option Value := match Nat.beq f 178 with
 | true => (match args with
   | [.slice none 0 _, .string _] => some (.string ⟨#[]⟩)
   | [.slice (some a) n c, .string sep] => orcJ H a n c sep
   | _ => none)
 | false => none
def orc : Oracle := fun f args H k => match orcV f args H with
 | some v => some (v, H, k)
 | none => none
theorem roomy_ok {P : Program} {φ : Vl} {H : Heap} {w : World} (hr : HRel P φ (hget H) w) {a : Addr} {n c : Nat} {cs : List Value} (h : roomy H a n c = true) (hc : cellsA H a.block a.off n = some cs) :
   ∃ c', den φ (.slice (some a) n c) = .slice (some ⟨φ.loc a.block, a.off, none⟩) n c' ∧ n ≤ c' := by
 obtain ⟨b, o, s⟩ := a
 unfold roomy at h
 cases s with
 | none => exact ⟨c, by simp [den], Nat.le_of_ble_eq_true h⟩
 | some j =>
   simp only [Bool.and_eq_true] at h
   have hj := Nat.eq_of_beq_eq_true h.1.1
   have hc0 := Nat.eq_of_beq_eq_true h.1.2
   subst hj hc0
   refine ⟨φ.cap b, by simp [den], ?_⟩
   have h2 := h.2
   have hc : cellsA H b o n = some cs := hc
   unfold cellsA at hc
   split at h2
   · rename_i xs t z hb
     have hz := Nat.eq_of_beq_eq_true h2
     subst hz
     obtain ⟨d, _, e2, e3, _⟩ := hr.blk b _ hb
     have hb : hget H b = some (.ext xs t 1) := hb
     rw [hb] at hc
     simp only at hc
     split at hc
     · have := congrArg List.length e2
       simp at this e3
       omega
     · cases hc
   · rename_i xs z hb
     have hz := Nat.eq_of_beq_eq_true h2
     subst hz
     obtain ⟨d, _, _, _, e2, e3, _⟩ := hr.blk b _ hb
     have hb : hget H b = some (.row xs 1) := hb
     rw [hb] at hc
     simp only at hc
     split at hc
     · have := congrArg List.length e2
       simp at this e3
       omega
     · cases hc
   · cases h2
theorem orcOk : OracleOk Tryz.prog orc := by
 intro f args H n v H' n' h0
 unfold orc at h0
 split at h0
 case h_2 => cases h0
 rename_i v0 h
 injection h0 with h0; injection h0 with e1 e2; injection e2 with e2 e3; subst e1 e2 e3
 unfold orcV at h
 split at h
 · rename_i hf
   have hf := Nat.eq_of_beq_eq_true hf
   subst hf
   split at h
   · rename_i c sep
     injection h with h
     subst h
     refine AC.of_calls (by kernel_rfl) rfl fun p φ w hB hsc => ?_
     rw [show (denL φ [.slice none 0 c, .string sep]).toArray = #[.slice none 0 c, .string sep] by simp [denL, den]]
     exact (Tryz.strings_Join_none none c sep w).mono fun e w' hh => ⟨hh.1, hh.2 ▸ Below.refl _ _⟩
   · rename_i a k c sep
     unfold orcJ at h
     split at h
     · cases h
     · rename_i hroom
       split at h
       · cases h
       · rename_i xs hxs
         split at h
         · rename_i hlen
           rw [Bool.and_eq_true] at hlen
           injection h with h
           subst h
           rw [Option.bind_eq_some_iff] at hxs
           obtain ⟨cs, hcs, hxs⟩ := hxs
           have hmap := strsA_ok _ _ hxs
           obtain ⟨hl, hat⟩ := cellsA_at hcs
           have hk : xs.length = k := by rw [← hl, hmap]; simp
           refine AC.of_calls (by kernel_rfl) rfl fun p φ w hB hsc => ?_
           obtain ⟨c', hden, hle⟩ := roomy_ok hB.rel hroom hcs
           rw [show (denL φ [.slice (some a) k c, .string sep]).toArray = #[.slice (some ⟨φ.loc a.block, a.off, none⟩) xs.length c', .string sep] by rw [denL, hden, hk]; simp [denL, den]]
           have hcells : ∀ (j : Nat) x, xs[j]? = some x → w.cell? ⟨φ.loc a.block, a.off + j, none⟩ = some (.string x) := fun j x hx => by
             have hjl : j < k := by rw [← hk]; exact (List.getElem?_eq_some_iff.1 hx).1
             have h1 : cellA H a.block (a.off + j) = some (.string x) := by rw [hat j hjl, hmap]; simp [hx]
             have := (cellA_ok hB.rel hB.sm h1).1
             simpa [den] using this
           have hblk : ∃ b, hget H a.block = some b := by
             cases hg : hget H a.block with
             | some b => exact ⟨b, rfl⟩
             | none => unfold cellsA at hcs; rw [hg] at hcs; cases hcs
           obtain ⟨b, hb⟩ := hblk
           exact Tryz.strings_Join (φ.loc a.block) a.off c' xs sep w hcells (hB.rel.lt hb) (by rw [hk]; exact Nat.le_of_ble_eq_true hlen.2) (by rw [hk]; exact hle) (Nat.le_of_ble_eq_true hlen.1)
         · cases h
   · cases h
 · cases h
end Go.Proofs.YtndlfijfjglkdaaGreatDoor

namespace Go.Proofs.YtndlfijfjglkdaaGreatDoor
open Go Go.Ab Go.Proofs
def cAt : Code → Nat → Code
 | .seq a _, 0 => a
 | .seq _ b, i + 1 => cAt b i
 | c, _ => c
def cFrom : Code → Nat → Code
 | c, 0 => c
 | .seq _ b, i + 1 => cFrom b i
 | c, _ => c
def bodyOf (f : Func) : Code := match f.body with
 | some c => c
 | none => .skip
def st0 : St := { fr := [], sz := 298, H := [(3, .inp 0 [.int .u64 (1), .int .u64 (10), .int .u64 (100), .int .u64 (1000), .int .u64 (10000), .int .u64 (100000), .int .u64 (1000000), .int .u64 (10000000), .int .u64 (100000000), .int .u64 (1000000000), .int .u64 (10000000000), .int .u64 (100000000000), .int .u64 (1000000000000), .int .u64 (10000000000000), .int .u64 (100000000000000), .int .u64 (1000000000000000), .int .u64 (10000000000000000), .int .u64 (100000000000000000), .int .u64 (1000000000000000000), .int .u64 (10000000000000000000)]), (0, .inp 0 [.string ⟨#[100, 111, 119, 110]⟩, .string ⟨#[102, 111, 114, 101]⟩, .string ⟨#[97, 102, 116]⟩, .string ⟨#[112, 111, 114, 116]⟩, .string ⟨#[115, 116, 97, 114, 98, 111, 97, 114, 100]⟩])], n := 10, marks := [], vs := [] }
def st1 : St := { fr := [(0, .bool false)], sz := 298, H := [(3, .inp 0 [.int .u64 (1), .int .u64 (10), .int .u64 (100), .int .u64 (1000), .int .u64 (10000), .int .u64 (100000), .int .u64 (1000000), .int .u64 (10000000), .int .u64 (100000000), .int .u64 (1000000000), .int .u64 (10000000000), .int .u64 (100000000000), .int .u64 (1000000000000), .int .u64 (10000000000000), .int .u64 (100000000000000), .int .u64 (1000000000000000), .int .u64 (10000000000000000), .int .u64 (100000000000000000), .int .u64 (1000000000000000000), .int .u64 (10000000000000000000)]), (0, .inp 0 [.string ⟨#[100, 111, 119, 110]⟩, .string ⟨#[102, 111, 114, 101]⟩, .string ⟨#[97, 102, 116]⟩, .string ⟨#[112, 111, 114, 116]⟩, .string ⟨#[115, 116, 97, 114, 98, 111, 97, 114, 100]⟩])], n := 10, marks := [], vs := [] }
def st2 : St := { fr := [(1, .int .i64 (7)), (2, .int .i64 (0)), (0, .bool false)], sz := 298, H := [(3, .inp 0 [.int .u64 (1), .int .u64 (10), .int .u64 (100), .int .u64 (1000), .int .u64 (10000), .int .u64 (100000), .int .u64 (1000000), .int .u64 (10000000), .int .u64 (100000000), .int .u64 (1000000000), .int .u64 (10000000000), .int .u64 (100000000000), .int .u64 (1000000000000), .int .u64 (10000000000000), .int .u64 (100000000000000), .int .u64 (1000000000000000), .int .u64 (10000000000000000), .int .u64 (100000000000000000), .int .u64 (1000000000000000000), .int .u64 (10000000000000000000)]), (0, .inp 0 [.string ⟨#[100, 111, 119, 110]⟩, .string ⟨#[102, 111, 114, 101]⟩, .string ⟨#[97, 102, 116]⟩, .string ⟨#[112, 111, 114, 116]⟩, .string ⟨#[115, 116, 97, 114, 98, 111, 97, 114, 100]⟩])], n := 11, marks := [], vs := [] }
def st3 : St := { fr := [(3, .slice (some ⟨47, 0, some 0⟩) 14 0), (1, .int .i64 (7)), (4, .int .i64 (0)), (2, .int .i64 (0)), (0, .bool false)], sz := 298, H := [(47, .ext [.float .f32 1082130432, .float .f32 0, .float .f32 0, .float .f32 3221225472, .float .f32 0, .float .f32 0, .float .f32 1073741824, .float .f32 0, .float .f32 0, .float .f32 0, .float .f32 0, .float .f32 0, .float .f32 1065353216, .float .f32 0] 98 1), (3, .inp 0 [.int .u64 (1), .int .u64 (10), .int .u64 (100), .int .u64 (1000), .int .u64 (10000), .int .u64 (100000), .int .u64 (1000000), .int .u64 (10000000), .int .u64 (100000000), .int .u64 (1000000000), .int .u64 (10000000000), .int .u64 (100000000000), .int .u64 (1000000000000), .int .u64 (10000000000000), .int .u64 (100000000000000), .int .u64 (1000000000000000), .int .u64 (10000000000000000), .int .u64 (100000000000000000), .int .u64 (1000000000000000000), .int .u64 (10000000000000000000)]), (0, .inp 0 [.string ⟨#[100, 111, 119, 110]⟩, .string ⟨#[102, 111, 114, 101]⟩, .string ⟨#[97, 102, 116]⟩, .string ⟨#[112, 111, 114, 116]⟩, .string ⟨#[115, 116, 97, 114, 98, 111, 97, 114, 100]⟩])], n := 48, marks := [], vs := [] }
def st4 : St := { fr := [(5, .int .i64 (24)), (3, .slice (some ⟨47, 0, some 0⟩) 14 0), (1, .int .i64 (7)), (6, .int .i64 (0)), (4, .int .i64 (0)), (2, .int .i64 (0)), (0, .bool false)], sz := 298, H := [(47, .ext [.float .f32 1082130432, .float .f32 0, .float .f32 0, .float .f32 3221225472, .float .f32 0, .float .f32 0, .float .f32 1073741824, .float .f32 0, .float .f32 0, .float .f32 0, .float .f32 0, .float .f32 0, .float .f32 1065353216, .float .f32 0] 98 1), (3, .inp 0 [.int .u64 (1), .int .u64 (10), .int .u64 (100), .int .u64 (1000), .int .u64 (10000), .int .u64 (100000), .int .u64 (1000000), .int .u64 (10000000), .int .u64 (100000000), .int .u64 (1000000000), .int .u64 (10000000000), .int .u64 (100000000000), .int .u64 (1000000000000), .int .u64 (10000000000000), .int .u64 (100000000000000), .int .u64 (1000000000000000), .int .u64 (10000000000000000), .int .u64 (100000000000000000), .int .u64 (1000000000000000000), .int .u64 (10000000000000000000)]), (0, .inp 0 [.string ⟨#[100, 111, 119, 110]⟩, .string ⟨#[102, 111, 114, 101]⟩, .string ⟨#[97, 102, 116]⟩, .string ⟨#[112, 111, 114, 116]⟩, .string ⟨#[115, 116, 97, 114, 98, 111, 97, 114, 100]⟩])], n := 68, marks := [], vs := [] }
def st5 : St := { fr := [(7, .pointer (some ⟨93, 0, none⟩)), (5, .int .i64 (24)), (3, .slice (some ⟨47, 0, some 0⟩) 14 0), (1, .int .i64 (7)), (8, .int .i64 (0)), (6, .int .i64 (0)), (4, .int .i64 (0)), (2, .int .i64 (0)), (0, .bool false)], sz := 298, H := [(93, .cells [.int .i64 (-10), .int .i64 (1), .int .i64 (0), .int .i64 (1)] 36), (47, .ext [.float .f32 1082130432, .float .f32 0, .float .f32 0, .float .f32 3221225472, .float .f32 0, .float .f32 0, .float .f32 1073741824, .float .f32 0, .float .f32 0, .float .f32 0, .float .f32 0, .float .f32 0, .float .f32 1065353216, .float .f32 0] 98 1), (3, .inp 0 [.int .u64 (1), .int .u64 (10), .int .u64 (100), .int .u64 (1000), .int .u64 (10000), .int .u64 (100000), .int .u64 (1000000), .int .u64 (10000000), .int .u64 (100000000), .int .u64 (1000000000), .int .u64 (10000000000), .int .u64 (100000000000), .int .u64 (1000000000000), .int .u64 (10000000000000), .int .u64 (100000000000000), .int .u64 (1000000000000000), .int .u64 (10000000000000000), .int .u64 (100000000000000000), .int .u64 (1000000000000000000), .int .u64 (10000000000000000000)]), (0, .inp 0 [.string ⟨#[100, 111, 119, 110]⟩, .string ⟨#[102, 111, 114, 101]⟩, .string ⟨#[97, 102, 116]⟩, .string ⟨#[112, 111, 114, 116]⟩, .string ⟨#[115, 116, 97, 114, 98, 111, 97, 114, 100]⟩])], n := 94, marks := [], vs := [] }
def st6 : St := { fr := [(9, .int .i64 (3)), (7, .pointer (some ⟨93, 0, none⟩)), (5, .int .i64 (24)), (3, .slice (some ⟨47, 0, some 0⟩) 14 0), (1, .int .i64 (7)), (10, .int .i64 (0)), (8, .int .i64 (0)), (6, .int .i64 (0)), (4, .int .i64 (0)), (2, .int .i64 (0)), (0, .bool false)], sz := 298, H := [(93, .cells [.int .i64 (-10), .int .i64 (1), .int .i64 (0), .int .i64 (1)] 36), (47, .ext [.float .f32 1082130432, .float .f32 0, .float .f32 0, .float .f32 3221225472, .float .f32 0, .float .f32 0, .float .f32 1073741824, .float .f32 0, .float .f32 0, .float .f32 0, .float .f32 0, .float .f32 0, .float .f32 1065353216, .float .f32 0] 98 1), (3, .inp 0 [.int .u64 (1), .int .u64 (10), .int .u64 (100), .int .u64 (1000), .int .u64 (10000), .int .u64 (100000), .int .u64 (1000000), .int .u64 (10000000), .int .u64 (100000000), .int .u64 (1000000000), .int .u64 (10000000000), .int .u64 (100000000000), .int .u64 (1000000000000), .int .u64 (10000000000000), .int .u64 (100000000000000), .int .u64 (1000000000000000), .int .u64 (10000000000000000), .int .u64 (100000000000000000), .int .u64 (1000000000000000000), .int .u64 (10000000000000000000)]), (0, .inp 0 [.string ⟨#[100, 111, 119, 110]⟩, .string ⟨#[102, 111, 114, 101]⟩, .string ⟨#[97, 102, 116]⟩, .string ⟨#[112, 111, 114, 116]⟩, .string ⟨#[115, 116, 97, 114, 98, 111, 97, 114, 100]⟩])], n := 130, marks := [], vs := [] }
def st7 : St := { fr := [(11, .int .i64 (2)), (9, .int .i64 (3)), (7, .pointer (some ⟨93, 0, none⟩)), (5, .int .i64 (24)), (3, .slice (some ⟨47, 0, some 0⟩) 14 0), (1, .int .i64 (7)), (12, .int .i64 (0)), (10, .int .i64 (0)), (8, .int .i64 (0)), (6, .int .i64 (0)), (4, .int .i64 (0)), (2, .int .i64 (0)), (0, .bool false)], sz := 298, H := [(93, .cells [.int .i64 (-10), .int .i64 (1), .int .i64 (0), .int .i64 (1)] 36), (47, .ext [.float .f32 1082130432, .float .f32 0, .float .f32 0, .float .f32 3221225472, .float .f32 0, .float .f32 0, .float .f32 1073741824, .float .f32 0, .float .f32 0, .float .f32 0, .float .f32 0, .float .f32 0, .float .f32 1065353216, .float .f32 0] 98 1), (3, .inp 0 [.int .u64 (1), .int .u64 (10), .int .u64 (100), .int .u64 (1000), .int .u64 (10000), .int .u64 (100000), .int .u64 (1000000), .int .u64 (10000000), .int .u64 (100000000), .int .u64 (1000000000), .int .u64 (10000000000), .int .u64 (100000000000), .int .u64 (1000000000000), .int .u64 (10000000000000), .int .u64 (100000000000000), .int .u64 (1000000000000000), .int .u64 (10000000000000000), .int .u64 (100000000000000000), .int .u64 (1000000000000000000), .int .u64 (10000000000000000000)]), (0, .inp 0 [.string ⟨#[100, 111, 119, 110]⟩, .string ⟨#[102, 111, 114, 101]⟩, .string ⟨#[97, 102, 116]⟩, .string ⟨#[112, 111, 114, 116]⟩, .string ⟨#[115, 116, 97, 114, 98, 111, 97, 114, 100]⟩])], n := 166, marks := [], vs := [] }
def st8 : St := { fr := [(13, .slice (some ⟨235, 0, some 0⟩) 8 0), (11, .int .i64 (2)), (9, .int .i64 (3)), (7, .pointer (some ⟨93, 0, none⟩)), (5, .int .i64 (24)), (3, .slice (some ⟨47, 0, some 0⟩) 14 0), (1, .int .i64 (7)), (14, .int .i64 (0)), (12, .int .i64 (0)), (10, .int .i64 (0)), (8, .int .i64 (0)), (6, .int .i64 (0)), (4, .int .i64 (0)), (2, .int .i64 (0)), (0, .bool false)], sz := 298, H := [(235, .ext [.float .f32 1082130432, .float .f32 1073741824, .float .f32 0, .float .f32 3225419776, .float .f32 0, .float .f32 0, .float .f32 1077936128, .float .f32 0] 98 1), (93, .cells [.int .i64 (-10), .int .i64 (1), .int .i64 (0), .int .i64 (1)] 36), (47, .ext [.float .f32 1082130432, .float .f32 0, .float .f32 0, .float .f32 3221225472, .float .f32 0, .float .f32 0, .float .f32 1073741824, .float .f32 0, .float .f32 0, .float .f32 0, .float .f32 0, .float .f32 0, .float .f32 1065353216, .float .f32 0] 98 1), (3, .inp 0 [.int .u64 (1), .int .u64 (10), .int .u64 (100), .int .u64 (1000), .int .u64 (10000), .int .u64 (100000), .int .u64 (1000000), .int .u64 (10000000), .int .u64 (100000000), .int .u64 (1000000000), .int .u64 (10000000000), .int .u64 (100000000000), .int .u64 (1000000000000), .int .u64 (10000000000000), .int .u64 (100000000000000), .int .u64 (1000000000000000), .int .u64 (10000000000000000), .int .u64 (100000000000000000), .int .u64 (1000000000000000000), .int .u64 (10000000000000000000)]), (0, .inp 0 [.string ⟨#[100, 111, 119, 110]⟩, .string ⟨#[102, 111, 114, 101]⟩, .string ⟨#[97, 102, 116]⟩, .string ⟨#[112, 111, 114, 116]⟩, .string ⟨#[115, 116, 97, 114, 98, 111, 97, 114, 100]⟩])], n := 236, marks := [], vs := [] }
def st9 : St := { fr := [(15, .slice (some ⟨305, 0, some 0⟩) 8 0), (13, .slice (some ⟨235, 0, some 0⟩) 8 0), (11, .int .i64 (2)), (9, .int .i64 (3)), (7, .pointer (some ⟨93, 0, none⟩)), (5, .int .i64 (24)), (3, .slice (some ⟨47, 0, some 0⟩) 14 0), (1, .int .i64 (7)), (16, .int .i64 (0)), (14, .int .i64 (0)), (12, .int .i64 (0)), (10, .int .i64 (0)), (8, .int .i64 (0)), (6, .int .i64 (0)), (4, .int .i64 (0)), (2, .int .i64 (0)), (0, .bool false)], sz := 298, H := [(305, .ext [.float .f32 1082130432, .float .f32 1073741824, .float .f32 0, .float .f32 3225419776, .float .f32 0, .float .f32 0, .float .f32 1065353216, .float .f32 1073741824] 98 1), (235, .ext [.float .f32 1082130432, .float .f32 1073741824, .float .f32 0, .float .f32 3225419776, .float .f32 0, .float .f32 0, .float .f32 1077936128, .float .f32 0] 98 1), (93, .cells [.int .i64 (-10), .int .i64 (1), .int .i64 (0), .int .i64 (1)] 36), (47, .ext [.float .f32 1082130432, .float .f32 0, .float .f32 0, .float .f32 3221225472, .float .f32 0, .float .f32 0, .float .f32 1073741824, .float .f32 0, .float .f32 0, .float .f32 0, .float .f32 0, .float .f32 0, .float .f32 1065353216, .float .f32 0] 98 1), (3, .inp 0 [.int .u64 (1), .int .u64 (10), .int .u64 (100), .int .u64 (1000), .int .u64 (10000), .int .u64 (100000), .int .u64 (1000000), .int .u64 (10000000), .int .u64 (100000000), .int .u64 (1000000000), .int .u64 (10000000000), .int .u64 (100000000000), .int .u64 (1000000000000), .int .u64 (10000000000000), .int .u64 (100000000000000), .int .u64 (1000000000000000), .int .u64 (10000000000000000), .int .u64 (100000000000000000), .int .u64 (1000000000000000000), .int .u64 (10000000000000000000)]), (0, .inp 0 [.string ⟨#[100, 111, 119, 110]⟩, .string ⟨#[102, 111, 114, 101]⟩, .string ⟨#[97, 102, 116]⟩, .string ⟨#[112, 111, 114, 116]⟩, .string ⟨#[115, 116, 97, 114, 98, 111, 97, 114, 100]⟩])], n := 306, marks := [], vs := [] }
def st10 : St := { fr := [(17, .slice (some ⟨461, 0, some 0⟩) 8 0), (15, .slice (some ⟨305, 0, some 0⟩) 8 0), (13, .slice (some ⟨235, 0, some 0⟩) 8 0), (11, .int .i64 (2)), (9, .int .i64 (3)), (7, .pointer (some ⟨93, 0, none⟩)), (5, .int .i64 (24)), (3, .slice (some ⟨47, 0, some 0⟩) 14 0), (1, .int .i64 (7)), (18, .int .i64 (0)), (16, .int .i64 (0)), (14, .int .i64 (0)), (12, .int .i64 (0)), (10, .int .i64 (0)), (8, .int .i64 (0)), (6, .int .i64 (0)), (4, .int .i64 (0)), (2, .int .i64 (0)), (0, .bool false)], sz := 298, H := [(461, .ext [.int .i64 (64), .int .i64 (64), .int .i64 (32), .int .i64 (32), .int .i64 (0), .int .i64 (0), .int .i64 (-48), .int .i64 (-48), .int .i64 (0), .int .i64 (0), .int .i64 (0), .int .i64 (0), .int .i64 (16), .int .i64 (48), .int .i64 (0), .int .i64 (32)] 92 2), (305, .ext [.float .f32 1082130432, .float .f32 1073741824, .float .f32 0, .float .f32 3225419776, .float .f32 0, .float .f32 0, .float .f32 1065353216, .float .f32 1073741824] 98 1), (235, .ext [.float .f32 1082130432, .float .f32 1073741824, .float .f32 0, .float .f32 3225419776, .float .f32 0, .float .f32 0, .float .f32 1077936128, .float .f32 0] 98 1), (93, .cells [.int .i64 (-10), .int .i64 (1), .int .i64 (0), .int .i64 (1)] 36), (47, .ext [.float .f32 1082130432, .float .f32 0, .float .f32 0, .float .f32 3221225472, .float .f32 0, .float .f32 0, .float .f32 1073741824, .float .f32 0, .float .f32 0, .float .f32 0, .float .f32 0, .float .f32 0, .float .f32 1065353216, .float .f32 0] 98 1), (3, .inp 0 [.int .u64 (1), .int .u64 (10), .int .u64 (100), .int .u64 (1000), .int .u64 (10000), .int .u64 (100000), .int .u64 (1000000), .int .u64 (10000000), .int .u64 (100000000), .int .u64 (1000000000), .int .u64 (10000000000), .int .u64 (100000000000), .int .u64 (1000000000000), .int .u64 (10000000000000), .int .u64 (100000000000000), .int .u64 (1000000000000000), .int .u64 (10000000000000000), .int .u64 (100000000000000000), .int .u64 (1000000000000000000), .int .u64 (10000000000000000000)]), (0, .inp 0 [.string ⟨#[100, 111, 119, 110]⟩, .string ⟨#[102, 111, 114, 101]⟩, .string ⟨#[97, 102, 116]⟩, .string ⟨#[112, 111, 114, 116]⟩, .string ⟨#[115, 116, 97, 114, 98, 111, 97, 114, 100]⟩])], n := 462, marks := [], vs := [] }
def st11 : St := { fr := [(0, .bool false)], sz := 298, H := [(3, .inp 0 [.int .u64 (1), .int .u64 (10), .int .u64 (100), .int .u64 (1000), .int .u64 (10000), .int .u64 (100000), .int .u64 (1000000), .int .u64 (10000000), .int .u64 (100000000), .int .u64 (1000000000), .int .u64 (10000000000), .int .u64 (100000000000), .int .u64 (1000000000000), .int .u64 (10000000000000), .int .u64 (100000000000000), .int .u64 (1000000000000000), .int .u64 (10000000000000000), .int .u64 (100000000000000000), .int .u64 (1000000000000000000), .int .u64 (10000000000000000000)]), (0, .inp 0 [.string ⟨#[100, 111, 119, 110]⟩, .string ⟨#[102, 111, 114, 101]⟩, .string ⟨#[97, 102, 116]⟩, .string ⟨#[112, 111, 114, 116]⟩, .string ⟨#[115, 116, 97, 114, 98, 111, 97, 114, 100]⟩])], n := 526, marks := [], vs := [] }
def st12 : St := { fr := [(20, .bool false), (21, .int .i64 (0)), (0, .bool false)], sz := 298, H := [(3, .inp 0 [.int .u64 (1), .int .u64 (10), .int .u64 (100), .int .u64 (1000), .int .u64 (10000), .int .u64 (100000), .int .u64 (1000000), .int .u64 (10000000), .int .u64 (100000000), .int .u64 (1000000000), .int .u64 (10000000000), .int .u64 (100000000000), .int .u64 (1000000000000), .int .u64 (10000000000000), .int .u64 (100000000000000), .int .u64 (1000000000000000), .int .u64 (10000000000000000), .int .u64 (100000000000000000), .int .u64 (1000000000000000000), .int .u64 (10000000000000000000)]), (0, .inp 0 [.string ⟨#[100, 111, 119, 110]⟩, .string ⟨#[102, 111, 114, 101]⟩, .string ⟨#[97, 102, 116]⟩, .string ⟨#[112, 111, 114, 116]⟩, .string ⟨#[115, 116, 97, 114, 98, 111, 97, 114, 100]⟩])], n := 740, marks := [], vs := [] }
def st13 : St := { fr := [(23, .int .i64 (18)), (20, .bool false), (21, .int .i64 (0)), (0, .bool false)], sz := 298, H := [(3, .inp 0 [.int .u64 (1), .int .u64 (10), .int .u64 (100), .int .u64 (1000), .int .u64 (10000), .int .u64 (100000), .int .u64 (1000000), .int .u64 (10000000), .int .u64 (100000000), .int .u64 (1000000000), .int .u64 (10000000000), .int .u64 (100000000000), .int .u64 (1000000000000), .int .u64 (10000000000000), .int .u64 (100000000000000), .int .u64 (1000000000000000), .int .u64 (10000000000000000), .int .u64 (100000000000000000), .int .u64 (1000000000000000000), .int .u64 (10000000000000000000)]), (0, .inp 0 [.string ⟨#[100, 111, 119, 110]⟩, .string ⟨#[102, 111, 114, 101]⟩, .string ⟨#[97, 102, 116]⟩, .string ⟨#[112, 111, 114, 116]⟩, .string ⟨#[115, 116, 97, 114, 98, 111, 97, 114, 100]⟩])], n := 995, marks := [], vs := [] }
def st14 : St := { fr := [(24, .slice (some ⟨1264, 0, some 0⟩) 2 0), (23, .int .i64 (18)), (20, .bool false), (25, .int .i64 (0)), (21, .int .i64 (0)), (0, .bool false)], sz := 298, H := [(1264, .ext [.int .i64 (1), .int .i64 (0)] 3 1), (3, .inp 0 [.int .u64 (1), .int .u64 (10), .int .u64 (100), .int .u64 (1000), .int .u64 (10000), .int .u64 (100000), .int .u64 (1000000), .int .u64 (10000000), .int .u64 (100000000), .int .u64 (1000000000), .int .u64 (10000000000), .int .u64 (100000000000), .int .u64 (1000000000000), .int .u64 (10000000000000), .int .u64 (100000000000000), .int .u64 (1000000000000000), .int .u64 (10000000000000000), .int .u64 (100000000000000000), .int .u64 (1000000000000000000), .int .u64 (10000000000000000000)]), (0, .inp 0 [.string ⟨#[100, 111, 119, 110]⟩, .string ⟨#[102, 111, 114, 101]⟩, .string ⟨#[97, 102, 116]⟩, .string ⟨#[112, 111, 114, 116]⟩, .string ⟨#[115, 116, 97, 114, 98, 111, 97, 114, 100]⟩])], n := 1265, marks := [], vs := [] }
def st15 : St := { fr := [(26, .pointer (some ⟨1331, 0, none⟩)), (24, .slice (some ⟨1264, 0, some 0⟩) 2 0), (23, .int .i64 (18)), (20, .bool false), (27, .int .i64 (0)), (25, .int .i64 (0)), (21, .int .i64 (0)), (0, .bool false)], sz := 298, H := [(1331, .cells [.int .i64 (4608), .int .i64 (12800), .int .i64 (8704)] 50), (1264, .ext [.int .i64 (1), .int .i64 (0)] 3 1), (3, .inp 0 [.int .u64 (1), .int .u64 (10), .int .u64 (100), .int .u64 (1000), .int .u64 (10000), .int .u64 (100000), .int .u64 (1000000), .int .u64 (10000000), .int .u64 (100000000), .int .u64 (1000000000), .int .u64 (10000000000), .int .u64 (100000000000), .int .u64 (1000000000000), .int .u64 (10000000000000), .int .u64 (100000000000000), .int .u64 (1000000000000000), .int .u64 (10000000000000000), .int .u64 (100000000000000000), .int .u64 (1000000000000000000), .int .u64 (10000000000000000000)]), (0, .inp 0 [.string ⟨#[100, 111, 119, 110]⟩, .string ⟨#[102, 111, 114, 101]⟩, .string ⟨#[97, 102, 116]⟩, .string ⟨#[112, 111, 114, 116]⟩, .string ⟨#[115, 116, 97, 114, 98, 111, 97, 114, 100]⟩])], n := 1332, marks := [], vs := [] }
def st16 : St := { fr := [(28, .slice (some ⟨1459, 0, some 0⟩) 1 0), (26, .pointer (some ⟨1331, 0, none⟩)), (24, .slice (some ⟨1264, 0, some 0⟩) 2 0), (23, .int .i64 (18)), (20, .bool false), (29, .int .i64 (0)), (27, .int .i64 (0)), (25, .int .i64 (0)), (21, .int .i64 (0)), (0, .bool false)], sz := 298, H := [(1459, .ext [.int .i64 (0)] 3 1), (1331, .cells [.int .i64 (4608), .int .i64 (12800), .int .i64 (8704)] 50), (1264, .ext [.int .i64 (1), .int .i64 (0)] 3 1), (3, .inp 0 [.int .u64 (1), .int .u64 (10), .int .u64 (100), .int .u64 (1000), .int .u64 (10000), .int .u64 (100000), .int .u64 (1000000), .int .u64 (10000000), .int .u64 (100000000), .int .u64 (1000000000), .int .u64 (10000000000), .int .u64 (100000000000), .int .u64 (1000000000000), .int .u64 (10000000000000), .int .u64 (100000000000000), .int .u64 (1000000000000000), .int .u64 (10000000000000000), .int .u64 (100000000000000000), .int .u64 (1000000000000000000), .int .u64 (10000000000000000000)]), (0, .inp 0 [.string ⟨#[100, 111, 119, 110]⟩, .string ⟨#[102, 111, 114, 101]⟩, .string ⟨#[97, 102, 116]⟩, .string ⟨#[112, 111, 114, 116]⟩, .string ⟨#[115, 116, 97, 114, 98, 111, 97, 114, 100]⟩])], n := 1548, marks := [], vs := [] }
def st17 : St := { fr := [(30, .slice (some ⟨1556, 0, some 0⟩) 3 0), (28, .slice (some ⟨1459, 0, some 0⟩) 1 0), (26, .pointer (some ⟨1331, 0, none⟩)), (24, .slice (some ⟨1264, 0, some 0⟩) 2 0), (23, .int .i64 (18)), (20, .bool false), (31, .int .i64 (0)), (29, .int .i64 (0)), (27, .int .i64 (0)), (25, .int .i64 (0)), (21, .int .i64 (0)), (0, .bool false)], sz := 298, H := [(1556, .ext [.int .i64 (110), .int .i64 (130), .int .i64 (150)] 3 1), (1459, .ext [.int .i64 (0)] 3 1), (1331, .cells [.int .i64 (4608), .int .i64 (12800), .int .i64 (8704)] 50), (1264, .ext [.int .i64 (1), .int .i64 (0)] 3 1), (3, .inp 0 [.int .u64 (1), .int .u64 (10), .int .u64 (100), .int .u64 (1000), .int .u64 (10000), .int .u64 (100000), .int .u64 (1000000), .int .u64 (10000000), .int .u64 (100000000), .int .u64 (1000000000), .int .u64 (10000000000), .int .u64 (100000000000), .int .u64 (1000000000000), .int .u64 (10000000000000), .int .u64 (100000000000000), .int .u64 (1000000000000000), .int .u64 (10000000000000000), .int .u64 (100000000000000000), .int .u64 (1000000000000000000), .int .u64 (10000000000000000000)]), (0, .inp 0 [.string ⟨#[100, 111, 119, 110]⟩, .string ⟨#[102, 111, 114, 101]⟩, .string ⟨#[97, 102, 116]⟩, .string ⟨#[112, 111, 114, 116]⟩, .string ⟨#[115, 116, 97, 114, 98, 111, 97, 114, 100]⟩])], n := 1557, marks := [], vs := [] }
def st18 : St := { fr := [(32, .slice (some ⟨1565, 0, some 0⟩) 3 0), (30, .slice (some ⟨1556, 0, some 0⟩) 3 0), (28, .slice (some ⟨1459, 0, some 0⟩) 1 0), (26, .pointer (some ⟨1331, 0, none⟩)), (24, .slice (some ⟨1264, 0, some 0⟩) 2 0), (23, .int .i64 (18)), (20, .bool false), (33, .int .i64 (0)), (31, .int .i64 (0)), (29, .int .i64 (0)), (27, .int .i64 (0)), (25, .int .i64 (0)), (21, .int .i64 (0)), (0, .bool false)], sz := 298, H := [(1565, .ext [.int .i64 (108), .int .i64 (123), .int .i64 (138)] 3 1), (1556, .ext [.int .i64 (110), .int .i64 (130), .int .i64 (150)] 3 1), (1459, .ext [.int .i64 (0)] 3 1), (1331, .cells [.int .i64 (4608), .int .i64 (12800), .int .i64 (8704)] 50), (1264, .ext [.int .i64 (1), .int .i64 (0)] 3 1), (3, .inp 0 [.int .u64 (1), .int .u64 (10), .int .u64 (100), .int .u64 (1000), .int .u64 (10000), .int .u64 (100000), .int .u64 (1000000), .int .u64 (10000000), .int .u64 (100000000), .int .u64 (1000000000), .int .u64 (10000000000), .int .u64 (100000000000), .int .u64 (1000000000000), .int .u64 (10000000000000), .int .u64 (100000000000000), .int .u64 (1000000000000000), .int .u64 (10000000000000000), .int .u64 (100000000000000000), .int .u64 (1000000000000000000), .int .u64 (10000000000000000000)]), (0, .inp 0 [.string ⟨#[100, 111, 119, 110]⟩, .string ⟨#[102, 111, 114, 101]⟩, .string ⟨#[97, 102, 116]⟩, .string ⟨#[112, 111, 114, 116]⟩, .string ⟨#[115, 116, 97, 114, 98, 111, 97, 114, 100]⟩])], n := 1566, marks := [], vs := [] }
def st19 : St := { fr := [(34, .slice (some ⟨1614, 0, some 0⟩) 3 0), (32, .slice (some ⟨1565, 0, some 0⟩) 3 0), (30, .slice (some ⟨1556, 0, some 0⟩) 3 0), (28, .slice (some ⟨1459, 0, some 0⟩) 1 0), (26, .pointer (some ⟨1331, 0, none⟩)), (24, .slice (some ⟨1264, 0, some 0⟩) 2 0), (23, .int .i64 (18)), (20, .bool false), (35, .int .i64 (0)), (33, .int .i64 (0)), (31, .int .i64 (0)), (29, .int .i64 (0)), (27, .int .i64 (0)), (25, .int .i64 (0)), (21, .int .i64 (0)), (0, .bool false)], sz := 298, H := [(1614, .ext [.slice (some ⟨1597, 0, none⟩) 1 1, .slice (some ⟨1606, 0, some 0⟩) 1 0, .slice (some ⟨1612, 0, some 0⟩) 1 0] 102 1), (1612, .ext [.string ⟨#[122]⟩] 9 1), (1606, .ext [.string ⟨#[120]⟩] 9 1), (1597, .cells [.string ⟨#[121]⟩] 9), (1565, .ext [.int .i64 (108), .int .i64 (123), .int .i64 (138)] 3 1), (1556, .ext [.int .i64 (110), .int .i64 (130), .int .i64 (150)] 3 1), (1459, .ext [.int .i64 (0)] 3 1), (1331, .cells [.int .i64 (4608), .int .i64 (12800), .int .i64 (8704)] 50), (1264, .ext [.int .i64 (1), .int .i64 (0)] 3 1), (3, .inp 0 [.int .u64 (1), .int .u64 (10), .int .u64 (100), .int .u64 (1000), .int .u64 (10000), .int .u64 (100000), .int .u64 (1000000), .int .u64 (10000000), .int .u64 (100000000), .int .u64 (1000000000), .int .u64 (10000000000), .int .u64 (100000000000), .int .u64 (1000000000000), .int .u64 (10000000000000), .int .u64 (100000000000000), .int .u64 (1000000000000000), .int .u64 (10000000000000000), .int .u64 (100000000000000000), .int .u64 (1000000000000000000), .int .u64 (10000000000000000000)]), (0, .inp 0 [.string ⟨#[100, 111, 119, 110]⟩, .string ⟨#[102, 111, 114, 101]⟩, .string ⟨#[97, 102, 116]⟩, .string ⟨#[112, 111, 114, 116]⟩, .string ⟨#[115, 116, 97, 114, 98, 111, 97, 114, 100]⟩])], n := 1615, marks := [], vs := [] }
def st20 : St := { fr := [(36, .slice (some ⟨1650, 0, some 0⟩) 1 0), (34, .slice (some ⟨1614, 0, some 0⟩) 3 0), (32, .slice (some ⟨1565, 0, some 0⟩) 3 0), (30, .slice (some ⟨1556, 0, some 0⟩) 3 0), (28, .slice (some ⟨1459, 0, some 0⟩) 1 0), (26, .pointer (some ⟨1331, 0, none⟩)), (24, .slice (some ⟨1264, 0, some 0⟩) 2 0), (23, .int .i64 (18)), (20, .bool false), (37, .int .i64 (0)), (35, .int .i64 (0)), (33, .int .i64 (0)), (31, .int .i64 (0)), (29, .int .i64 (0)), (27, .int .i64 (0)), (25, .int .i64 (0)), (21, .int .i64 (0)), (0, .bool false)], sz := 298, H := [(1650, .ext [.string ⟨#[98]⟩] 9 1), (1614, .ext [.slice (some ⟨1597, 0, none⟩) 1 1, .slice (some ⟨1606, 0, some 0⟩) 1 0, .slice (some ⟨1612, 0, some 0⟩) 1 0] 102 1), (1612, .ext [.string ⟨#[122]⟩] 9 1), (1606, .ext [.string ⟨#[120]⟩] 9 1), (1597, .cells [.string ⟨#[121]⟩] 9), (1565, .ext [.int .i64 (108), .int .i64 (123), .int .i64 (138)] 3 1), (1556, .ext [.int .i64 (110), .int .i64 (130), .int .i64 (150)] 3 1), (1459, .ext [.int .i64 (0)] 3 1), (1331, .cells [.int .i64 (4608), .int .i64 (12800), .int .i64 (8704)] 50), (1264, .ext [.int .i64 (1), .int .i64 (0)] 3 1), (3, .inp 0 [.int .u64 (1), .int .u64 (10), .int .u64 (100), .int .u64 (1000), .int .u64 (10000), .int .u64 (100000), .int .u64 (1000000), .int .u64 (10000000), .int .u64 (100000000), .int .u64 (1000000000), .int .u64 (10000000000), .int .u64 (100000000000), .int .u64 (1000000000000), .int .u64 (10000000000000), .int .u64 (100000000000000), .int .u64 (1000000000000000), .int .u64 (10000000000000000), .int .u64 (100000000000000000), .int .u64 (1000000000000000000), .int .u64 (10000000000000000000)]), (0, .inp 0 [.string ⟨#[100, 111, 119, 110]⟩, .string ⟨#[102, 111, 114, 101]⟩, .string ⟨#[97, 102, 116]⟩, .string ⟨#[112, 111, 114, 116]⟩, .string ⟨#[115, 116, 97, 114, 98, 111, 97, 114, 100]⟩])], n := 1651, marks := [], vs := [] }
def st21 : St := { fr := [(38, .string ⟨#[103, 117, 110, 32, 97, 32, 49, 54, 32, 48, 32, 48, 32, 48, 32, 48, 32, 49, 10, 103, 117, 110, 32, 98, 32, 56, 32, 45, 51, 48, 32, 48, 32, 49, 32, 48, 32, 48, 10]⟩), (36, .slice (some ⟨1650, 0, some 0⟩) 1 0), (34, .slice (some ⟨1614, 0, some 0⟩) 3 0), (32, .slice (some ⟨1565, 0, some 0⟩) 3 0), (30, .slice (some ⟨1556, 0, some 0⟩) 3 0), (28, .slice (some ⟨1459, 0, some 0⟩) 1 0), (26, .pointer (some ⟨1331, 0, none⟩)), (24, .slice (some ⟨1264, 0, some 0⟩) 2 0), (23, .int .i64 (18)), (20, .bool false), (39, .int .i64 (0)), (37, .int .i64 (0)), (35, .int .i64 (0)), (33, .int .i64 (0)), (31, .int .i64 (0)), (29, .int .i64 (0)), (27, .int .i64 (0)), (25, .int .i64 (0)), (21, .int .i64 (0)), (0, .bool false)], sz := 298, H := [(1650, .ext [.string ⟨#[98]⟩] 9 1), (1614, .ext [.slice (some ⟨1597, 0, none⟩) 1 1, .slice (some ⟨1606, 0, some 0⟩) 1 0, .slice (some ⟨1612, 0, some 0⟩) 1 0] 102 1), (1612, .ext [.string ⟨#[122]⟩] 9 1), (1606, .ext [.string ⟨#[120]⟩] 9 1), (1597, .cells [.string ⟨#[121]⟩] 9), (1565, .ext [.int .i64 (108), .int .i64 (123), .int .i64 (138)] 3 1), (1556, .ext [.int .i64 (110), .int .i64 (130), .int .i64 (150)] 3 1), (1459, .ext [.int .i64 (0)] 3 1), (1331, .cells [.int .i64 (4608), .int .i64 (12800), .int .i64 (8704)] 50), (1264, .ext [.int .i64 (1), .int .i64 (0)] 3 1), (3, .inp 0 [.int .u64 (1), .int .u64 (10), .int .u64 (100), .int .u64 (1000), .int .u64 (10000), .int .u64 (100000), .int .u64 (1000000), .int .u64 (10000000), .int .u64 (100000000), .int .u64 (1000000000), .int .u64 (10000000000), .int .u64 (100000000000), .int .u64 (1000000000000), .int .u64 (10000000000000), .int .u64 (100000000000000), .int .u64 (1000000000000000), .int .u64 (10000000000000000), .int .u64 (100000000000000000), .int .u64 (1000000000000000000), .int .u64 (10000000000000000000)]), (0, .inp 0 [.string ⟨#[100, 111, 119, 110]⟩, .string ⟨#[102, 111, 114, 101]⟩, .string ⟨#[97, 102, 116]⟩, .string ⟨#[112, 111, 114, 116]⟩, .string ⟨#[115, 116, 97, 114, 98, 111, 97, 114, 100]⟩])], n := 1710, marks := [], vs := [] }
def st22 : St := { fr := [(0, .bool true)], sz := 298, H := [(3, .inp 0 [.int .u64 (1), .int .u64 (10), .int .u64 (100), .int .u64 (1000), .int .u64 (10000), .int .u64 (100000), .int .u64 (1000000), .int .u64 (10000000), .int .u64 (100000000), .int .u64 (1000000000), .int .u64 (10000000000), .int .u64 (100000000000), .int .u64 (1000000000000), .int .u64 (10000000000000), .int .u64 (100000000000000), .int .u64 (1000000000000000), .int .u64 (10000000000000000), .int .u64 (100000000000000000), .int .u64 (1000000000000000000), .int .u64 (10000000000000000000)]), (0, .inp 0 [.string ⟨#[100, 111, 119, 110]⟩, .string ⟨#[102, 111, 114, 101]⟩, .string ⟨#[97, 102, 116]⟩, .string ⟨#[112, 111, 114, 116]⟩, .string ⟨#[115, 116, 97, 114, 98, 111, 97, 114, 100]⟩])], n := 1719, marks := [], vs := [] }
def st23 : St := { fr := [(0, .bool true)], sz := 298, H := [(3, .inp 0 [.int .u64 (1), .int .u64 (10), .int .u64 (100), .int .u64 (1000), .int .u64 (10000), .int .u64 (100000), .int .u64 (1000000), .int .u64 (10000000), .int .u64 (100000000), .int .u64 (1000000000), .int .u64 (10000000000), .int .u64 (100000000000), .int .u64 (1000000000000), .int .u64 (10000000000000), .int .u64 (100000000000000), .int .u64 (1000000000000000), .int .u64 (10000000000000000), .int .u64 (100000000000000000), .int .u64 (1000000000000000000), .int .u64 (10000000000000000000)]), (0, .inp 0 [.string ⟨#[100, 111, 119, 110]⟩, .string ⟨#[102, 111, 114, 101]⟩, .string ⟨#[97, 102, 116]⟩, .string ⟨#[112, 111, 114, 116]⟩, .string ⟨#[115, 116, 97, 114, 98, 111, 97, 114, 100]⟩])], n := 1719, marks := [], vs := [] }
end Go.Proofs.YtndlfijfjglkdaaGreatDoor
