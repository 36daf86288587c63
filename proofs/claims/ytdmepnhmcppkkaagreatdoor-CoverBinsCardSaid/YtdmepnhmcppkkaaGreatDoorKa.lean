/-
The contract of strings.Join as an oracle; the printed states between which awake is run in pieces.
-/
import Derived.Shelf.Strings.Builder1
import Derived.Shelf.Strings.Builder2
import Derived.Shelf.LaysM
import Derived.Ground.Names2Prog
import Derived.Shelf.Strings.OnBuilder
import Derived.Test.YtdmepnhmcppkkaaGreatDoorProg
import Derived.KernelRfl
import Derived.Test.YtdmepnhmcppkkaaGreatDoorAf
import Derived.Test.YtdmepnhmcppkkaaGreatDoorTa
/-
 DERIVED: THE SHELF's CONTRACTS AT THIS DUMP, IN PLAIN WORDS (tools/lay-plain.mjs out of 'TryzShelfK.lean', which tools/lay-shelf.mjs wrote): THE SAME DECLARATIONS UNDER THE SAME NAMES: 'import', 'namespace', 'open', 'def', 'theorem' AND NOTHING ELSE: no command of the shelf's: FOR A HAND-IN. Each laying: the table of numbers ('.._ren') and one theorem, a field a fact of the dump's own or the kernel's comparison; each contract: ONE APPLICATION.
-/
namespace Go.Proofs
open Go.Shelf
def Tryz.lays156_ren : Go.Shelf.Ren := ⟨fun | 156 => 167 | 165 => 200 | 166 => 201 | 169 => 202 | 240 => 231 | 241 => 232 | 276 => 248 | 277 => 249 | n => n, fun | 31 => 141 | 9 => 9 | 3 => 3 | 4 => 4 | 0 => 0 | 20 => 20 | 72 => 262 | 76 => 266 | 70 => 260 | 37 => 207 | 75 => 265 | 127 => 299 | 164 => 311 | 5 => 5 | 80 => 228 | n => n, fun | n => n⟩
theorem Tryz.lays156 : Go.Proofs.Lays.n156 Tryz.prog Tryz.lays156_ren := {
 mixed := by kernel_rfl
 f156 := Tryz.func167.trans (congrArg some (by kernel_rfl))
 f165 := Tryz.func200.trans (congrArg some (by kernel_rfl))
 f166 := Tryz.func201.trans (congrArg some (by kernel_rfl))
 f169 := Tryz.func202.trans (congrArg some (by kernel_rfl))
 f240 := Tryz.func231.trans (congrArg some (by kernel_rfl))
 f241 := Tryz.func232.trans (congrArg some (by kernel_rfl))
 f276 := Tryz.func248.trans (congrArg some (by kernel_rfl))
 f277 := Tryz.func249.trans (congrArg some (by kernel_rfl))
 t0 := Tryz.underlying0
 a0 := Tryz.isAgg0
 z0 := Tryz.sizeOf0
 v0 := Tryz.zeroValue0
 t3 := Tryz.underlying3
 a3 := Tryz.isAgg3
 z3 := Tryz.sizeOf3
 v3 := Tryz.zeroValue3
 t4 := Tryz.underlying4
 a4 := Tryz.isAgg4
 z4 := Tryz.sizeOf4
 v4 := Tryz.zeroValue4
 t9 := Tryz.underlying9
 a9 := Tryz.isAgg9
 z9 := Tryz.sizeOf9
 v9 := Tryz.zeroValue9
 t20 := Tryz.underlying20
 a20 := Tryz.isAgg20
 z20 := Tryz.sizeOf20
 v20 := Tryz.zeroValue20
 t31 := Tryz.underlying141
 a31 := Tryz.isAgg141
 z31 := Tryz.sizeOf141
 v31 := Tryz.zeroValue141
 t37 := Tryz.underlying207
 a37 := Tryz.isAgg207
 z37 := Tryz.sizeOf207
 v37 := Tryz.zeroValue207
 t70 := Tryz.underlying260
 a70 := Tryz.isAgg260
 z70 := Tryz.sizeOf260
 v70 := Tryz.zeroValue260
 t72 := Tryz.underlying262
 a72 := Tryz.isAgg262
 z72 := Tryz.sizeOf262
 v72 := Tryz.zeroValue262
 t75 := Tryz.underlying265
 a75 := Tryz.isAgg265
 z75 := Tryz.sizeOf265
 v75 := Tryz.zeroValue265
 t76 := Tryz.underlying266
 a76 := Tryz.isAgg266
 z76 := Tryz.sizeOf266
 v76 := Tryz.zeroValue266
 t127 := Tryz.underlying299
 a127 := Tryz.isAgg299
 z127 := Tryz.sizeOf299
 v127 := Tryz.zeroValue299
 t164 := Tryz.underlying311
 a164 := Tryz.isAgg311
 z164 := Tryz.sizeOf311
 v164 := Tryz.zeroValue311 }
theorem Tryz.Builder_Extra_156 : Builder.Extra Tryz.prog Tryz.lays156_ren := {
 sizeBuilder := by kernel_rfl
 liesBuilder := by kernel_rfl
 t5 := Tryz.underlying5
 a5 := Tryz.isAgg5
 z5 := Tryz.sizeOf5
 v5 := Tryz.zeroValue5
 infoByte := by kernel_rfl
 cellsByte := by kernel_rfl
 sizeByte := by kernel_rfl
 neB5 := by decide }
open Go.RowKit in
theorem Tryz.strings_Join_none (a : Option Addr) (c : Nat) (sep : ByteArray) (w : World) :
   Calls Tryz.prog 167 #[.slice a 0 c, .string sep] w fun e w' => e = .returned (.string ⟨#[]⟩) ∧ w' = w := Any.strings_Join_none Tryz.lays156 Tryz.Builder_Extra_156 a c sep w
open Go.RowKit in
theorem Tryz.strings_Join (bk o c : Nat) (xs : List ByteArray) (sep : ByteArray) (w : World) (hcells : ∀ (j : Nat) x, xs[j]? = some x → w.cell? ⟨bk, o + j, none⟩ = some (.string x)) (hbk : bk < w.heap.size) (hN : xs.length ≤ 140737488355328) (hcap : xs.length ≤ c) (hlen : (Lib.join (xs.map (·.data.toList)) sep.data.toList).length ≤ 140737488355328) :
   Calls Tryz.prog 167 #[.slice (some ⟨bk, o, none⟩) xs.length c, .string sep] w fun e w' => e = .returned (.string ⟨(Lib.join (xs.map (·.data.toList)) sep.data.toList).toArray⟩) ∧ Below w.heap.size w w' := Any.strings_Join Tryz.lays156 Tryz.Builder_Extra_156 bk o c xs sep w hcells hbk hN hcap hlen
end Go.Proofs

namespace Go.Proofs.YtdmepnhmcppkkaaGreatDoor
open Go Go.Ab Go.Proofs Go.RowKit
def strsA : List Value → Option (List ByteArray)
 | [] => some []
 | .string s :: t => (strsA t).map (s :: ·)
 | _ => none
theorem strsA_ok : ∀ (cs : List Value) (xs : List ByteArray), strsA cs = some xs → cs = xs.map .string
 | [], xs, h => by simp [strsA] at h; subst h; rfl
 | c :: cs, xs, h => by
   cases c <;> simp [strsA] at h
   obtain ⟨ys, hy, h⟩ := h
   subst h
   rw [strsA_ok cs ys hy]
   rfl
def joinV (xs : List ByteArray) (sep : ByteArray) : List UInt8 := Lib.join (xs.map (·.data.toList)) sep.data.toList
def roomy (H : Heap) (a : Addr) (n c : Nat) : Bool := match a.spot with
 | none => Nat.ble n c
 | some j => Nat.beq j 0 && Nat.beq c 0 && (match hget H a.block with
   | some (.ext _ _ z) => Nat.beq z 1
   | some (.row _ z) => Nat.beq z 1
   | _ => false)
def orcJ (H : Heap) (a : Addr) (n c : Nat) (sep : ByteArray) : Option Value :=
 match roomy H a n c with
 | false => none
 | true => match (cellsA H a.block a.off n).bind strsA with
   | none => none
   | some xs => match Nat.ble (joinV xs sep).length 140737488355328 && Nat.ble n 140737488355328 with
     | true => some (.string ⟨(joinV xs sep).toArray⟩)
     | false => none
def orcV (f : FuncId) (args : List Value) (H : Heap) : Option Value := match Nat.beq f 167 with
 | true => (match args with
   | [.slice none 0 _, .string _] => some (.string ⟨#[]⟩)
   | [.slice (some a) n c, .string sep] => orcJ H a n c sep
   | _ => none)
 | false => none
def orc : Oracle := fun f args H k => match orcV f args H with
 | some v => some (v, H, k)
 | none => none
theorem roomy_ok {P : Program} {φ : Vl} {H : Heap} {w : World} (hr : HRel P φ (hget H) w) {a : Addr} {n c : Nat} {cs : List Value} (h : roomy H a n c = true) (hc : cellsA H a.block a.off n = some cs) :
   ∃ c', den φ (.slice (some a) n c) = .slice (some ⟨φ.loc a.block, a.off, none⟩) n c' ∧ n ≤ c' := by
 obtain ⟨b, o, s⟩ := a
 unfold roomy at h
 cases s with
 | none => exact ⟨c, by simp [den], Nat.le_of_ble_eq_true h⟩
 | some j =>
   simp only [Bool.and_eq_true] at h
   have hj := Nat.eq_of_beq_eq_true h.1.1
   have hc0 := Nat.eq_of_beq_eq_true h.1.2
   subst hj hc0
   refine ⟨φ.cap b, by simp [den], ?_⟩
   have h2 := h.2
   have hc : cellsA H b o n = some cs := hc
   unfold cellsA at hc
   split at h2
   · rename_i xs t z hb
     have hz := Nat.eq_of_beq_eq_true h2
     subst hz
     obtain ⟨d, _, e2, e3, _⟩ := hr.blk b _ hb
     have hb : hget H b = some (.ext xs t 1) := hb
     rw [hb] at hc
     simp only at hc
     split at hc
     · have := congrArg List.length e2
       simp at this e3
       omega
     · cases hc
   · rename_i xs z hb
     have hz := Nat.eq_of_beq_eq_true h2
     subst hz
     obtain ⟨d, _, _, _, e2, e3, _⟩ := hr.blk b _ hb
     have hb : hget H b = some (.row xs 1) := hb
     rw [hb] at hc
     simp only at hc
     split at hc
     · have := congrArg List.length e2
       simp at this e3
       omega
     · cases hc
   · cases h2
theorem orcOk : OracleOk Tryz.prog orc := by
 intro f args H n v H' n' h0
 unfold orc at h0
 split at h0
 case h_2 => cases h0
 rename_i v0 h
 injection h0 with h0; injection h0 with e1 e2; injection e2 with e2 e3; subst e1 e2 e3
 unfold orcV at h
 split at h
 · rename_i hf
   have hf := Nat.eq_of_beq_eq_true hf
   subst hf
   split at h
   · rename_i c sep
     injection h with h
     subst h
     refine AC.of_calls (by kernel_rfl) rfl fun p φ w hB hsc => ?_
     rw [show (denL φ [.slice none 0 c, .string sep]).toArray = #[.slice none 0 c, .string sep] by simp [denL, den]]
     exact (Tryz.strings_Join_none none c sep w).mono fun e w' hh => ⟨hh.1, hh.2 ▸ Below.refl _ _⟩
   · rename_i a k c sep
     unfold orcJ at h
     split at h
     · cases h
     · rename_i hroom
       split at h
       · cases h
       · rename_i xs hxs
         split at h
         · rename_i hlen
           rw [Bool.and_eq_true] at hlen
           injection h with h
           subst h
           rw [Option.bind_eq_some_iff] at hxs
           obtain ⟨cs, hcs, hxs⟩ := hxs
           have hmap := strsA_ok _ _ hxs
           obtain ⟨hl, hat⟩ := cellsA_at hcs
           have hk : xs.length = k := by rw [← hl, hmap]; simp
           refine AC.of_calls (by kernel_rfl) rfl fun p φ w hB hsc => ?_
           obtain ⟨c', hden, hle⟩ := roomy_ok hB.rel hroom hcs
           rw [show (denL φ [.slice (some a) k c, .string sep]).toArray = #[.slice (some ⟨φ.loc a.block, a.off, none⟩) xs.length c', .string sep] by rw [denL, hden, hk]; simp [denL, den]]
           have hcells : ∀ (j : Nat) x, xs[j]? = some x → w.cell? ⟨φ.loc a.block, a.off + j, none⟩ = some (.string x) := fun j x hx => by
             have hjl : j < k := by rw [← hk]; exact (List.getElem?_eq_some_iff.1 hx).1
             have h1 : cellA H a.block (a.off + j) = some (.string x) := by rw [hat j hjl, hmap]; simp [hx]
             have := (cellA_ok hB.rel hB.sm h1).1
             simpa [den] using this
           have hblk : ∃ b, hget H a.block = some b := by
             cases hg : hget H a.block with
             | some b => exact ⟨b, rfl⟩
             | none => unfold cellsA at hcs; rw [hg] at hcs; cases hcs
           obtain ⟨b, hb⟩ := hblk
           exact Tryz.strings_Join (φ.loc a.block) a.off c' xs sep w hcells (hB.rel.lt hb) (by rw [hk]; exact Nat.le_of_ble_eq_true hlen.2) (by rw [hk]; exact hle) (Nat.le_of_ble_eq_true hlen.1)
         · cases h
   · cases h
 · cases h
end Go.Proofs.YtdmepnhmcppkkaaGreatDoor

/-
The states between the pieces of the run of the examples.
-/
namespace Go.Proofs.YtdmepnhmcppkkaaGreatDoor
open Go Go.Ab Go.Proofs
def cAt : Code → Nat → Code
 | .seq a _, 0 => a
 | .seq _ b, i + 1 => cAt b i
 | c, _ => c
def cFrom : Code → Nat → Code
 | c, 0 => c
 | .seq _ b, i + 1 => cFrom b i
 | c, _ => c
def bodyOf (f : Func) : Code := match f.body with
 | some c => c
 | none => .skip
def st0 : St := { fr := [], sz := 312, H := [(2, .inp 0 [.int .u64 (1), .int .u64 (10), .int .u64 (100), .int .u64 (1000), .int .u64 (10000), .int .u64 (100000), .int .u64 (1000000), .int .u64 (10000000), .int .u64 (100000000), .int .u64 (1000000000), .int .u64 (10000000000), .int .u64 (100000000000), .int .u64 (1000000000000), .int .u64 (10000000000000), .int .u64 (100000000000000), .int .u64 (1000000000000000), .int .u64 (10000000000000000), .int .u64 (100000000000000000), .int .u64 (1000000000000000000), .int .u64 (10000000000000000000)]), (0, .inp 0 [.int .i64 (0), .int .i64 (0)])], n := 9, marks := [], vs := [] }
def st1 : St := { fr := [(0, .bool false)], sz := 312, H := [(2, .inp 0 [.int .u64 (1), .int .u64 (10), .int .u64 (100), .int .u64 (1000), .int .u64 (10000), .int .u64 (100000), .int .u64 (1000000), .int .u64 (10000000), .int .u64 (100000000), .int .u64 (1000000000), .int .u64 (10000000000), .int .u64 (100000000000), .int .u64 (1000000000000), .int .u64 (10000000000000), .int .u64 (100000000000000), .int .u64 (1000000000000000), .int .u64 (10000000000000000), .int .u64 (100000000000000000), .int .u64 (1000000000000000000), .int .u64 (10000000000000000000)]), (0, .inp 0 [.int .i64 (0), .int .i64 (0)])], n := 9, marks := [], vs := [] }
def st2 : St := { fr := [(1, .func (.func 92) #[] #[]), (0, .bool false)], sz := 312, H := [(2, .inp 0 [.int .u64 (1), .int .u64 (10), .int .u64 (100), .int .u64 (1000), .int .u64 (10000), .int .u64 (100000), .int .u64 (1000000), .int .u64 (10000000), .int .u64 (100000000), .int .u64 (1000000000), .int .u64 (10000000000), .int .u64 (100000000000), .int .u64 (1000000000000), .int .u64 (10000000000000), .int .u64 (100000000000000), .int .u64 (1000000000000000), .int .u64 (10000000000000000), .int .u64 (100000000000000000), .int .u64 (1000000000000000000), .int .u64 (10000000000000000000)]), (0, .inp 0 [.int .i64 (0), .int .i64 (0)])], n := 9, marks := [], vs := [] }
def st3 : St := { fr := [(2, .slice (some ⟨221, 0, some 0⟩) 4 0), (3, .int .i64 (0)), (1, .func (.func 92) #[] #[]), (0, .bool false)], sz := 312, H := [(221, .ext [.int .i64 (60), .int .i64 (50), .int .i64 (40), .int .i64 (50), .int .i64 (60), .int .i64 (50), .int .i64 (0), .int .i64 (50), .int .i64 (160), .int .i64 (50), .int .i64 (140), .int .i64 (50), .int .i64 (160), .int .i64 (50), .int .i64 (100), .int .i64 (50)] 81 4), (2, .inp 0 [.int .u64 (1), .int .u64 (10), .int .u64 (100), .int .u64 (1000), .int .u64 (10000), .int .u64 (100000), .int .u64 (1000000), .int .u64 (10000000), .int .u64 (100000000), .int .u64 (1000000000), .int .u64 (10000000000), .int .u64 (100000000000), .int .u64 (1000000000000), .int .u64 (10000000000000), .int .u64 (100000000000000), .int .u64 (1000000000000000), .int .u64 (10000000000000000), .int .u64 (100000000000000000), .int .u64 (1000000000000000000), .int .u64 (10000000000000000000)]), (0, .inp 0 [.int .i64 (0), .int .i64 (0)])], n := 222, marks := [], vs := [] }
def st4 : St := { fr := [(4, .slice (some ⟨356, 0, none⟩) 4 4), (2, .slice (some ⟨221, 0, some 0⟩) 4 0), (5, .int .i64 (0)), (3, .int .i64 (0)), (1, .func (.func 92) #[] #[]), (0, .bool false)], sz := 312, H := [(356, .cells [.int .i64 (1), .int .i64 (1), .int .i64 (1), .int .i64 (1)] 3), (221, .ext [.int .i64 (60), .int .i64 (50), .int .i64 (40), .int .i64 (50), .int .i64 (60), .int .i64 (50), .int .i64 (0), .int .i64 (50), .int .i64 (160), .int .i64 (50), .int .i64 (140), .int .i64 (50), .int .i64 (160), .int .i64 (50), .int .i64 (100), .int .i64 (50)] 81 4), (2, .inp 0 [.int .u64 (1), .int .u64 (10), .int .u64 (100), .int .u64 (1000), .int .u64 (10000), .int .u64 (100000), .int .u64 (1000000), .int .u64 (10000000), .int .u64 (100000000), .int .u64 (1000000000), .int .u64 (10000000000), .int .u64 (100000000000), .int .u64 (1000000000000), .int .u64 (10000000000000), .int .u64 (100000000000000), .int .u64 (1000000000000000), .int .u64 (10000000000000000), .int .u64 (100000000000000000), .int .u64 (1000000000000000000), .int .u64 (10000000000000000000)]), (0, .inp 0 [.int .i64 (0), .int .i64 (0)])], n := 469, marks := [], vs := [] }
def st5 : St := { fr := [(1, .func (.func 92) #[] #[]), (6, .int .i64 (1)), (4, .slice (some ⟨356, 0, none⟩) 4 4), (2, .slice (some ⟨221, 0, some 0⟩) 4 0), (7, .int .i64 (0)), (5, .int .i64 (0)), (3, .int .i64 (0)), (0, .bool false)], sz := 312, H := [(356, .cells [.int .i64 (1), .int .i64 (1), .int .i64 (1), .int .i64 (1)] 3), (221, .ext [.int .i64 (60), .int .i64 (50), .int .i64 (40), .int .i64 (50), .int .i64 (60), .int .i64 (50), .int .i64 (0), .int .i64 (50), .int .i64 (160), .int .i64 (50), .int .i64 (140), .int .i64 (50), .int .i64 (160), .int .i64 (50), .int .i64 (100), .int .i64 (50)] 81 4), (2, .inp 0 [.int .u64 (1), .int .u64 (10), .int .u64 (100), .int .u64 (1000), .int .u64 (10000), .int .u64 (100000), .int .u64 (1000000), .int .u64 (10000000), .int .u64 (100000000), .int .u64 (1000000000), .int .u64 (10000000000), .int .u64 (100000000000), .int .u64 (1000000000000), .int .u64 (10000000000000), .int .u64 (100000000000000), .int .u64 (1000000000000000), .int .u64 (10000000000000000), .int .u64 (100000000000000000), .int .u64 (1000000000000000000), .int .u64 (10000000000000000000)]), (0, .inp 0 [.int .i64 (0), .int .i64 (0)])], n := 484, marks := [], vs := [] }
def st6 : St := { fr := [(8, .pointer (some ⟨730, 0, none⟩)), (1, .func (.func 92) #[] #[]), (6, .int .i64 (1)), (4, .slice (some ⟨356, 0, none⟩) 4 4), (2, .slice (some ⟨221, 0, some 0⟩) 4 0), (9, .int .i64 (0)), (7, .int .i64 (0)), (5, .int .i64 (0)), (3, .int .i64 (0)), (0, .bool false)], sz := 312, H := [(730, .cells [.string ⟨#[97]⟩, .int .i64 (60), .int .i64 (50), .int .i64 (100), .int .i64 (0), .int .i64 (2), .int .i64 (-20), .int .i64 (0), .int .i64 (-40), .int .i64 (60), .int .i64 (2), .slice (some ⟨608, 0, none⟩) 0 0] 43), (608, .cells [] 3), (356, .cells [.int .i64 (1), .int .i64 (1), .int .i64 (1), .int .i64 (1)] 3), (221, .ext [.int .i64 (60), .int .i64 (50), .int .i64 (40), .int .i64 (50), .int .i64 (60), .int .i64 (50), .int .i64 (0), .int .i64 (50), .int .i64 (160), .int .i64 (50), .int .i64 (140), .int .i64 (50), .int .i64 (160), .int .i64 (50), .int .i64 (100), .int .i64 (50)] 81 4), (2, .inp 0 [.int .u64 (1), .int .u64 (10), .int .u64 (100), .int .u64 (1000), .int .u64 (10000), .int .u64 (100000), .int .u64 (1000000), .int .u64 (10000000), .int .u64 (100000000), .int .u64 (1000000000), .int .u64 (10000000000), .int .u64 (100000000000), .int .u64 (1000000000000), .int .u64 (10000000000000), .int .u64 (100000000000000), .int .u64 (1000000000000000), .int .u64 (10000000000000000), .int .u64 (100000000000000000), .int .u64 (1000000000000000000), .int .u64 (10000000000000000000)]), (0, .inp 0 [.int .i64 (0), .int .i64 (0)])], n := 731, marks := [], vs := [] }
def st7 : St := { fr := [(8, .pointer (some ⟨730, 0, none⟩)), (1, .func (.func 92) #[] #[]), (0, .bool false)], sz := 312, H := [(730, .cells [.string ⟨#[97]⟩, .int .i64 (60), .int .i64 (50), .int .i64 (100), .int .i64 (0), .int .i64 (2), .int .i64 (-20), .int .i64 (0), .int .i64 (-40), .int .i64 (60), .int .i64 (2), .slice (some ⟨608, 0, none⟩) 0 0] 43), (608, .cells [] 3), (2, .inp 0 [.int .u64 (1), .int .u64 (10), .int .u64 (100), .int .u64 (1000), .int .u64 (10000), .int .u64 (100000), .int .u64 (1000000), .int .u64 (10000000), .int .u64 (100000000), .int .u64 (1000000000), .int .u64 (10000000000), .int .u64 (100000000000), .int .u64 (1000000000000), .int .u64 (10000000000000), .int .u64 (100000000000000), .int .u64 (1000000000000000), .int .u64 (10000000000000000), .int .u64 (100000000000000000), .int .u64 (1000000000000000000), .int .u64 (10000000000000000000)]), (0, .inp 0 [.int .i64 (0), .int .i64 (0)])], n := 732, marks := [], vs := [] }
def st8 : St := { fr := [(8, .pointer (some ⟨730, 0, none⟩)), (1, .func (.func 92) #[] #[]), (10, .pointer (some ⟨733, 0, none⟩)), (0, .bool false)], sz := 312, H := [(733, .cells [.string ⟨#[97]⟩, .int .i64 (60), .int .i64 (50), .int .i64 (100), .int .i64 (0), .int .i64 (2), .int .i64 (-20), .int .i64 (0), .int .i64 (-40), .int .i64 (0), .int .i64 (2), .slice none 0 0] 43), (730, .cells [.string ⟨#[97]⟩, .int .i64 (60), .int .i64 (50), .int .i64 (100), .int .i64 (0), .int .i64 (2), .int .i64 (-20), .int .i64 (0), .int .i64 (-40), .int .i64 (60), .int .i64 (2), .slice (some ⟨608, 0, none⟩) 0 0] 43), (608, .cells [] 3), (2, .inp 0 [.int .u64 (1), .int .u64 (10), .int .u64 (100), .int .u64 (1000), .int .u64 (10000), .int .u64 (100000), .int .u64 (1000000), .int .u64 (10000000), .int .u64 (100000000), .int .u64 (1000000000), .int .u64 (10000000000), .int .u64 (100000000000), .int .u64 (1000000000000), .int .u64 (10000000000000), .int .u64 (100000000000000), .int .u64 (1000000000000000), .int .u64 (10000000000000000), .int .u64 (100000000000000000), .int .u64 (1000000000000000000), .int .u64 (10000000000000000000)]), (0, .inp 0 [.int .i64 (0), .int .i64 (0)])], n := 734, marks := [], vs := [] }
def st9 : St := { fr := [(10, .pointer (some ⟨733, 0, none⟩)), (8, .pointer (some ⟨730, 0, none⟩)), (1, .func (.func 92) #[] #[]), (0, .bool false)], sz := 312, H := [(734, .cells [.int .i64 (0)] 3), (733, .cells [.string ⟨#[97]⟩, .int .i64 (60), .int .i64 (50), .int .i64 (100), .int .i64 (0), .int .i64 (2), .int .i64 (-20), .int .i64 (0), .int .i64 (-40), .int .i64 (0), .int .i64 (2), .slice (some ⟨734, 0, none⟩) 1 1] 43), (730, .cells [.string ⟨#[97]⟩, .int .i64 (60), .int .i64 (50), .int .i64 (100), .int .i64 (0), .int .i64 (2), .int .i64 (-20), .int .i64 (0), .int .i64 (-40), .int .i64 (60), .int .i64 (2), .slice (some ⟨608, 0, none⟩) 0 0] 43), (608, .cells [] 3), (2, .inp 0 [.int .u64 (1), .int .u64 (10), .int .u64 (100), .int .u64 (1000), .int .u64 (10000), .int .u64 (100000), .int .u64 (1000000), .int .u64 (10000000), .int .u64 (100000000), .int .u64 (1000000000), .int .u64 (10000000000), .int .u64 (100000000000), .int .u64 (1000000000000), .int .u64 (10000000000000), .int .u64 (100000000000000), .int .u64 (1000000000000000), .int .u64 (10000000000000000), .int .u64 (100000000000000000), .int .u64 (1000000000000000000), .int .u64 (10000000000000000000)]), (0, .inp 0 [.int .i64 (0), .int .i64 (0)])], n := 735, marks := [], vs := [] }
def st10 : St := { fr := [(11, .slice (some ⟨868, 0, none⟩) 2 2), (12, .int .i64 (0)), (10, .pointer (some ⟨733, 0, none⟩)), (1, .func (.func 92) #[] #[]), (0, .bool false)], sz := 312, H := [(868, .cells [.int .i64 (1), .int .i64 (1)] 3), (734, .cells [.int .i64 (0)] 3), (733, .cells [.string ⟨#[97]⟩, .int .i64 (60), .int .i64 (50), .int .i64 (100), .int .i64 (0), .int .i64 (2), .int .i64 (-20), .int .i64 (0), .int .i64 (-40), .int .i64 (0), .int .i64 (2), .slice (some ⟨734, 0, none⟩) 1 1] 43), (2, .inp 0 [.int .u64 (1), .int .u64 (10), .int .u64 (100), .int .u64 (1000), .int .u64 (10000), .int .u64 (100000), .int .u64 (1000000), .int .u64 (10000000), .int .u64 (100000000), .int .u64 (1000000000), .int .u64 (10000000000), .int .u64 (100000000000), .int .u64 (1000000000000), .int .u64 (10000000000000), .int .u64 (100000000000000), .int .u64 (1000000000000000), .int .u64 (10000000000000000), .int .u64 (100000000000000000), .int .u64 (1000000000000000000), .int .u64 (10000000000000000000)]), (0, .inp 0 [.int .i64 (0), .int .i64 (0)])], n := 984, marks := [], vs := [] }
def st11 : St := { fr := [(13, .slice (some ⟨1118, 0, none⟩) 2 2), (11, .slice (some ⟨868, 0, none⟩) 2 2), (14, .int .i64 (0)), (12, .int .i64 (0)), (10, .pointer (some ⟨733, 0, none⟩)), (1, .func (.func 92) #[] #[]), (0, .bool false)], sz := 312, H := [(1118, .cells [.int .i64 (0), .int .i64 (2)] 3), (868, .cells [.int .i64 (1), .int .i64 (1)] 3), (734, .cells [.int .i64 (0)] 3), (733, .cells [.string ⟨#[97]⟩, .int .i64 (60), .int .i64 (50), .int .i64 (100), .int .i64 (0), .int .i64 (2), .int .i64 (-20), .int .i64 (0), .int .i64 (-40), .int .i64 (0), .int .i64 (2), .slice (some ⟨734, 0, none⟩) 1 1] 43), (2, .inp 0 [.int .u64 (1), .int .u64 (10), .int .u64 (100), .int .u64 (1000), .int .u64 (10000), .int .u64 (100000), .int .u64 (1000000), .int .u64 (10000000), .int .u64 (100000000), .int .u64 (1000000000), .int .u64 (10000000000), .int .u64 (100000000000), .int .u64 (1000000000000), .int .u64 (10000000000000), .int .u64 (100000000000000), .int .u64 (1000000000000000), .int .u64 (10000000000000000), .int .u64 (100000000000000000), .int .u64 (1000000000000000000), .int .u64 (10000000000000000000)]), (0, .inp 0 [.int .i64 (0), .int .i64 (0)])], n := 1222, marks := [], vs := [] }
def st12 : St := { fr := [(1, .func (.func 92) #[] #[]), (15, .slice (some ⟨1462, 0, some 0⟩) 1 0), (13, .slice (some ⟨1118, 0, none⟩) 2 2), (11, .slice (some ⟨868, 0, none⟩) 2 2), (16, .int .i64 (0)), (14, .int .i64 (0)), (12, .int .i64 (0)), (0, .bool false)], sz := 312, H := [(1462, .ext [.int .i64 (0)] 3 1), (1118, .cells [.int .i64 (0), .int .i64 (2)] 3), (868, .cells [.int .i64 (1), .int .i64 (1)] 3), (2, .inp 0 [.int .u64 (1), .int .u64 (10), .int .u64 (100), .int .u64 (1000), .int .u64 (10000), .int .u64 (100000), .int .u64 (1000000), .int .u64 (10000000), .int .u64 (100000000), .int .u64 (1000000000), .int .u64 (10000000000), .int .u64 (100000000000), .int .u64 (1000000000000), .int .u64 (10000000000000), .int .u64 (100000000000000), .int .u64 (1000000000000000), .int .u64 (10000000000000000), .int .u64 (100000000000000000), .int .u64 (1000000000000000000), .int .u64 (10000000000000000000)]), (0, .inp 0 [.int .i64 (0), .int .i64 (0)])], n := 1463, marks := [], vs := [] }
def st13 : St := { fr := [(1, .func (.func 92) #[] #[]), (17, .pointer (some ⟨1593, 0, none⟩)), (15, .slice (some ⟨1462, 0, some 0⟩) 1 0), (13, .slice (some ⟨1118, 0, none⟩) 2 2), (11, .slice (some ⟨868, 0, none⟩) 2 2), (18, .int .i64 (0)), (16, .int .i64 (0)), (14, .int .i64 (0)), (12, .int .i64 (0)), (0, .bool false)], sz := 312, H := [(1593, .cells [.string ⟨#[97]⟩, .int .i64 (160), .int .i64 (50), .int .i64 (-100), .int .i64 (0), .int .i64 (2), .int .i64 (-20), .int .i64 (0), .int .i64 (-40), .int .i64 (0), .int .i64 (2), .slice none 0 0] 43), (1462, .ext [.int .i64 (0)] 3 1), (1118, .cells [.int .i64 (0), .int .i64 (2)] 3), (868, .cells [.int .i64 (1), .int .i64 (1)] 3), (2, .inp 0 [.int .u64 (1), .int .u64 (10), .int .u64 (100), .int .u64 (1000), .int .u64 (10000), .int .u64 (100000), .int .u64 (1000000), .int .u64 (10000000), .int .u64 (100000000), .int .u64 (1000000000), .int .u64 (10000000000), .int .u64 (100000000000), .int .u64 (1000000000000), .int .u64 (10000000000000), .int .u64 (100000000000000), .int .u64 (1000000000000000), .int .u64 (10000000000000000), .int .u64 (100000000000000000), .int .u64 (1000000000000000000), .int .u64 (10000000000000000000)]), (0, .inp 0 [.int .i64 (0), .int .i64 (0)])], n := 1594, marks := [], vs := [] }
def st14 : St := { fr := [(1, .func (.func 92) #[] #[]), (19, .pointer (some ⟨1722, 0, none⟩)), (17, .pointer (some ⟨1593, 0, none⟩)), (15, .slice (some ⟨1462, 0, some 0⟩) 1 0), (13, .slice (some ⟨1118, 0, none⟩) 2 2), (11, .slice (some ⟨868, 0, none⟩) 2 2), (20, .int .i64 (0)), (18, .int .i64 (0)), (16, .int .i64 (0)), (14, .int .i64 (0)), (12, .int .i64 (0)), (0, .bool false)], sz := 312, H := [(1722, .cells [.string ⟨#[97]⟩, .int .i64 (160), .int .i64 (50), .int .i64 (100), .int .i64 (0), .int .i64 (1), .int .i64 (-20), .int .i64 (0), .int .i64 (-40), .int .i64 (0), .int .i64 (2), .slice none 0 0] 43), (1593, .cells [.string ⟨#[97]⟩, .int .i64 (160), .int .i64 (50), .int .i64 (-100), .int .i64 (0), .int .i64 (2), .int .i64 (-20), .int .i64 (0), .int .i64 (-40), .int .i64 (0), .int .i64 (2), .slice none 0 0] 43), (1462, .ext [.int .i64 (0)] 3 1), (1118, .cells [.int .i64 (0), .int .i64 (2)] 3), (868, .cells [.int .i64 (1), .int .i64 (1)] 3), (2, .inp 0 [.int .u64 (1), .int .u64 (10), .int .u64 (100), .int .u64 (1000), .int .u64 (10000), .int .u64 (100000), .int .u64 (1000000), .int .u64 (10000000), .int .u64 (100000000), .int .u64 (1000000000), .int .u64 (10000000000), .int .u64 (100000000000), .int .u64 (1000000000000), .int .u64 (10000000000000), .int .u64 (100000000000000), .int .u64 (1000000000000000), .int .u64 (10000000000000000), .int .u64 (100000000000000000), .int .u64 (1000000000000000000), .int .u64 (10000000000000000000)]), (0, .inp 0 [.int .i64 (0), .int .i64 (0)])], n := 1723, marks := [], vs := [] }
def st15 : St := { fr := [(1, .func (.func 92) #[] #[]), (0, .bool false)], sz := 312, H := [(2, .inp 0 [.int .u64 (1), .int .u64 (10), .int .u64 (100), .int .u64 (1000), .int .u64 (10000), .int .u64 (100000), .int .u64 (1000000), .int .u64 (10000000), .int .u64 (100000000), .int .u64 (1000000000), .int .u64 (10000000000), .int .u64 (100000000000), .int .u64 (1000000000000), .int .u64 (10000000000000), .int .u64 (100000000000000), .int .u64 (1000000000000000), .int .u64 (10000000000000000), .int .u64 (100000000000000000), .int .u64 (1000000000000000000), .int .u64 (10000000000000000000)]), (0, .inp 0 [.int .i64 (0), .int .i64 (0)])], n := 1726, marks := [], vs := [] }
def st16 : St := { fr := [(21, .func (.func 95) #[] #[]), (1, .func (.func 92) #[] #[]), (0, .bool false)], sz := 312, H := [(2, .inp 0 [.int .u64 (1), .int .u64 (10), .int .u64 (100), .int .u64 (1000), .int .u64 (10000), .int .u64 (100000), .int .u64 (1000000), .int .u64 (10000000), .int .u64 (100000000), .int .u64 (1000000000), .int .u64 (10000000000), .int .u64 (100000000000), .int .u64 (1000000000000), .int .u64 (10000000000000), .int .u64 (100000000000000), .int .u64 (1000000000000000), .int .u64 (10000000000000000), .int .u64 (100000000000000000), .int .u64 (1000000000000000000), .int .u64 (10000000000000000000)]), (0, .inp 0 [.int .i64 (0), .int .i64 (0)])], n := 1726, marks := [], vs := [] }
def st17 : St := { fr := [(23, .int .i64 (65)), (22, .slice (some ⟨2567, 0, some 0⟩) 1 0), (24, .int .i64 (0)), (21, .func (.func 95) #[] #[]), (1, .func (.func 92) #[] #[]), (0, .bool false)], sz := 312, H := [(2567, .ext [.int .i64 (2)] 3 1), (2, .inp 0 [.int .u64 (1), .int .u64 (10), .int .u64 (100), .int .u64 (1000), .int .u64 (10000), .int .u64 (100000), .int .u64 (1000000), .int .u64 (10000000), .int .u64 (100000000), .int .u64 (1000000000), .int .u64 (10000000000), .int .u64 (100000000000), .int .u64 (1000000000000), .int .u64 (10000000000000), .int .u64 (100000000000000), .int .u64 (1000000000000000), .int .u64 (10000000000000000), .int .u64 (100000000000000000), .int .u64 (1000000000000000000), .int .u64 (10000000000000000000)]), (0, .inp 0 [.int .i64 (0), .int .i64 (0)])], n := 2569, marks := [], vs := [] }
def st18 : St := { fr := [(25, .slice (some ⟨3363, 0, none⟩) 2 2), (23, .int .i64 (65)), (22, .slice (some ⟨2567, 0, some 0⟩) 1 0), (26, .int .i64 (0)), (24, .int .i64 (0)), (21, .func (.func 95) #[] #[]), (1, .func (.func 92) #[] #[]), (0, .bool false)], sz := 312, H := [(3363, .cells [.int .i64 (30), .int .i64 (35)] 3), (2567, .ext [.int .i64 (2)] 3 1), (2, .inp 0 [.int .u64 (1), .int .u64 (10), .int .u64 (100), .int .u64 (1000), .int .u64 (10000), .int .u64 (100000), .int .u64 (1000000), .int .u64 (10000000), .int .u64 (100000000), .int .u64 (1000000000), .int .u64 (10000000000), .int .u64 (100000000000), .int .u64 (1000000000000), .int .u64 (10000000000000), .int .u64 (100000000000000), .int .u64 (1000000000000000), .int .u64 (10000000000000000), .int .u64 (100000000000000000), .int .u64 (1000000000000000000), .int .u64 (10000000000000000000)]), (0, .inp 0 [.int .i64 (0), .int .i64 (0)])], n := 3440, marks := [], vs := [] }
def st19 : St := { fr := [(27, .int .i64 (65)), (25, .slice (some ⟨3363, 0, none⟩) 2 2), (23, .int .i64 (65)), (22, .slice (some ⟨2567, 0, some 0⟩) 1 0), (28, .int .i64 (0)), (26, .int .i64 (0)), (24, .int .i64 (0)), (0, .bool false)], sz := 312, H := [(3363, .cells [.int .i64 (30), .int .i64 (35)] 3), (2567, .ext [.int .i64 (2)] 3 1), (2, .inp 0 [.int .u64 (1), .int .u64 (10), .int .u64 (100), .int .u64 (1000), .int .u64 (10000), .int .u64 (100000), .int .u64 (1000000), .int .u64 (10000000), .int .u64 (100000000), .int .u64 (1000000000), .int .u64 (10000000000), .int .u64 (100000000000), .int .u64 (1000000000000), .int .u64 (10000000000000), .int .u64 (100000000000000), .int .u64 (1000000000000000), .int .u64 (10000000000000000), .int .u64 (100000000000000000), .int .u64 (1000000000000000000), .int .u64 (10000000000000000000)]), (0, .inp 0 [.int .i64 (0), .int .i64 (0)])], n := 4262, marks := [], vs := [] }
def st20 : St := { fr := [(30, .int .i64 (8)), (29, .slice (some ⟨4294, 0, some 0⟩) 3 0), (27, .int .i64 (65)), (25, .slice (some ⟨3363, 0, none⟩) 2 2), (23, .int .i64 (65)), (22, .slice (some ⟨2567, 0, some 0⟩) 1 0), (31, .int .i64 (0)), (28, .int .i64 (0)), (26, .int .i64 (0)), (24, .int .i64 (0)), (0, .bool false)], sz := 312, H := [(4294, .ext [.int .i64 (0), .int .i64 (1), .int .i64 (2)] 3 1), (3363, .cells [.int .i64 (30), .int .i64 (35)] 3), (2567, .ext [.int .i64 (2)] 3 1), (2, .inp 0 [.int .u64 (1), .int .u64 (10), .int .u64 (100), .int .u64 (1000), .int .u64 (10000), .int .u64 (100000), .int .u64 (1000000), .int .u64 (10000000), .int .u64 (100000000), .int .u64 (1000000000), .int .u64 (10000000000), .int .u64 (100000000000), .int .u64 (1000000000000), .int .u64 (10000000000000), .int .u64 (100000000000000), .int .u64 (1000000000000000), .int .u64 (10000000000000000), .int .u64 (100000000000000000), .int .u64 (1000000000000000000), .int .u64 (10000000000000000000)]), (0, .inp 0 [.int .i64 (0), .int .i64 (0)])], n := 4295, marks := [], vs := [] }
def st21 : St := { fr := [(33, .int .i64 (7)), (32, .slice (some ⟨4343, 0, some 0⟩) 2 0), (30, .int .i64 (8)), (29, .slice (some ⟨4294, 0, some 0⟩) 3 0), (27, .int .i64 (65)), (25, .slice (some ⟨3363, 0, none⟩) 2 2), (23, .int .i64 (65)), (22, .slice (some ⟨2567, 0, some 0⟩) 1 0), (34, .int .i64 (0)), (31, .int .i64 (0)), (28, .int .i64 (0)), (26, .int .i64 (0)), (24, .int .i64 (0)), (0, .bool false)], sz := 312, H := [(4343, .ext [.int .i64 (1), .int .i64 (2), .int .i64 (0), .int .i64 (1)] 130 2), (4294, .ext [.int .i64 (0), .int .i64 (1), .int .i64 (2)] 3 1), (3363, .cells [.int .i64 (30), .int .i64 (35)] 3), (2567, .ext [.int .i64 (2)] 3 1), (2, .inp 0 [.int .u64 (1), .int .u64 (10), .int .u64 (100), .int .u64 (1000), .int .u64 (10000), .int .u64 (100000), .int .u64 (1000000), .int .u64 (10000000), .int .u64 (100000000), .int .u64 (1000000000), .int .u64 (10000000000), .int .u64 (100000000000), .int .u64 (1000000000000), .int .u64 (10000000000000), .int .u64 (100000000000000), .int .u64 (1000000000000000), .int .u64 (10000000000000000), .int .u64 (100000000000000000), .int .u64 (1000000000000000000), .int .u64 (10000000000000000000)]), (0, .inp 0 [.int .i64 (0), .int .i64 (0)])], n := 4346, marks := [], vs := [] }
def st22 : St := { fr := [(35, .string ⟨#[108, 105, 110, 101, 32, 97, 32, 54, 48, 32, 53, 48, 32, 49, 48, 48, 32, 48, 32, 50, 32, 45, 50, 48, 32, 48, 32, 45, 52, 48, 32, 48, 32, 50, 10]⟩), (33, .int .i64 (7)), (32, .slice (some ⟨4343, 0, some 0⟩) 2 0), (30, .int .i64 (8)), (29, .slice (some ⟨4294, 0, some 0⟩) 3 0), (27, .int .i64 (65)), (25, .slice (some ⟨3363, 0, none⟩) 2 2), (23, .int .i64 (65)), (22, .slice (some ⟨2567, 0, some 0⟩) 1 0), (36, .int .i64 (0)), (34, .int .i64 (0)), (31, .int .i64 (0)), (28, .int .i64 (0)), (26, .int .i64 (0)), (24, .int .i64 (0)), (0, .bool false)], sz := 312, H := [(4343, .ext [.int .i64 (1), .int .i64 (2), .int .i64 (0), .int .i64 (1)] 130 2), (4294, .ext [.int .i64 (0), .int .i64 (1), .int .i64 (2)] 3 1), (3363, .cells [.int .i64 (30), .int .i64 (35)] 3), (2567, .ext [.int .i64 (2)] 3 1), (2, .inp 0 [.int .u64 (1), .int .u64 (10), .int .u64 (100), .int .u64 (1000), .int .u64 (10000), .int .u64 (100000), .int .u64 (1000000), .int .u64 (10000000), .int .u64 (100000000), .int .u64 (1000000000), .int .u64 (10000000000), .int .u64 (100000000000), .int .u64 (1000000000000), .int .u64 (10000000000000), .int .u64 (100000000000000), .int .u64 (1000000000000000), .int .u64 (10000000000000000), .int .u64 (100000000000000000), .int .u64 (1000000000000000000), .int .u64 (10000000000000000000)]), (0, .inp 0 [.int .i64 (0), .int .i64 (0)])], n := 4502, marks := [], vs := [] }
def st23 : St := { fr := [(0, .bool true)], sz := 312, H := [(2, .inp 0 [.int .u64 (1), .int .u64 (10), .int .u64 (100), .int .u64 (1000), .int .u64 (10000), .int .u64 (100000), .int .u64 (1000000), .int .u64 (10000000), .int .u64 (100000000), .int .u64 (1000000000), .int .u64 (10000000000), .int .u64 (100000000000), .int .u64 (1000000000000), .int .u64 (10000000000000), .int .u64 (100000000000000), .int .u64 (1000000000000000), .int .u64 (10000000000000000), .int .u64 (100000000000000000), .int .u64 (1000000000000000000), .int .u64 (10000000000000000000)]), (0, .inp 0 [.int .i64 (0), .int .i64 (0)])], n := 4506, marks := [], vs := [] }
def st24 : St := { fr := [(0, .bool true)], sz := 312, H := [(2, .inp 0 [.int .u64 (1), .int .u64 (10), .int .u64 (100), .int .u64 (1000), .int .u64 (10000), .int .u64 (100000), .int .u64 (1000000), .int .u64 (10000000), .int .u64 (100000000), .int .u64 (1000000000), .int .u64 (10000000000), .int .u64 (100000000000), .int .u64 (1000000000000), .int .u64 (10000000000000), .int .u64 (100000000000000), .int .u64 (1000000000000000), .int .u64 (10000000000000000), .int .u64 (100000000000000000), .int .u64 (1000000000000000000), .int .u64 (10000000000000000000)]), (0, .inp 0 [.int .i64 (0), .int .i64 (0)])], n := 4506, marks := [], vs := [] }
end Go.Proofs.YtdmepnhmcppkkaaGreatDoor
