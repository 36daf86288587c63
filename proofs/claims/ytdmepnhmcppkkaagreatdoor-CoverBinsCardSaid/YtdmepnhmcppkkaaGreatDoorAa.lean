/-
An abstract evaluator of the model's code: a deterministic big-step reading on a heap of named blocks (no condition; its soundness is proved in the texts behind this one).
-/
import GoSem.Dispatch
import GoSem.Machine.Return
import Derived.CallsIn
import Derived.OrdersIn
import Derived.RangeFuncLeaves
import Derived.RangeFuncRecord
import Derived.Laws.CopyRow
import Derived.Laws.Cells
import Derived.Laws.Entries
/-
The abstract evaluator: a deterministic big-step reading of the model's code on a heap of named blocks, with unknown slots.
-/
namespace Go.Ab
open Go

/-! ### values without addresses -/
mutual
def af : Value → Bool
 | .bool _ | .int _ _ | .float _ _ | .complex _ _ _ | .string _ | .nilFunc | .nilIface => true
 | .pointer a => a.isNone
 | .slice a _ _ => a.isNone
 | .map r => r.isNone
 | .chan r => r.isNone
 | .func (.yield _) _ _ => false
 | .func _ first captured => afL first.toList && afL captured.toList
 | .iface _ v => af v
 | .agg cs => afL cs.toList
 | .tuple vs => afL vs.toList
def afL : List Value → Bool
 | [] => true
 | v :: vs => af v && afL vs
end

def afq : Value → Bool
 | .int _ _ => true
 | .bool _ => true
 | .string _ => true
 | v => af v
/-! ### the heap -/
inductive Blk where
 | cells (cs : List Value) (t : TypeId)
 | ext (cs : List Value) (t : TypeId) (sz : Nat)
 | inp (o : Nat) (cs : List Value)
 | row (cs : List Value) (sz : Nat)
 | tab (cs : List Value)
 | map (es : List MapEntry) (clock : Nat)
 | iter (s : ByteArray) (pos : Nat)
 | miter (m : Option Nat) (since : Nat) (seen : List Nat) (last : Nat)
 | defd
 | loop (state : LoopState) (pending : Option Code) (fr : List (Nat × Value)) (sz : Nat) (vs : List Nat) (params : Array Tmp) (assign body : Code) (defers : Nat)
 deriving Inhabited
abbrev Heap := List (Nat × Blk)
def hget : Heap → Nat → Option Blk
 | [], _ => none
 | (k, b) :: H, i => match Nat.beq k i with
   | true => some b
   | false => hget H i
def hset : Heap → Nat → Blk → Heap
 | [], _, _ => []
 | (k, b) :: H, i, x => match Nat.beq k i with
   | true => (k, x) :: H
   | false => (k, b) :: hset H i x
def hdel : Heap → Nat → Heap
 | [], _ => []
 | (k, b) :: H, i => match Nat.beq k i with
   | true => hdel H i
   | false => (k, b) :: hdel H i
def dropNew (k : Nat) : Heap → Heap
 | [] => []
 | (i, b) :: H => match Nat.ble k i with
   | true => dropNew k H
   | false => (i, b) :: dropNew k H
abbrev Fr := List (Nat × Value)
def lk : Fr → Nat → Option Value
 | [], _ => none
 | (k, v) :: f, i => match Nat.beq k i with
   | true => some v
   | false => lk f i

def trim (vars : List Nat) (fr : Fr) : Fr :=
 vars.filterMap fun t => (lk fr t).map fun v => (t, v)

def cellA (H : Heap) (b off : Nat) : Option Value :=
 match hget H b with
 | some (.cells cs _) => cs[off]?
 | some (.ext cs _ _) => cs[off]?
 | some (.row cs _) => cs[off]?
 | some (.inp o cs) => if o ≤ off then cs[off - o]? else none
 | _ => none
def cellsA (H : Heap) (b off n : Nat) : Option (List Value) :=
 match hget H b with
 | some (.cells cs _) => if off + n ≤ cs.length then some ((cs.drop off).take n) else none
 | some (.ext cs _ _) => if off + n ≤ cs.length then some ((cs.drop off).take n) else none
 | some (.row cs _) => if off + n ≤ cs.length then some ((cs.drop off).take n) else none
 | some (.inp o cs) => if o ≤ off ∧ off - o + n ≤ cs.length then some ((cs.drop (off - o)).take n) else none
 | _ => none
def putL (cs : List Value) (off : Nat) (vs : List Value) : List Value := cs.take off ++ vs ++ cs.drop (off + vs.length)
def storeA (H : Heap) (b off : Nat) (vs : List Value) : Option Heap :=
 match hget H b with
 | some (.cells cs t) => if off + vs.length ≤ cs.length then some (hset H b (.cells (putL cs off vs) t)) else none
 | some (.ext cs t sz) => if off + vs.length ≤ cs.length then some (hset H b (.ext (putL cs off vs) t sz)) else none
 | _ => none

/-! ### operands -/
def evO (P : Program) (fr : Fr) : Operand → Option Value
 | .tmp t => lk fr t
 | .const v => match afq v with | true => some v | false => none
 | .global g => match Nat.blt g P.globals.size with | true => some (.pointer (some ⟨g, 0, none⟩)) | false => none
 | .func f => some (.func (.func f) #[] #[])
def evOs (P : Program) (fr : Fr) : List Operand → Option (List Value)
 | [] => some []
 | x :: xs => match evO P fr x with
   | none => none
   | some v => match evOs P fr xs with
     | none => none
     | some vs => some (v :: vs)
def evPs (P : Program) (fr : Fr) : List (Nat × Operand) → Option (List (Nat × Value))
 | [] => some []
 | (i, x) :: xs => match evO P fr x with
   | none => none
   | some v => match evPs P fr xs with
     | none => none
     | some vs => some ((i, v) :: vs)

/-! ### what needs no memory -/
def runP {α : Type} (P : Program) : Sem α → Option α
 | .pure a => some a
 | .program k => runP P (k P)
 | .mark _ k => runP P k
 | _ => none
def szA (P : Program) (t : TypeId) : Option Nat := (P.info? t).map (·.size)
def zeroA (P : Program) (t : TypeId) : Option Value := (P.info? t).bind (·.zero)
def isAggA (P : Program) (t : TypeId) : Option Bool :=
 match P.underlying t with
 | some (.struct _) | some (.array ..) => some true
 | some _ => some false
 | none => none
def oneL : List Value → Bool
 | [] => true
 | .agg _ :: _ | .tuple _ :: _ => false
 | _ :: vs => oneL vs

abbrev R := Option (Value × Heap × Nat)
def undefV : Value := .tuple #[]
def newA (H : Heap) (n : Nat) (b : Blk) (v : Value) : R := some (v, (n, b) :: H, n + 1)

def loadA (P : Program) (t : TypeId) (H : Heap) : Value → Option Value
 | .pointer (some a) =>
   match isAggA P t, szA P t with
   | some true, some sz => (cellsA H a.block a.off sz).map fun cs => .agg cs.toArray
   | some false, _ => cellA H a.block a.off
   | _, _ => none
 | _ => none
def flat (a : Addr) : Bool := match a.spot with
 | none => true
 | some j => Nat.beq j 0
def boundA : Option Value → Nat → Option Nat
 | none, d => some d
 | some (.int _ i), _ => if 0 ≤ i then some i.toNat else none
 | _, _ => none
def sliceA (sz : Nat) (a : Option Addr) (len cap : Nat) (lo hi mx : Option Value) (used : Nat) : Option Value :=
 match a with
 | none => match boundA lo 0, boundA hi len, mx with
   | some l, some h, none => if l = 0 ∧ h = 0 then some (.slice none 0 cap) else none
   | _, _, _ => none
 | some a =>
   match a.spot with
   | none =>
     match if mx.isSome && hi.isNone then none else boundA mx cap with
     | none => none
     | some m => if m ≤ cap then
       match boundA hi len with
       | none => none
       | some h => if h ≤ m then
         match boundA lo 0 with
         | none => none
         | some l => if l ≤ h then some (.slice (some (if m = l then a else ⟨a.block, a.off + l * sz, none⟩)) (h - l) (m - l)) else none
         else none
       else none
   | some _ =>
     match boundA hi len, boundA lo 0 with
     | some h, some l =>
       if l ≤ h ∧ h ≤ used then
         match mx with
         | none => if l < used then some (.slice (some ⟨a.block, a.off + l * sz, some 0⟩) (h - l) (cap + l)) else if a.spot = some 0 ∧ 0 < l * sz then some (.slice (some ⟨a.block, a.off + l * sz, some (l * sz)⟩) (h - l) (cap + l)) else if l = 0 then some (.slice (some a) (h - l) cap) else none
         | some (.int _ m) => if hi.isSome = true ∧ (h : Int) ≤ m ∧ m ≤ used ∧ l < used ∧ (l : Int) < m then some (.slice (some ⟨a.block, a.off + l * sz, none⟩) (h - l) (m.toNat - l)) else none
         | _ => none
       else none
     | _, _ => none
def usedA (H : Heap) (sz : Nat) (a : Option Addr) (skip : Nat) : Nat :=
 match a with
 | some a => match hget H a.block with
   | some (.ext cs _ sz') => if a.spot = some 0 ∧ sz = sz' then cs.length / sz - skip else 0
   | some (.row cs sz') => if a.spot = some 0 ∧ sz = sz' then cs.length / sz - skip else 0
   | _ => 0
 | none => 0
def lenV : Value → Option Nat
 | .slice _ n _ => some n
 | .string s => some s.size
 | _ => none
def srcA (H : Heap) (sz n : Nat) : Value → Option (List Value)
 | .slice none _ _ => some []
 | .slice (some a) _ _ => if n * sz = 0 then some [] else if flat a then cellsA H a.block a.off (n * sz) else none
 | .string s => some ((s.extract 0 n).data.toList.map fun b => .int .u8 b.toNat)
 | _ => none
def smallA (bytes n : Nat) : Bool := n * bytes ≤ 2 ^ 40 && n ≤ 2 ^ 40
def lenX : TypeDesc → Value → Option Nat
 | .int _, .int _ m => if 0 ≤ m ∧ m ≤ 2 ^ 40 then some m.toNat else none
 | .int _, _ => none
 | _, x => lenV x
def srcX (i : TypeInfo) : TypeDesc → Heap → Nat → Value → Option (List Value)
 | .int _, _, m, _ => match i.zero with
   | some z => if afL (Builtin.zeroCells z.cells m).toList && smallA i.bytes m then some (if m * i.size = 0 then [] else (Builtin.zeroCells z.cells m).toList) else none
   | none => none
 | _, H, m, x => srcA H i.size m x
def zeroOk (i : TypeInfo) : Bool := match i.zero with
 | some z => Nat.beq z.cells.size i.size && Nat.blt 0 i.size
 | none => false
def appendTo (elem : TypeId) (i : TypeInfo) (H : Heap) (n m : Nat) (new : List Value) (base : Option Addr) (len cap : Nat) : R :=
 match base with
 | none =>
   if len = 0 ∧ cap = 0 then
     if m = 0 then some (.slice none 0 0, H, n)
     else if smallA i.bytes m && zeroOk i then newA H n (.ext new elem i.size) (.slice (some ⟨n, 0, some 0⟩) m 0) else none
   else none
 | some a =>
   match a.spot with
   | none =>
     if len + m ≤ cap then
       if m = 0 then some (.slice (some a) len cap, H, n)
       else match storeA H a.block (a.off + len * i.size) new with
         | some H' => some (.slice (some a) (len + m) cap, H', n)
         | none => none
     else match cellsA H a.block a.off (len * i.size) with
       | some old => if smallA i.bytes (len + m) && zeroOk i then newA H n (.ext (old ++ new) elem i.size) (.slice (some ⟨n, 0, some 0⟩) (len + m) 0) else none
       | none => none
   | some j =>
     match hget H a.block with
     | some (.ext cs t sz) =>
       if t = elem ∧ sz = i.size ∧ a.off = 0 ∧ cap = 0 ∧ j = 0 ∧ len * sz ≤ cs.length then
         if (len + m) * sz ≤ cs.length then
           if m = 0 then some (.slice (some a) len cap, H, n)
           else match storeA H a.block (len * sz) new with
             | some H' => some (.slice (some a) (len + m) cap, H', n)
             | none => none
         else if smallA i.bytes (len + m) && zeroOk i then
           newA (hdel H a.block) n (.ext (cs.take (len * sz) ++ new) t sz) (.slice (some ⟨n, 0, some 0⟩) (len + m) 0)
         else none
       else none
     | _ => none
def appendA (P : Program) (argTypes : Array TypeId) (H : Heap) (n : Nat) (s x : Value) : R :=
 match argTypes[0]?, argTypes[1]?, s with
 | some st, some xt, .slice base len cap =>
   match P.underlying st, P.underlying xt with
   | some (.slice elem), some xd =>
     match P.info? elem, lenX xd x with
     | some i, some m =>
       match srcX i xd H m x with
       | some new => match Nat.beq new.length (m * i.size) && oneL new with
         | true => appendTo elem i H n m new base len cap
         | false => none
       | none => none
     | _, _ => none
   | _, _ => none
 | _, _, _ => none
def findA (P : Program) (kt : TypeId) (k : Value) (es : List MapEntry) : Option (Option (Nat × Value)) :=
 match P.underlying kt with
 | some d => Instr.findNow d k es 0
 | none => none
def keyTypeA (P : Program) (t : TypeId) : Bool :=
 match P.underlying t with
 | some (.int _) | some .string => true
 | _ => false
def isConstO : Operand → Bool
 | .const _ => true
 | _ => false
def builtinA (P : Program) (b : Builtin) (argTypes : Array TypeId) (H : Heap) (n : Nat) (args : List Value) : R :=
 match b, args with
 | .len, [.slice _ l _] => match argTypes[0]? with
   | some t => match P.underlying t with
     | some (.slice _) => some (.int .i64 l, H, n)
     | _ => none
   | none => none
 | .cap, [.slice a _ c] => match argTypes[0]? with
   | some t => match P.underlying t, a with
     | some (.slice _), none => some (.int .i64 c, H, n)
     | some (.slice _), some ad => if ad.spot = none then some (.int .i64 c, H, n) else none
     | _, _ => none
   | none => none
 | .append, [s, x] => appendA P argTypes H n s x
 | .copy, [.slice base dl _, x] =>
   match argTypes[0]? with
   | some t => match P.underlying t with
     | some (.slice elem) => match szA P elem, lenV x with
       | some sz, some m => match srcA H sz (Nat.min m dl) x, base with
         | some [], _ => some (.int .i64 (Nat.min m dl), H, n)
         | some cs, some a => if flat a && oneL cs then match storeA H a.block a.off cs with
           | some H' => some (.int .i64 (Nat.min m dl), H', n)
           | none => none
           else none
         | _, _ => none
       | _, _ => none
     | _ => none
   | none => none
 | .clear, [.slice base l _] =>
   match argTypes[0]? with
   | some t => match P.underlying t with
     | some (.slice elem) => match base, l with
       | none, _ => some (undefV, H, n)
       | some _, 0 => some (undefV, H, n)
       | some a, l' + 1 => match zeroA P elem with
         | some z => if afL (Builtin.zeroCells z.cells (l' + 1)).toList && oneL (Builtin.zeroCells z.cells (l' + 1)).toList && flat a then match storeA H a.block a.off (Builtin.zeroCells z.cells (l' + 1)).toList with
           | some H' => some (undefV, H', n)
           | none => none
           else none
         | none => none
     | _ => none
   | none => none
 | _, _ => none
def nilEqA : Value → Value → Option Bool
 | .pointer none, .pointer b => some b.isNone
 | .pointer (some _), .pointer none => some false
 | .slice none _ _, .slice b _ _ => some b.isNone
 | .slice (some _) _ _, .slice none _ _ => some false
 | .map none, .map b => some b.isNone
 | .map (some _), .map none => some false
 | .nilFunc, .func .. => some false
 | .func .., .nilFunc => some false
 | .nilIface, .iface .. => some false
 | .iface .., .nilIface => some false
 | _, _ => none
def nilTypeA (P : Program) (t : TypeId) : Value → Bool
 | .pointer _ => match P.underlying t with | some (.pointer _) => true | _ => false
 | .slice .. => match P.underlying t with | some (.slice _) => true | _ => false
 | .map _ => match P.underlying t with | some (.map ..) => true | _ => false
 | .nilFunc | .func .. => match P.underlying t with | some (.func ..) => true | _ => false
 | .nilIface | .iface .. => match P.underlying t with | some (.interface _) => true | _ => false
 | _ => false
def partA (P : Program) (t : TypeId) (cs : List Value) (off : Nat) : Option Value :=
 match isAggA P t, szA P t with
 | some true, some sz => some (.agg ((cs.drop off).take sz).toArray)
 | some false, _ => cs[off]?
 | _, _ => none
def bytesA : List Value → Option (List UInt8)
 | [] => some []
 | .int .u8 b :: vs => (bytesA vs).map (UInt8.ofNat b.toNat :: ·)
 | _ => none
def opMove (P : Program) (x : Operand) (fr : Fr) (H : Heap) (n : Nat) : R := (evO P fr x).map fun v => (v, H, n)
def opPick (P : Program) (c : Operand) (a : Operand) (b : Operand) (fr : Fr) (H : Heap) (n : Nat) : R := match evO P fr c with
   | some (.bool true) => (evO P fr a).map fun v => (v, H, n)
   | some (.bool false) => (evO P fr b).map fun v => (v, H, n)
   | _ => none
def opAlloc (P : Program) (t : TypeId) (_fr : Fr) (H : Heap) (n : Nat) : R := match zeroA P t with
   | some z => if afL z.cells.toList then newA H n (.cells z.cells.toList t) (.pointer (some ⟨n, 0, none⟩)) else none
   | none => none
def opBox (P : Program) (t : TypeId) (x : Operand) (fr : Fr) (H : Heap) (n : Nat) : R := match evO P fr x with
   | some v => newA H n (.cells v.cells.toList t) (.pointer (some ⟨n, 0, none⟩))
   | none => none
def opBuild (P : Program) (t : TypeId) (ps : Array (Nat × Operand)) (fr : Fr) (H : Heap) (n : Nat) : R := match evPs P fr ps.toList, zeroA P t with
   | some vs, some z => if afL z.cells.toList then match P.underlying t with
     | some (.struct fields) =>
       match runP P (fields.mapM fun f => do pure (f.offset, ← sizeOf f.type)) with
       | some places => (Instr.fill (places[·]?) z.cells vs).map fun cs => (.agg cs, H, n)
       | none => none
     | some (.array _ elem) => match szA P elem with
       | some sz => (Instr.fill (fun i => some (i * sz, sz)) z.cells vs).map fun cs => (.agg cs, H, n)
       | none => none
     | _ => none
     else none
   | _, _ => none
def opBuildslice (P : Program) (t : TypeId) (len : Nat) (ps : Array (Nat × Operand)) (fr : Fr) (H : Heap) (n : Nat) : R := match evPs P fr ps.toList, P.underlying t with
   | some vs, some (.slice elem) => match P.info? elem with
     | some i => match i.zero with
       | some z => if afL z.cells.toList && len * i.size ≤ 2 ^ 24 then
         match Instr.fill (fun k => some (k * i.size, i.size)) ((Array.range (len * i.size)).map ((if len * i.size = 0 then #[] else z.cells)[· % (if len * i.size = 0 then #[] else z.cells).size]!)) vs with
         | some cs => newA H n (.cells cs.toList elem) (.slice (some ⟨n, 0, none⟩) len len)
         | none => none
         else none
       | none => none
     | none => none
   | _, _ => none
def opLoad (P : Program) (t : TypeId) (x : Operand) (fr : Fr) (H : Heap) (n : Nat) : R := match evO P fr x with
   | some v => (loadA P t H v).map fun r => (r, H, n)
   | none => none
def opStore (P : Program) (t : TypeId) (x : Operand) (y : Operand) (fr : Fr) (H : Heap) (n : Nat) : R := match evO P fr x, evO P fr y with
   | some (.pointer (some a)), some v => match szA P t with
     | some sz => if v.cells.size = sz && oneL v.cells.toList then (storeA H a.block a.off v.cells.toList).map fun H' => (undefV, H', n) else none
     | none => none
   | _, _ => none
def opNilcheck (P : Program) (x : Operand) (fr : Fr) (H : Heap) (n : Nat) : R := match evO P fr x with
   | some (.pointer (some a)) => some (.pointer (some a), H, n)
   | some (.func (.func f) a b) => some (.func (.func f) a b, H, n)
   | _ => none
def opBinop (P : Program) (op : BinOp) (t : TypeId) (x : Operand) (y : Operand) (fr : Fr) (H : Heap) (n : Nat) : R := match evO P fr x, evO P fr y with
   | some a, some b => if afq a && afq b then (runP P (do eqGuard op t x y a b; binOp op t a b)).bind fun v => if afq v then some (v, H, n) else none
     else match op, nilTypeA P t a, nilEqA a b with
       | .eql, true, some r => some (.bool r, H, n)
       | .neq, true, some r => some (.bool (!r), H, n)
       | _, _, _ => none
   | _, _ => none
def opUnop (P : Program) (op : UnOp) (x : Operand) (fr : Fr) (H : Heap) (n : Nat) : R := match evO P fr x with
   | some a => if afq a then (runP P (Op.unary op a)).bind fun v => if afq v then some (v, H, n) else none else none
   | none => none
def opConvert (P : Program) (s : TypeId) (d : TypeId) (x : Operand) (fr : Fr) (H : Heap) (n : Nat) : R := match evO P fr x with
   | some a => if afq a then (runP P (convert s d a)).bind fun v => if afq v then some (v, H, n) else none
     else match P.underlying s, P.underlying d, a with
       | some (.slice e), some .string, .slice (some a) len _ => match P.underlying e with
         | some (.int .u8) => (if len = 0 then some [] else if flat a then cellsA H a.block a.off len else none).bind fun cs => (bytesA cs).map fun bs => (.string ⟨bs.toArray⟩, H, n)
         | _ => none
       | _, _, _ => none
   | none => none
def opSlicetoarraypointer (P : Program) (arr : TypeId) (x : Operand) (fr : Fr) (H : Heap) (n : Nat) : R := match evO P fr x, P.underlying arr with
   | some (.slice (some a) len _), some (.array k _) => if k ≤ len ∧ flat a = true then some (.pointer (some ⟨a.block, a.off, none⟩), H, n) else none
   | _, _ => none
def opMakeinterface (P : Program) (t : TypeId) (x : Operand) (fr : Fr) (H : Heap) (n : Nat) : R := match evO P fr x, P.underlying t with
   | some _v, some (.interface _) => none
   | some v, some _ => some (.iface t v, H, n)
   | _, _ => none
def opMakefunc (P : Program) (fn : Fn) (first : Array Operand) (captured : Array Operand) (fr : Fr) (H : Heap) (n : Nat) : R := match fn, evOs P fr first.toList, evOs P fr captured.toList with
   | .func f, some a, some b => some (.func (.func f) a.toArray b.toArray, H, n)
   | _, _, _ => none
def opMakemap (_P : Program)  (_fr : Fr) (H : Heap) (n : Nat) : R := newA H n (.map [] 0) (.map (some n))
def opMakeslice (P : Program) (t : TypeId) (l : Operand) (c : Operand) (fr : Fr) (H : Heap) (n : Nat) : R := match evO P fr l, evO P fr c, P.underlying t with
   | some (.int _ l), some (.int _ c), some (.slice elem) => match P.info? elem with
     | some i => match i.zero with
       | some z => if 0 ≤ l ∧ l ≤ c ∧ smallA i.bytes c.toNat && afL z.cells.toList then
           newA H n (.cells ((Array.range (c.toNat * i.size)).map ((if c.toNat * i.size = 0 then #[] else z.cells)[· % (if c.toNat * i.size = 0 then #[] else z.cells).size]!)).toList elem) (.slice (some ⟨n, 0, none⟩) l.toNat c.toNat)
         else none
       | none => none
     | none => none
   | _, _, _ => none
def evI (P : Program) (fr : Fr) : Option Operand → Option (Option Value)
 | none => some none
 | some o => match evO P fr o with
   | some (.int k i) => some (some (.int k i))
   | _ => none
def opSlice (P : Program) (t : TypeId) (x : Operand) (lo : Option Operand) (hi : Option Operand) (mx : Option Operand) (fr : Fr) (H : Heap) (n : Nat) : R := match evO P fr x with
   | none => none
   | some v =>
     match evI P fr lo, evI P fr hi, evI P fr mx with
     | some lo, some hi, some mx =>
       match P.underlying t, v with
       | some .string, .string _s => (runP P (Instr.sliceAt t v lo hi mx)).bind fun v => if afq v then some (v, H, n) else none
       | some (.slice elem), .slice a len cap => match szA P elem with
         | some sz => (sliceA sz a len cap lo hi mx (usedA H sz a cap)).map fun v => (v, H, n)
         | none => none
       | some (.array k elem), .pointer (some a) => match szA P elem with
         | some sz => if mx.isNone then (sliceA sz (some ⟨a.block, a.off, none⟩) k k lo hi none 0).map fun v => (v, H, n) else none
         | none => none
       | _, _ => none
     | _, _, _ => none
def opFieldaddr (P : Program) (s : TypeId) (x : Operand) (f : Nat) (fr : Fr) (H : Heap) (n : Nat) : R := match evO P fr x, P.underlying s with
   | some (.pointer (some a)), some (.struct fields) => match fields[f]? with
     | some fl => match szA P fl.type with
       | some 0 => none
       | some _ => some (.pointer (some ⟨a.block, a.off + fl.offset, none⟩), H, n)
       | none => none
     | none => none
   | _, _ => none
def opField (P : Program) (t : TypeId) (x : Operand) (f : Nat) (fr : Fr) (H : Heap) (n : Nat) : R := match evO P fr x, P.underlying t with
   | some (.agg cs), some (.struct fields) => match fields[f]? with
     | some fl => (partA P fl.type cs.toList fl.offset).map fun v => (v, H, n)
     | none => none
   | _, _ => none
def opIndexaddr (P : Program) (t : TypeId) (x : Operand) (i : Operand) (fr : Fr) (H : Heap) (n : Nat) : R := match evO P fr x, evO P fr i, P.underlying t with
   | some (.pointer (some a)), some (.int _ j), some (.array len elem) => match szA P elem with
     | some sz => if 0 ≤ j ∧ j < len then some (.pointer (some ⟨a.block, a.off + j.toNat * sz, none⟩), H, n) else none
     | none => none
   | some (.slice (some a) len _), some (.int _ j), some (.slice elem) => match szA P elem with
     | some sz => if (0 ≤ j ∧ j < len) ∧ flat a = true then some (.pointer (some ⟨a.block, a.off + j.toNat * sz, none⟩), H, n) else none
     | none => none
   | _, _, _ => none
def opIndex (P : Program) (t : TypeId) (x : Operand) (i : Operand) (fr : Fr) (H : Heap) (n : Nat) : R := match evO P fr x, evO P fr i with
   | some (.string s), some (.int k j) => (runP P (Instr.index t (.string s) (.int k j))).bind fun v => if afq v then some (v, H, n) else none
   | some (.agg cs), some (.int _ j) => match P.underlying t with
     | some (.array len elem) => match szA P elem with
       | some sz => if 0 ≤ j ∧ j < len then (partA P elem cs.toList (j.toNat * sz)).map fun v => (v, H, n) else none
       | none => none
     | _ => none
   | _, _ => none
def opLookup (P : Program) (t : TypeId) (x : Operand) (k : Operand) (ok : Bool) (fr : Fr) (H : Heap) (n : Nat) : R := match evO P fr x, evO P fr k, P.underlying t with
   | some (.map r), some kv, some (.map kt et) => if keyTypeA P kt then
     match (match r with | none => some [] | some r => match hget H r with | some (.map es _) => some es | _ => none) with
     | some es => match findA P kt kv es, zeroA P et with
       | some (some (_, v)), _ => some (if ok then .tuple #[v, .bool true] else v, H, n)
       | some none, some z => if af z then some (if ok then .tuple #[z, .bool false] else z, H, n) else none
       | _, _ => none
     | none => none
     else none
   | _, _, _ => none
def opMapupdate (P : Program) (t : TypeId) (m : Operand) (k : Operand) (x : Operand) (fr : Fr) (H : Heap) (n : Nat) : R := match evO P fr m, evO P fr k, evO P fr x, P.underlying t with
   | some (.map (some r)), some kv, some v, some (.map kt _) => if keyTypeA P kt then
     match hget H r with
     | some (.map es clock) => match findA P kt kv es with
       | some (some (i, _)) => some (undefV, hset H r (.map (es.modify i fun e => { e with key := kv, val := v }) clock), n)
       | some none => some (undefV, hset H r (.map (es ++ [{ key := kv, val := v, born := clock }]) (clock + 1)), n)
       | none => none
     | _ => none
     else none
   | _, _, _, _ => none
def opRange (P : Program) (t : TypeId) (x : Operand) (fr : Fr) (H : Heap) (n : Nat) : R := match evO P fr x, P.underlying t with
   | some (.string s), some .string => newA H n (.iter s 0) (.pointer (some ⟨n, 0, none⟩))
   | some (.map none), some (.map ..) => newA H n (.miter none 0 [] 0) (.pointer (some ⟨n, 0, none⟩))
   | some (.map (some m)), some (.map ..) => match hget H m with
     | some (.map _ clock) => newA H n (.miter (some m) clock [] clock) (.pointer (some ⟨n, 0, none⟩))
     | _ => none
   | _, _ => none
def bornA (es : List MapEntry) (k : Nat) : Option MapEntry := es.find? fun e => Nat.beq e.born k
def opEntry (P : Program) (it : Operand) (fr : Fr) (H : Heap) (n : Nat) : R := match evO P fr it with
   | some (.pointer (some a)) => if a.off = 0 then match hget H a.block with
     | some (.miter (some m) _ seen last) => match hget H m, seen.getLast? with
       | some (.map es clock), some k => if Nat.beq clock last then match bornA es k with
         | some e => some (.tuple #[e.key, e.val], H, n)
         | none => none
         else none
       | _, _ => none
     | _ => none
     else none
   | _ => none
def opNext (P : Program) (it : Operand) (fr : Fr) (H : Heap) (n : Nat) : R := match evO P fr it with
   | some (.pointer (some a)) => if a.off = 0 then match hget H a.block with
     | some (.iter s pos) => if pos < s.size then
         some (.tuple #[.bool true, .int .i64 pos, .int .i32 (Utf8.decode s pos).1], hset H a.block (.iter s (pos + (Utf8.decode s pos).2)), n)
       else some (.tuple #[.bool false], H, n)
     | _ => none
     else none
   | _ => none
def opTypeassert (P : Program) (x : Operand) (xt : TypeId) (asserted : TypeId) (ok : Bool) (fr : Fr) (H : Heap) (n : Nat) : R := match evO P fr x with
   | some a => if afq a then (runP P (Instr.typeAssert a xt asserted ok)).bind fun v => if afq v then some (v, H, n) else none else none
   | none => none
def opExtract (P : Program) (x : Operand) (ix : Nat) (fr : Fr) (H : Heap) (n : Nat) : R := match evO P fr x with
   | some (.tuple vs) => (vs.toList[ix]?).map fun v => (v, H, n)
   | _ => none
def opBuiltin (P : Program) (b : Builtin) (args : Array Operand) (argTypes : Array TypeId) (type : TypeId) (fr : Fr) (H : Heap) (n : Nat) : R := match evOs P fr args.toList with
   | some vs => match builtinA P b argTypes H n vs with
     | some r => some r
     | none => if afL vs then match runP P (builtin b argTypes type (args.map isConstO) vs.toArray) with
       | some (.value v) => if afq v then some (v, H, n) else none
       | _ => none
       else none
   | none => none
def opA (P : Program) (o : Oper) (fr : Fr) (H : Heap) (n : Nat) : R :=
 match o.op with
 | .move x | .assign x => opMove P x fr H n
 | .pick c a b => opPick P c a b fr H n
 | .alloc t => opAlloc P t fr H n
 | .box t x => opBox P t x fr H n
 | .build t ps => opBuild P t ps fr H n
 | .buildSlice t len ps => opBuildslice P t len ps fr H n
 | .load t x => opLoad P t x fr H n
 | .store t x y => opStore P t x y fr H n
 | .nilCheck x => opNilcheck P x fr H n
 | .binOp op t x y _ => opBinop P op t x y fr H n
 | .unOp op _ x => opUnop P op x fr H n
 | .convert s d x => opConvert P s d x fr H n
 | .sliceToArrayPointer arr x => opSlicetoarraypointer P arr x fr H n
 | .makeInterface t x => opMakeinterface P t x fr H n
 | .makeFunc fn first captured => opMakefunc P fn first captured fr H n
 | .makeMap _ none => opMakemap P  fr H n
 | .makeSlice t l c => opMakeslice P t l c fr H n
 | .slice t x lo hi mx => opSlice P t x lo hi mx fr H n
 | .fieldAddr s x f => opFieldaddr P s x f fr H n
 | .field t x f => opField P t x f fr H n
 | .indexAddr t x i => opIndexaddr P t x i fr H n
 | .index t x i => opIndex P t x i fr H n
 | .lookup t x k ok => opLookup P t x k ok fr H n
 | .mapUpdate t m k x | .insert t m k x => opMapupdate P t m k x fr H n
 | .range t x => opRange P t x fr H n
 | .next it true => opNext P it fr H n
 | .entry it => opEntry P it fr H n
 | .typeAssert x xt asserted ok => opTypeassert P x xt asserted ok fr H n
 | .extract x ix => opExtract P x ix fr H n
 | .call { callee := .builtin b, args, argTypes } => opBuiltin P b args argTypes o.type fr H n
 | _ => none

/-! ### code -/
inductive Ex where
 | normal | exit (id : Nat) | goto (l : Nat) | ret
 deriving DecidableEq, Inhabited, Repr
structure St where
 fr : Fr
 sz : Nat
 H : Heap
 n : Nat
 marks : List Nat
 vs : List Nat
 deriving Inhabited
def yieldedA (ops : Array Oper) (fr : Fr) (j : Nat) : Option (Option Bool) :=
 match (ops[j]?).bind (·.dst) with
 | none => some none
 | some d => match lk fr d with
   | some (.bool b) => some (some b)
   | some _ => some none
   | none => none
def wantedA (ops : Array Oper) (fr : Fr) (o : Oper) : Option Bool :=
 match o.guard with
 | none => some true
 | some (j, want) => (yieldedA ops fr j).map fun y => y == some want
def putA (fr : Fr) (dst : Option Tmp) (v : Value) : Fr :=
 match dst with
 | some d => (d, v) :: fr
 | none => fr
def enterable (P : Program) (f : FuncId) : Bool :=
 match P.funcs[f]? with
 | some fn => fn.body.isSome && fn.name != "runtime.NumGoroutine"
 | none => false
def resultA (P : Program) (fr : Fr) (H : Heap) : ResultVar → Option Value
 | .tmp t => lk fr t
 | .cell a t => match lk fr a with
   | some p => loadA P t H p
   | none => none
def resultsA (P : Program) (fr : Fr) (H : Heap) : List ResultVar → Option (List Value)
 | [] => some []
 | r :: rs => match resultA P fr H r with
   | none => none
   | some v => (resultsA P fr H rs).map (v :: ·)
def Code.ex : Ex → Option Code
 | .normal => none
 | .exit id => some (.exit id)
 | .goto l => some (.goto l)
 | .ret => some .ret
def dropOk : Value → Bool
 | .pointer (some _) => false
 | .func fn a b => af (.func fn a b)
 | _ => true
inductive Tgt where
 | fn (f : FuncId) (args : List Value)
 | yield (l : Nat) (args : List Value)
def target (P : Program) (fr : Fr) (f : Operand) (args : Array Operand) : Option Tgt :=
 match evO P fr f, evOs P fr args.toList with
 | some (.func (.func g) first captured), some args => some (.fn g (first.toList ++ args ++ captured.toList))
 | some (.func (.yield l) first _captured), some args => some (.yield l (first.toList ++ args))
 | _, _ => none
def isVCall : Op → Option (Operand × Array Operand)
 | .call c => match c.callee with
   | .value f => some (f, c.args)
   | _ => none
 | _ => none
abbrev Oracle := FuncId → List Value → Heap → Nat → R
structure Rec where
 code : Option Nat → Code → St → Option (Ex × St)
 call : FuncId → List Value → Heap → Nat → R

def memN : List Nat → Nat → Bool
 | [], _ => false
 | x :: xs, i => match Nat.beq x i with
   | true => true
   | false => memN xs i
def insN (xs : List Nat) (i : Nat) : List Nat := match memN xs i with
 | true => xs
 | false => i :: xs
def tmpsOf : List Operand → List Nat
 | [] => []
 | .tmp t :: xs => t :: tmpsOf xs
 | _ :: xs => tmpsOf xs
def guardTmp (ops : Array Oper) : Option (Nat × Bool) → List Nat
 | none => []
 | some (j, _) => ((ops[j]?).bind (·.dst)).toList
def regVars (ops : Array Oper) : List Oper → List Nat → List Nat → List Nat
 | [], _, acc => acc
 | o :: os, w, acc => regVars ops os (o.dst.toList ++ w) ((tmpsOf o.op.operands.toList ++ guardTmp ops o.guard).foldl (fun acc t => match memN w t with | true => acc | false => insN acc t) acc)
def codeVars : Code → List Nat → List Nat
 | .region _ ops _, acc => regVars ops ops.toList [] acc
 | .seq a b, acc => codeVars b (codeVars a acc)
 | .cond c a b, acc => codeVars b (codeVars a ((tmpsOf [c]).foldl insN acc))
 | .block _ b, acc => codeVars b acc
 | .loop b, acc => codeVars b acc
 | .scope b, acc => codeVars b acc
 | .rangeFunc f _ a b, acc => codeVars b (codeVars a ((tmpsOf [f]).foldl insN acc))
 | _, acc => acc
def varsF (fn : Func) (c : Code) : List Nat :=
 fn.results.toList.foldl (fun acc r => match r with | .tmp t => insN acc t | .cell a _ => insN acc a) (codeVars c [])
abbrev Vars := Nat → List Nat
def seqF (r : Rec) (ro : Option Nat) (a b : Code) (st : St) : Option (Ex × St) :=
 match r.code ro a st with
 | some (.normal, st') => r.code ro b st'
 | x => x
def condF (P : Program) (r : Rec) (ro : Option Nat) (c : Operand) (t e : Code) (st : St) : Option (Ex × St) :=
 match evO P st.fr c with
 | some (.bool true) => r.code ro t st
 | some (.bool false) => r.code ro e st
 | _ => none
def blockF (r : Rec) (ro : Option Nat) (id : Nat) (b : Code) (st : St) : Option (Ex × St) :=
 match r.code ro b st with
 | some (.exit id', st') => match Nat.beq id' id with
   | true => some (.normal, st')
   | false => some (.exit id', st')
 | x => x
def loopF (r : Rec) (ro : Option Nat) (b : Code) (st : St) : Option (Ex × St) :=
 match r.code ro b { st with fr := trim st.vs st.fr } with
 | some (.normal, st') => r.code ro (.loop b) st'
 | x => x
def scopeF (r : Rec) (ro : Option Nat) (b : Code) (st : St) : Option (Ex × St) :=
 match ro with
 | some _ => none
 | none => match r.code none b st with
   | some (.goto _, _) => none
   | x => x
def yieldF (r : Rec) (l : Nat) (args : List Value) (H : Heap) (n : Nat) : R :=
 match hget H l with
 | some (.loop _ _ fr sz vs ps a b _) =>
   match Nat.beq args.length ps.size && ps.toList.all (fun t => Nat.blt t sz) with
   | false => none
   | true =>
     match r.code (some l) a { fr := (ps.toList.zip args).foldl (fun fr (t, v) => (t, v) :: fr) fr, sz, H, n, marks := [], vs } with
     | some (.normal, s1) =>
       match hget s1.H l with
       | some (.loop .ready pe1 fr1 sz1 vs1 ps1 a1 b1 d1) =>
         match r.code (some l) b { s1 with H := hset s1.H l (.loop .busy pe1 fr1 sz1 vs1 ps1 a1 b1 d1) } with
         | some (e, s2) => match hget s2.H l with
           | some (.loop _ _ fr2 sz2 vs2 ps2 a2 b2 d2) => some (.bool (Code.ex e).isNone, hset s2.H l (.loop (if (Code.ex e).isNone then .ready else .done) (Code.ex e) fr2 sz2 vs2 ps2 a2 b2 d2), s2.n)
           | _ => none
         | none => none
       | _ => none
     | _ => none
 | _ => none
def vcallF (P : Program) (r : Rec) (f : Operand) (args : Array Operand) (st : St) : R :=
 match target P st.fr f args with
 | some (.fn g vs) => r.call g vs st.H st.n
 | some (.yield l vs) => yieldF r l vs st.H st.n
 | none => none
def runOp (P : Program) (r : Rec) (o : Oper) (st : St) : R :=
 match isVCall o.op with
 | some (f, args) => vcallF P r f args st
 | none => opA P o st.fr st.H st.n
def dstOk (sz : Nat) : Option Tmp → Bool
 | none => true
 | some d => Nat.blt d sz
def oneF (P : Program) (r : Rec) (ops : Array Oper) (o : Oper) (st : St) : Option St :=
 match dstOk st.sz o.dst with
 | false => none
 | true => match wantedA ops st.fr o with
   | none => none
   | some false => some { st with fr := putA st.fr o.dst undefV }
   | some true => match runOp P r o st with
     | some (v, H, k) => some { fr := putA st.fr o.dst v, sz := st.sz, H := H, n := k, marks := st.marks, vs := st.vs }
     | none => none
def opsF (P : Program) (r : Rec) (ops : Array Oper) : List Oper → St → Option St
 | [], st => some st
 | o :: os, st => match oneF P r ops o st with
   | some st' => opsF P r ops os st'
   | none => none

/-! ### a region whose order is open -/
def isPure : Op → Bool
 | .move _ | .assign _ | .pick .. | .build .. | .nilCheck _ | .binOp .. | .unOp .. | .fieldAddr .. | .field .. | .indexAddr .. | .index .. | .makeFunc .. | .makeInterface .. | .extract .. | .sliceToArrayPointer .. => true
 | .call { callee := .builtin .len, .. } | .call { callee := .builtin .min, .. } | .call { callee := .builtin .max, .. } => true
 | _ => false
def lookTmps (ops : Array Oper) (o : Oper) : List Nat := tmpsOf o.op.operands.toList ++ guardTmp ops o.guard
def ahead (bef : Array Nat) (j i : Nat) : Bool := (bef.getD i 0).testBit j
def dstsApart : List Oper → List Nat → Bool
 | [], _ => true
 | o :: os, seen => match o.dst with
   | none => dstsApart os seen
   | some d => match memN seen d with
     | true => false
     | false => dstsApart os (d :: seen)
def writersOk (bef : Array Nat) (i t : Nat) : List Oper → Nat → Bool
 | [], _ => true
 | o :: os, j => (match o.dst with
   | some d => !(Nat.beq d t) || (Nat.beq j i) || (Nat.blt j i && ahead bef j i) || (Nat.blt i j && ahead bef i j)
   | none => true) && writersOk bef i t os (j + 1)
def looksOk (ops : Array Oper) (bef : Array Nat) : List Oper → Nat → Bool
 | [], _ => true
 | o :: os, i => (lookTmps ops o).all (fun t => writersOk bef i t ops.toList 0) && looksOk ops bef os (i + 1)
def edgesOk : List Oper → Nat → Bool
 | [], _ => true
 | o :: os, i => o.after.all (fun e => !(Region.binds .any e) || Nat.blt e.on i) && edgesOk os (i + 1)
def drawOk (ops : Array Oper) (bef : Array Nat) : Bool := dstsApart ops.toList [] && looksOk ops bef ops.toList 0 && edgesOk ops.toList 0
structure Foot where
 see : List Nat
 put : List Nat
def blkOf : Option Value → List Nat
 | some (.pointer (some a)) => [a.block]
 | some (.slice (some a) _ _) => [a.block]
 | some (.map (some r)) => [r]
 | _ => []
def footA (P : Program) (fr : Fr) (o : Op) : Option Foot :=
 match o with
 | .load _ x => some ⟨blkOf (evO P fr x), []⟩
 | .store _ x _ => some ⟨blkOf (evO P fr x), blkOf (evO P fr x)⟩
 | .lookup _ x _ _ => some ⟨blkOf (evO P fr x), []⟩
 | .mapUpdate _ m _ _ => some ⟨blkOf (evO P fr m), blkOf (evO P fr m)⟩
 | .insert _ m _ _ => some ⟨blkOf (evO P fr m), blkOf (evO P fr m)⟩
 | .convert _ _ x => some ⟨blkOf (evO P fr x), []⟩
 | .slice _ x _ _ _ => some ⟨blkOf (evO P fr x), []⟩
 | .next x _ => some ⟨blkOf (evO P fr x), blkOf (evO P fr x)⟩
 | .alloc _ => some ⟨[], []⟩
 | .box _ _ => some ⟨[], []⟩
 | .buildSlice _ _ _ => some ⟨[], []⟩
 | .makeSlice _ _ _ => some ⟨[], []⟩
 | .makeMap _ _ => some ⟨[], []⟩
 | .range _ _ => some ⟨[], []⟩
 | .call { callee := .builtin _, args, .. } => match args.toList with
   | [x] => some ⟨blkOf (evO P fr x), blkOf (evO P fr x)⟩
   | [x, y] => some ⟨blkOf (evO P fr x) ++ blkOf (evO P fr y), blkOf (evO P fr x)⟩
   | _ => some ⟨[], []⟩
 | _ => none
structure Done where
 i : Nat
 see : List Nat
 put : List Nat
 lo : Nat
 hi : Nat
def visA (bef : Array Nat) (n0 i : Nat) (ds : List Done) (k : Nat) : Bool :=
 Nat.blt k n0 || ds.any fun d => Nat.ble d.lo k && Nat.blt k d.hi && ahead bef d.i i
def disj (xs ys : List Nat) : Bool := xs.all fun x => !memN ys x
def clearA (bef : Array Nat) (i : Nat) (see put : List Nat) (ds : List Done) : Bool :=
 ds.all fun d => ahead bef d.i i || (disj put d.see && disj d.put see)
def seeCall (bef : Array Nat) (n0 i : Nat) (ds : List Done) : Heap → List Nat
 | [] => []
 | (k, .cells _ _) :: H | (k, .ext _ _ _) :: H | (k, .inp _ _) :: H | (k, .row _ _) :: H | (k, .tab _) :: H =>
   if visA bef n0 i ds k && ds.all (fun d => ahead bef d.i i || !memN d.put k) then k :: seeCall bef n0 i ds H else seeCall bef n0 i ds H
 | _ :: H => seeCall bef n0 i ds H
def aloneA (bef : Array Nat) (i : Nat) : List Oper → Nat → Bool
 | [], _ => true
 | o :: os, j => (isPure o.op || Nat.beq j i || ahead bef j i || ahead bef i j) && aloneA bef i os (j + 1)
def handA (see put : List Nat) : Heap → Heap
 | [] => []
 | (k, b) :: H => match memN put k with
   | true => (k, b) :: handA see put H
   | false => match memN see k with
     | false => handA see put H
     | true => match b with
       | .cells cs _ => (k, .inp 0 cs) :: handA see put H
       | .ext cs _ sz => (k, .row cs sz) :: handA see put H
       | .row cs sz => (k, .row cs sz) :: handA see put H
       | .tab cs => (k, .tab cs) :: handA see put H
       | .inp o cs => (k, .inp o cs) :: handA see put H
       | _ => []
def readA (see : List Nat) : Heap → Heap
 | [] => []
 | (k, b) :: H => match memN see k with
   | true => (k, b) :: readA see H
   | false => readA see H
def isRead : Op → Bool
 | .load _ _ | .lookup _ _ _ _ | .convert _ _ _ | .slice _ _ _ _ _ => true
 | _ => false
def namesOk (k : Nat) : Heap → Bool
 | [] => true
 | (i, _) :: H => match Nat.blt i k with
   | true => namesOk k H
   | false => false
def takeNew (k : Nat) : Heap → Heap
 | [] => []
 | (i, b) :: H => match Nat.ble k i with
   | true => (i, b) :: takeNew k H
   | false => []
def backA (put : List Nat) (H' : Heap) : Heap → Heap
 | [] => []
 | (k, b) :: H => match memN put k with
   | false => (k, b) :: backA put H' H
   | true => match hget H' k with
     | some b' => (k, b') :: backA put H' H
     | none => backA put H' H
def footOk (bef : Array Nat) (n0 i : Nat) (ds : List Done) (see put : List Nat) : Bool := clearA bef i see put ds && see.all (visA bef n0 i ds) && put.all (memN see)
def readOp (P : Program) (bef : Array Nat) (n0 i : Nat) (ds : List Done) (o : Oper) (see : List Nat) (fr : Fr) (st : St) : Option (St × List Done) :=
 match footOk bef n0 i ds see [] with
 | false => none
 | true => match opA P o fr (readA see st.H) st.n with
   | some (v, _, _) => some ({ st with fr := putA st.fr o.dst v }, ⟨i, see, [], st.n, st.n⟩ :: ds)
   | none => none
def handOp (P : Program) (r : Rec) (bef : Array Nat) (n0 i : Nat) (ds : List Done) (o : Oper) (see put : List Nat) (fr : Fr) (st : St) : Option (St × List Done) :=
 match footOk bef n0 i ds see put with
 | false => none
 | true => match runOp P r o { st with fr := fr, H := handA see put st.H } with
   | some (v, H, k) => match Nat.ble st.n k && namesOk k (takeNew st.n H) with
     | true => some ({ st with fr := putA st.fr o.dst v, H := takeNew st.n H ++ backA put H st.H, n := k }, ⟨i, see, put, st.n, k⟩ :: ds)
     | false => none
   | none => none
def aloneOp (P : Program) (r : Rec) (i : Nat) (ds : List Done) (o : Oper) (fr : Fr) (st : St) : Option (St × List Done) :=
 match runOp P r o { st with fr := fr } with
 | some (v, H, k) => match Nat.ble st.n k && namesOk k H with
   | true => some ({ st with fr := putA st.fr o.dst v, H := H, n := k }, ⟨i, [], [], st.n, k⟩ :: ds)
   | false => none
 | none => none
def pureOp (P : Program) (ds : List Done) (o : Oper) (fr : Fr) (st : St) : Option (St × List Done) :=
 match opA P o fr [] st.n with
 | some (v, _, k) => match Nat.beq k st.n with
   | true => some ({ st with fr := putA st.fr o.dst v }, ds)
   | false => none
 | none => none
def doneD (P : Program) (r : Rec) (ops : Array Oper) (bef : Array Nat) (n0 i : Nat) (ds : List Done) (o : Oper) (fr : Fr) (st : St) : Option (St × List Done) :=
 match isPure o.op with
 | true => pureOp P ds o fr st
 | false => match isRead o.op with
   | true => match footA P fr o.op with
     | some f => readOp P bef n0 i ds o f.see fr st
     | none => none
   | false => match aloneA bef i ops.toList 0 with
     | true => aloneOp P r i ds o fr st
     | false => match footA P fr o.op with
       | some f => handOp P r bef n0 i ds o f.see f.put fr st
       | none => handOp P r bef n0 i ds o (seeCall bef n0 i ds st.H) [] fr st
def oneD (P : Program) (r : Rec) (ops : Array Oper) (bef : Array Nat) (n0 i : Nat) (ds : List Done) (o : Oper) (st : St) : Option (St × List Done) :=
 match dstOk st.sz o.dst with
 | false => none
 | true => match wantedA ops (trim (lookTmps ops o) st.fr) o with
   | none => none
   | some false => some ({ st with fr := putA st.fr o.dst undefV }, ds)
   | some true => doneD P r ops bef n0 i ds o (trim (lookTmps ops o) st.fr) st
def opsD (P : Program) (r : Rec) (ops : Array Oper) (bef : Array Nat) (n0 : Nat) : List Oper → Nat → List Done → St → Option St
 | [], _, _, st => some st
 | o :: os, i, ds, st => match oneD P r ops bef n0 i ds o st with
   | some (st', ds') => opsD P r ops bef n0 os (i + 1) ds' st'
   | none => none
def regionF (P : Program) (r : Rec) (ops : Array Oper) (draw : Bool) (st : St) : Option (Ex × St) :=
 match draw with
 | false => match opsF P r ops ops.toList st with
   | some st' => some (.normal, st')
   | none => none
 | true => match drawOk ops (Region.before ops) with
   | true => match opsD P r ops (Region.before ops) st.n ops.toList 0 [] st with
     | some st' => some (.normal, st')
     | none => none
   | false => none
def rangeF (P : Program) (r : Rec) (ro : Option Nat) (f : Operand) (params : Array Tmp) (assign body : Code) (st : St) : Option (Ex × St) :=
 match ro, evO P st.fr f with
 | none, some (.func (.func g) first captured) =>
   match enterable P g with
   | false => none
   | true =>
     match r.call g (first.toList ++ [.func (.yield (st.n + 1)) #[] #[]] ++ captured.toList) ((st.n + 1, .loop .ready none st.fr st.sz st.vs params assign body st.n) :: (st.n, .defd) :: st.H) (st.n + 2) with
     | some (_, H, k) => match hget H (st.n + 1) with
       | some (.loop state pending fr sz vs ps a b d) => match state == .busy with
         | true => none
         | false => match pending with
           | none => some (.normal, { st with H := hset H (st.n + 1) (.loop .exhausted none fr sz vs ps a b d), n := k, marks := st.n :: st.marks })
           | some c => r.code none c { st with H := hset H (st.n + 1) (.loop .exhausted (some c) fr sz vs ps a b d), n := k, marks := st.n :: st.marks }
       | _ => none
     | none => none
 | _, _ => none
def codeF (P : Program) (r : Rec) (ro : Option Nat) (c : Code) (st : St) : Option (Ex × St) :=
 match c with
 | .skip => some (.normal, st)
 | .label _ => some (.normal, st)
 | .ret => some (.ret, st)
 | .exit id => some (.exit id, st)
 | .goto l => some (.goto l, st)
 | .seq a b => seqF r ro a b st
 | .cond c t e => condF P r ro c t e st
 | .block id b => blockF r ro id b st
 | .loop b => loopF r ro b st
 | .scope b => scopeF r ro b st
 | .region _ ops draw => regionF P r ops draw st
 | .rangeFunc f params assign body => rangeF P r ro f params assign body st
 | .refuse _ => none
def externF (P : Program) (f : FuncId) (args : List Value) (H : Heap) (k : Nat) : R :=
 if afL args then match runP P (callFunc f args.toArray) with
   | some (.value v) => if af v then some (v, H, k) else none
   | _ => none
 else none
def argsFr : List Value → Nat → Fr
 | [], _ => []
 | v :: vs, i => (i, v) :: argsFr vs (i + 1)
def one (vs : List Value) : Value := match vs with | [v] => v | vs => .tuple vs.toArray
def shutA : List Nat → Heap → Option Heap
 | [], H => some H
 | k :: ks, H => match hget H k with
   | some .defd => shutA ks (hdel H k)
   | _ => none
def leaveF (P : Program) (fn : Func) (args : List Value) (k : Nat) (st : St) : R :=
 match shutA st.marks st.H with
 | none => none
 | some H => match resultsA P st.fr H fn.results.toList with
   | some vs => match af (one vs) && args.all dropOk with
     | true => some (one vs, dropNew k H, st.n)
     | false => some (one vs, H, st.n)
   | none => none
def bodyF (P : Program) (r : Rec) (fn : Func) (c : Code) (args : List Value) (H : Heap) (k : Nat) : R :=
 match r.code none c { fr := argsFr args 0, sz := fn.ntmps, H, n := k, marks := [], vs := varsF fn c } with
 | some (.normal, st) => leaveF P fn args k st
 | some (.ret, st) => leaveF P fn args k st
 | _ => none
def callF (P : Program) (O : Oracle) (r : Rec) (f : FuncId) (args : List Value) (H : Heap) (k : Nat) : R :=
 match O f args H k with
 | some x => some x
 | none => match P.funcs[f]? with
   | none => none
   | some fn => match fn.body with
     | none => externF P f args H k
     | some c => match enterable P f && args.length ≤ fn.ntmps with
       | true => bodyF P r fn c args H k
       | false => none
def ev (P : Program) (O : Oracle) : Nat → Rec
 | 0 => ⟨fun _ _ _ => none, fun _ _ _ _ => none⟩
 | n + 1 => ⟨codeF P (ev P O n), callF P O (ev P O n)⟩
end Go.Ab

namespace Go.Ab
open Go

structure Vl where
 loc : Nat → Nat
 cap : Nat → Nat
mutual
def den (φ : Vl) : Value → Value
 | .bool b => .bool b
 | .int k n => .int k n
 | .float k b => .float k b
 | .complex k a b => .complex k a b
 | .string s => .string s
 | .pointer none => .pointer none
 | .pointer (some a) => .pointer (some ⟨φ.loc a.block, a.off, none⟩)
 | .slice none l c => .slice none l c
 | .slice (some a) l c => match a.spot with
   | none => .slice (some ⟨φ.loc a.block, a.off, none⟩) l c
   | some j => .slice (some ⟨φ.loc a.block, if φ.cap a.block = c then a.off - j else a.off, if a.off < j then some (j - a.off - 1) else none⟩) l (φ.cap a.block - c)
 | .map none => .map none
 | .map (some r) => .map (some (φ.loc r))
 | .chan r => .chan r
 | .func (.yield l) a b => .func (.yield (φ.loc l)) (denL φ a.toList).toArray (denL φ b.toList).toArray
 | .func fn a b => .func fn (denL φ a.toList).toArray (denL φ b.toList).toArray
 | .nilFunc => .nilFunc
 | .iface t v => .iface t (den φ v)
 | .nilIface => .nilIface
 | .agg cs => .agg (denL φ cs.toList).toArray
 | .tuple vs => .tuple (denL φ vs.toList).toArray
def denL (φ : Vl) : List Value → List Value
 | [] => []
 | v :: vs => den φ v :: denL φ vs
end
/- every name in the value is one of p -/
mutual
def sc (p : Nat → Prop) : Value → Prop
 | .pointer (some a) => p a.block
 | .slice (some a) _ _ => p a.block
 | .map (some r) => p r
 | .func (.yield l) a b => p l ∧ scL p a.toList ∧ scL p b.toList
 | .func _ a b => scL p a.toList ∧ scL p b.toList
 | .iface _ v => sc p v
 | .agg cs => scL p cs.toList
 | .tuple vs => scL p vs.toList
 | _ => True
def scL (p : Nat → Prop) : List Value → Prop
 | [] => True
 | v :: vs => sc p v ∧ scL p vs
end
theorem denL_eq (φ : Vl) : ∀ vs, denL φ vs = vs.map (den φ)
 | [] => rfl
 | v :: vs => by simp [denL, denL_eq φ vs]
theorem scL_iff (p : Nat → Prop) : ∀ vs, scL p vs ↔ ∀ v ∈ vs, sc p v
 | [] => by simp [scL]
 | v :: vs => by simp [scL, scL_iff p vs]
@[simp] theorem denL_length (φ : Vl) (vs : List Value) : (denL φ vs).length = vs.length := by simp [denL_eq]
theorem denL_append (φ : Vl) (a b : List Value) : denL φ (a ++ b) = denL φ a ++ denL φ b := by simp [denL_eq]
theorem denL_get (φ : Vl) (vs : List Value) (i : Nat) : (denL φ vs)[i]? = (vs[i]?).map (den φ) := by simp [denL_eq]
def Agr (p : Nat → Prop) (φ ψ : Vl) : Prop := ∀ k, p k → ψ.loc k = φ.loc k ∧ ψ.cap k = φ.cap k
mutual
theorem den_congr {p : Nat → Prop} {φ ψ : Vl} (h : Agr p φ ψ) : ∀ v, sc p v → den ψ v = den φ v
 | .bool _, _ | .int _ _, _ | .float _ _, _ | .complex _ _ _, _ | .string _, _ | .nilFunc, _ | .nilIface, _ | .chan _, _ => by simp [den]
 | .pointer none, _ | .slice none _ _, _ | .map none, _ => by simp [den]
 | .pointer (some a), hs => by simp [den, (h _ hs).1]
 | .slice (some ⟨b, o, s⟩) l c, hs => by
   have h1 := h _ hs
   dsimp only at h1
   cases s <;> simp [den, h1]
 | .map (some r), hs => by simp [den, (h _ hs).1]
 | .func (.yield l) a b, hs => by
   simp only [sc] at hs
   simp only [den]
   rw [denL_congr h _ hs.2.1, denL_congr h _ hs.2.2, (h _ hs.1).1]
 | .func (.func f) a b, hs | .func (.method f) a b, hs | .func (.methodOf _ f) a b, hs | .func (.via _ _ f _) a b, hs => by
   simp only [sc] at hs
   simp only [den]
   rw [denL_congr h _ hs.1, denL_congr h _ hs.2]
 | .iface t v, hs => by simp only [den]; rw [den_congr h v hs]
 | .agg cs, hs => by simp only [den]; rw [denL_congr h _ hs]
 | .tuple cs, hs => by simp only [den]; rw [denL_congr h _ hs]
theorem denL_congr {p : Nat → Prop} {φ ψ : Vl} (h : Agr p φ ψ) : ∀ vs, scL p vs → denL ψ vs = denL φ vs
 | [], _ => rfl
 | v :: vs, hs => by simp only [denL]; rw [den_congr h v hs.1, denL_congr h vs hs.2]
end
mutual
theorem den_af (φ : Vl) : ∀ v, af v = true → den φ v = v
 | .bool _, _ | .int _ _, _ | .float _ _, _ | .complex _ _ _, _ | .string _, _ | .nilFunc, _ | .nilIface, _ | .chan _, _ => by simp [den]
 | .pointer none, _ | .slice none _ _, _ | .map none, _ => by simp [den]
 | .pointer (some a), hs | .slice (some _) _ _, hs | .map (some r), hs | .func (.yield l) a b, hs => by simp [af] at hs
 | .func (.func f) a b, hs | .func (.method f) a b, hs | .func (.methodOf _ f) a b, hs | .func (.via _ _ f _) a b, hs => by
   simp only [af, Bool.and_eq_true] at hs
   simp only [den]
   rw [denL_af φ _ hs.1, denL_af φ _ hs.2]
 | .iface t v, hs => by simp only [den]; rw [den_af φ v (by simpa [af] using hs)]
 | .agg cs, hs => by simp only [den]; rw [denL_af φ _ (by simpa [af] using hs)]
 | .tuple cs, hs => by simp only [den]; rw [denL_af φ _ (by simpa [af] using hs)]
theorem denL_af (φ : Vl) : ∀ vs, afL vs = true → denL φ vs = vs
 | [], _ => rfl
 | v :: vs, hs => by
   simp only [afL, Bool.and_eq_true] at hs
   simp only [denL]; rw [den_af φ v hs.1, denL_af φ vs hs.2]
end
mutual
theorem sc_af (p : Nat → Prop) : ∀ v, af v = true → sc p v
 | .bool _, _ | .int _ _, _ | .float _ _, _ | .complex _ _ _, _ | .string _, _ | .nilFunc, _ | .nilIface, _ | .chan _, _ => by simp [sc]
 | .pointer none, _ | .slice none _ _, _ | .map none, _ => by simp [sc]
 | .pointer (some a), hs | .slice (some _) _ _, hs | .map (some r), hs | .func (.yield l) a b, hs => by simp [af] at hs
 | .func (.func f) a b, hs | .func (.method f) a b, hs | .func (.methodOf _ f) a b, hs | .func (.via _ _ f _) a b, hs => by
   simp only [af, Bool.and_eq_true] at hs
   simp only [sc]
   exact ⟨scL_af p _ hs.1, scL_af p _ hs.2⟩
 | .iface t v, hs => by simp only [sc]; exact sc_af p v (by simpa [af] using hs)
 | .agg cs, hs => by simp only [sc]; exact scL_af p _ (by simpa [af] using hs)
 | .tuple cs, hs => by simp only [sc]; exact scL_af p _ (by simpa [af] using hs)
theorem scL_af (p : Nat → Prop) : ∀ vs, afL vs = true → scL p vs
 | [], _ => trivial
 | v :: vs, hs => by
   simp only [afL, Bool.and_eq_true] at hs
   exact ⟨sc_af p v hs.1, scL_af p vs hs.2⟩
end
mutual
theorem sc_mono {p q : Nat → Prop} (h : ∀ k, p k → q k) : ∀ v, sc p v → sc q v
 | .bool _, _ | .int _ _, _ | .float _ _, _ | .complex _ _ _, _ | .string _, _ | .nilFunc, _ | .nilIface, _ | .chan _, _ => by simp [sc]
 | .pointer none, _ | .slice none _ _, _ | .map none, _ => by simp [sc]
 | .pointer (some a), hs => h _ hs
 | .slice (some a) _ _, hs => h _ hs
 | .map (some r), hs => h _ hs
 | .func (.yield l) a b, hs => by
   simp only [sc] at hs ⊢
   exact ⟨h _ hs.1, scL_mono h _ hs.2.1, scL_mono h _ hs.2.2⟩
 | .func (.func f) a b, hs | .func (.method f) a b, hs | .func (.methodOf _ f) a b, hs | .func (.via _ _ f _) a b, hs => by
   simp only [sc] at hs ⊢
   exact ⟨scL_mono h _ hs.1, scL_mono h _ hs.2⟩
 | .iface t v, hs => sc_mono h v hs
 | .agg cs, hs => scL_mono h _ hs
 | .tuple cs, hs => scL_mono h _ hs
theorem scL_mono {p q : Nat → Prop} (h : ∀ k, p k → q k) : ∀ vs, scL p vs → scL q vs
 | [], _ => trivial
 | v :: vs, hs => ⟨sc_mono h v hs.1, scL_mono h vs hs.2⟩
end
theorem afq_eq : ∀ v, afq v = af v := by intro v; unfold afq; split <;> simp [af]
end Go.Ab

namespace Go.Ab
open Go

/-! ### lists with names -/
theorem beq_cases (k i : Nat) : (Nat.beq k i = true ∧ k = i) ∨ (Nat.beq k i = false ∧ k ≠ i) := by
 by_cases h : k = i
 · exact .inl ⟨Nat.beq_eq ▸ h, h⟩
 · refine .inr ⟨?_, h⟩
   cases hb : Nat.beq k i
   · rfl
   · exact absurd (Nat.eq_of_beq_eq_true hb) h
theorem ble_cases (k i : Nat) : (Nat.ble k i = true ∧ k ≤ i) ∨ (Nat.ble k i = false ∧ i < k) := by
 by_cases h : k ≤ i
 · exact .inl ⟨Nat.ble_eq ▸ h, h⟩
 · refine .inr ⟨?_, by omega⟩
   cases hb : Nat.ble k i
   · rfl
   · exact absurd (Nat.le_of_ble_eq_true hb) h
theorem blt_iff (k i : Nat) : Nat.blt k i = true ↔ k < i := by
 unfold Nat.blt
 rw [Nat.ble_eq]
 exact Iff.rfl
theorem lk_cons (k : Nat) (v : Value) (f : Fr) (i : Nat) : lk ((k, v) :: f) i = if k = i then some v else lk f i := by
 rcases beq_cases k i with ⟨h, h'⟩ | ⟨h, h'⟩ <;> simp [lk, h, h']
theorem hget_cons (k : Nat) (b : Blk) (H : Heap) (i : Nat) : hget ((k, b) :: H) i = if k = i then some b else hget H i := by
 rcases beq_cases k i with ⟨h, h'⟩ | ⟨h, h'⟩ <;> simp [hget, h, h']
theorem hget_hset (H : Heap) (k : Nat) (b : Blk) (i : Nat) : hget (hset H k b) i = if k = i then (hget H k).map (fun _ => b) else hget H i := by
 induction H with
 | nil => by_cases h : k = i <;> simp [hset, hget, h]
 | cons e H ih =>
   obtain ⟨j, x⟩ := e
   rcases beq_cases j k with ⟨h, h'⟩ | ⟨h, h'⟩
   · subst h'
     simp only [hset, h, hget_cons]
     by_cases hi : j = i <;> simp [hi]
   · simp only [hset, h, hget_cons, ih]
     by_cases hi : k = i
     · subst hi; simp [h']
     · simp [hi]
theorem hget_dropNew (H : Heap) (k i : Nat) : hget (dropNew k H) i = if i < k then hget H i else none := by
 induction H with
 | nil => simp [dropNew, hget]
 | cons e H ih =>
   obtain ⟨j, x⟩ := e
   rcases ble_cases k j with ⟨h, h'⟩ | ⟨h, h'⟩
   · simp only [dropNew, h, ih, hget_cons]
     by_cases hi : i < k
     · rw [if_pos hi, if_pos hi, if_neg (by omega)]
     · simp [hi]
   · simp only [dropNew, h, hget_cons, ih]
     by_cases hi : j = i
     · subst hi; simp [h']
     · simp [hi]

/-! ### what a block is in memory -/
def Blk.own : Blk → Bool
 | .inp _ _ => false
 | .row _ _ => false
 | .tab _ => false
 | _ => true
def scB (p : Nat → Prop) : Blk → Prop
 | .cells cs _ => scL p cs
 | .ext cs _ _ => scL p cs
 | .inp _ cs => scL p cs
 | .row cs _ => scL p cs
 | .tab cs => scL p cs
 | .map es _ => ∀ e ∈ es, sc p e.key ∧ sc p e.val
 | .iter _ _ => True
 | .miter m _ _ _ => ∀ r, m = some r → p r
 | .defd => True
 | .loop _ _ fr _ _ _ _ _ d => p d ∧ ∀ t v, lk fr t = some v → sc p v
theorem scB_mono {p q : Nat → Prop} (h : ∀ k, p k → q k) : ∀ b, scB p b → scB q b
 | .cells _ _, hs | .ext _ _ _, hs | .inp _ _, hs | .row _ _, hs | .tab _, hs => scL_mono h _ hs
 | .map _ _, hs => fun e he => ⟨sc_mono h _ (hs e he).1, sc_mono h _ (hs e he).2⟩
 | .iter _ _, _ | .defd, _ => trivial
 | .miter _ _ _ _, hs => fun r hr => h _ (hs r hr)
 | .loop _ _ _ _ _ _ _ _ _, hs => ⟨h _ hs.1, fun t v hv => sc_mono h _ (hs.2 t v hv)⟩
def FRel (φ : Vl) (fr : Fr) (sz : Nat) (tmps : Array Value) : Prop :=
 tmps.size = sz ∧ ∀ t v, lk fr t = some v → tmps[t]? = some (den φ v)
def denE (φ : Vl) (e : MapEntry) : MapEntry := { key := den φ e.key, val := den φ e.val, born := e.born }
def BRel (_P : Program) (φ : Vl) (k : Nat) : Blk → Option Obj → Prop
 | .cells cs t, o => o = some (.cells (denL φ cs).toArray t (0, 0))
 | .ext cs t sz, o => ∃ c, o = some (.cells c t (0, 0)) ∧ c.toList.take cs.length = denL φ cs ∧ c.size = φ.cap k * sz ∧ 0 < sz
 | .inp o0 cs, o => ∃ c t fz, o = some (.cells c t fz) ∧ ∀ i, i < cs.length → c[o0 + i]? = (denL φ cs)[i]?
 | .row cs sz, o => ∃ c t fz, o = some (.cells c t fz) ∧ c.toList.take cs.length = denL φ cs ∧ c.size = φ.cap k * sz ∧ 0 < sz
 | .tab cs, o => ∃ t fz, o = some (.cells (denL φ cs).toArray t fz)
 | .map es clock, o => o = some (.map (es.map (denE φ)).toArray clock)
 | .iter s pos, o => o = some (.stringIter s pos)
 | .miter m since seen last, o => o = some (.mapIter (m.map φ.loc) since seen.toArray last)
 | .defd, o => o = some (.deferred (some []))
 | .loop st pend fr sz _ ps a b d, o => ∃ fn tmps, o = some (.loop { state := st, pending := pend, fn, tmps, params := ps, assign := a, body := b, defers := φ.loc d }) ∧ FRel φ fr sz tmps
theorem FRel.congr {p : Nat → Prop} {φ ψ : Vl} {fr : Fr} {sz : Nat} {tmps : Array Value} (h : Agr p φ ψ) (hs : ∀ t v, lk fr t = some v → sc p v) (hf : FRel φ fr sz tmps) : FRel ψ fr sz tmps :=
 ⟨hf.1, fun t v hv => by rw [den_congr h v (hs t v hv)]; exact hf.2 t v hv⟩
theorem BRel.congr {P : Program} {p : Nat → Prop} {φ ψ : Vl} {k : Nat} (h : Agr p φ ψ) (hk : p k) : ∀ {b : Blk} {o : Option Obj}, scB p b → BRel P φ k b o → BRel P ψ k b o
 | .cells cs t, o, hs, hb => by simp only [BRel] at *; rw [denL_congr h _ hs]; exact hb
 | .ext cs t sz, o, hs, hb => by simp only [BRel] at *; rw [denL_congr h _ hs, (h k hk).2]; exact hb
 | .inp o0 cs, o, hs, hb => by simp only [BRel] at *; rw [denL_congr h _ hs]; exact hb
 | .row cs sz, o, hs, hb => by simp only [BRel] at *; rw [denL_congr h _ hs, (h k hk).2]; exact hb
 | .tab cs, o, hs, hb => by simp only [BRel] at *; rw [denL_congr h _ hs]; exact hb
 | .map es c, o, hs, hb => by
   simp only [BRel] at *
   rw [hb]
   congr 2
   congr 1
   exact List.map_congr_left fun e he => by simp only [denE]; rw [den_congr h _ (hs e he).1, den_congr h _ (hs e he).2]
 | .iter _ _, o, _, hb => hb
 | .miter none _ _ _, o, _, hb => hb
 | .miter (some m) _ _ _, o, hs, hb => by simp only [BRel, Option.map_some] at *; rw [(h m (hs m rfl)).1]; exact hb
 | .defd, o, _, hb => hb
 | .loop _ _ _ _ _ _ _ _ d, o, hs, hb => by
   obtain ⟨fn, tmps, ho, hf⟩ := hb
   exact ⟨fn, tmps, by rw [(h d hs.1).1]; exact ho, hf.congr h hs.2⟩
theorem BRel.some {P : Program} {φ : Vl} {k : Nat} : ∀ {b : Blk} {o : Option Obj}, BRel P φ k b o → ∃ x, o = some x
 | .cells _ _, _, hb | .map _ _, _, hb | .iter _ _, _, hb | .miter _ _ _ _, _, hb | .defd, _, hb => ⟨_, hb⟩
 | .ext _ _ _, _, ⟨_, h, _⟩ => ⟨_, h⟩
 | .inp _ _, _, ⟨_, _, _, h, _⟩ => ⟨_, h⟩
 | .row _ _, _, ⟨_, _, _, h, _⟩ => ⟨_, h⟩
 | .tab _, _, ⟨_, _, h⟩ => ⟨_, h⟩
 | .loop _ _ _ _ _ _ _ _ _, _, ⟨_, _, h, _⟩ => ⟨_, h⟩

abbrev Mp := Nat → Option Blk
structure HRel (P : Program) (φ : Vl) (M : Mp) (w : World) : Prop where
 blk : ∀ k b, M k = some b → BRel P φ k b w.heap[φ.loc k]?
 apart : ∀ k b k' b', M k = some b → M k' = some b' → k ≠ k' → b.own = true → φ.loc k ≠ φ.loc k'
 glob : ∀ g, g < P.globals.size → φ.loc g = g
def SM (p : Nat → Prop) (M : Mp) : Prop := ∀ k b, M k = some b → p k ∧ scB p b
theorem SM.mono {p q : Nat → Prop} {M : Mp} (h : ∀ k, p k → q k) (hs : SM p M) : SM q M := fun k b hb => ⟨h _ (hs k b hb).1, scB_mono h _ (hs k b hb).2⟩
theorem HRel.lt {P : Program} {φ : Vl} {M : Mp} {w : World} (h : HRel P φ M w) {k : Nat} {b : Blk} (hk : M k = some b) : φ.loc k < w.heap.size := by
 obtain ⟨x, hx⟩ := (h.blk k b hk).some
 exact (Array.getElem?_eq_some_iff.1 hx).1
theorem HRel.sub {P : Program} {φ : Vl} {M M' : Mp} {w : World} (h : HRel P φ M w) (hs : ∀ k b, M' k = some b → M k = some b) : HRel P φ M' w :=
 ⟨fun k b hb => h.blk k b (hs k b hb), fun k b k' b' h1 h2 => h.apart k b k' b' (hs _ _ h1) (hs _ _ h2), h.glob⟩
theorem HRel.congr {P : Program} {p : Nat → Prop} {φ ψ : Vl} {M : Mp} {w : World} (h : HRel P φ M w) (hs : SM p M) (ha : Agr p φ ψ) (hg : ∀ g, g < P.globals.size → ψ.loc g = g) : HRel P ψ M w :=
 ⟨fun k b hb => by rw [(ha k (hs k b hb).1).1]; exact (h.blk k b hb).congr ha (hs k b hb).1 (hs k b hb).2,
  fun k b k' b' h1 h2 hne ho => by rw [(ha k (hs k b h1).1).1, (ha k' (hs k' b' h2).1).1]; exact h.apart k b k' b' h1 h2 hne ho, hg⟩

structure Frm (φ : Vl) (M : Mp) (w w' : World) : Prop where
 os : w'.os = w.os
 tape : w'.tape = w.tape
 output : w'.output = w.output
 size : w.heap.size ≤ w'.heap.size
 keep : ∀ b, b < w.heap.size → (∀ k x, M k = some x → x.own = true → φ.loc k ≠ b) → w'.heap[b]? = w.heap[b]?
theorem Frm.refl (φ : Vl) (M : Mp) (w : World) : Frm φ M w w := ⟨rfl, rfl, rfl, Nat.le_refl _, fun _ _ _ => rfl⟩
structure Step (P : Program) (φ : Vl) (n : Nat) (M : Mp) (w : World) (φ' : Vl) (n' : Nat) (M' : Mp) (w' : World) : Prop where
 le : n ≤ n'
 only : ∀ k, (k < n ∨ n' ≤ k) → φ'.loc k = φ.loc k ∧ φ'.cap k = φ.cap k
 rel : HRel P φ' M' w'
 new : ∀ k b, M' k = some b → b.own = true → w.heap.size ≤ φ'.loc k ∨ ∃ k0 b0, M k0 = some b0 ∧ b0.own = true ∧ φ.loc k0 = φ'.loc k
 inp : ∀ k b, M' k = some b → b.own = false → M k = some b
 frm : Frm φ M w w'
theorem Step.refl {P : Program} {φ : Vl} {n : Nat} {M : Mp} {w : World} (h : HRel P φ M w) : Step P φ n M w φ n M w :=
 ⟨Nat.le_refl _, fun _ _ => ⟨rfl, rfl⟩, h, fun k b hb ho => .inr ⟨k, b, hb, ho, rfl⟩, fun _ _ hb _ => hb, Frm.refl _ _ _⟩
theorem Step.trans {P : Program} {φ φ1 φ2 : Vl} {n n1 n2 : Nat} {M M1 M2 : Mp} {w w1 w2 : World} (h1 : Step P φ n M w φ1 n1 M1 w1) (h2 : Step P φ1 n1 M1 w1 φ2 n2 M2 w2) : Step P φ n M w φ2 n2 M2 w2 := by
 refine ⟨Nat.le_trans h1.le h2.le, fun k hk => ?_, h2.rel, fun k b hb ho => ?_, fun k b hb ho => h1.inp k b (h2.inp k b hb ho) ho, ?_⟩
 · have a := h1.only k (by have := h2.le; omega)
   have b := h2.only k (by have := h1.le; omega)
   exact ⟨b.1.trans a.1, b.2.trans a.2⟩
 · rcases h2.new k b hb ho with h | ⟨k0, b0, hk0, ho0, he⟩
   · exact .inl (Nat.le_trans h1.frm.size h)
   · rcases h1.new k0 b0 hk0 ho0 with h | ⟨k1, b1, hk1, ho1, he1⟩
     · exact .inl (he ▸ h)
     · exact .inr ⟨k1, b1, hk1, ho1, he1.trans he⟩
 · refine ⟨h2.frm.os.trans h1.frm.os, h2.frm.tape.trans h1.frm.tape, h2.frm.output.trans h1.frm.output, Nat.le_trans h1.frm.size h2.frm.size, fun b hb hk => ?_⟩
   rw [h2.frm.keep b (Nat.lt_of_lt_of_le hb h1.frm.size) (fun k x hx ho => ?_)]
   · exact h1.frm.keep b hb hk
   · rcases h1.new k x hx ho with h | ⟨k0, b0, hk0, ho0, he⟩
     · omega
     · exact he ▸ hk k0 b0 hk0 ho0
def Nx (p : Nat → Prop) (n n' : Nat) (k : Nat) : Prop := p k ∨ (n ≤ k ∧ k < n')
theorem Nx.of {p : Nat → Prop} {n n' k : Nat} (h : p k) : Nx p n n' k := .inl h
theorem Nx.trans {p : Nat → Prop} {n n1 n2 k : Nat} (h1 : n ≤ n1) (h2 : n1 ≤ n2) (h : Nx (Nx p n n1) n1 n2 k) : Nx p n n2 k := by
 rcases h with (h | h) | h
 · exact .inl h
 · exact .inr (by omega)
 · exact .inr (by omega)
theorem Nx.lt {p : Nat → Prop} {n n' k : Nat} (hp : ∀ k, p k → k < n) (hn : n ≤ n') (h : Nx p n n' k) : k < n' := by
 rcases h with h | h
 · exact Nat.lt_of_lt_of_le (hp k h) hn
 · exact h.2
theorem Step.agr {P : Program} {φ φ' : Vl} {n n' : Nat} {M M' : Mp} {w w' : World} (h : Step P φ n M w φ' n' M' w') {p : Nat → Prop} (hp : ∀ k, p k → k < n) : Agr p φ φ' :=
 fun k hk => h.only k (.inl (hp k hk))

/-! ### a new block -/
def Vl.at (φ : Vl) (n x c : Nat) : Vl := ⟨fun k => if k = n then x else φ.loc k, fun k => if k = n then c else φ.cap k⟩
theorem Vl.at_same (φ : Vl) (n x c : Nat) : (φ.at n x c).loc n = x ∧ (φ.at n x c).cap n = c := by simp [Vl.at]
theorem Vl.at_other (φ : Vl) {n x c k : Nat} (h : k ≠ n) : (φ.at n x c).loc k = φ.loc k ∧ (φ.at n x c).cap k = φ.cap k := by simp [Vl.at, h]
theorem agr_at {p : Nat → Prop} {φ : Vl} {n x c : Nat} (hp : ∀ k, p k → k < n) : Agr p φ (φ.at n x c) := fun k hk => Vl.at_other φ (by have := hp k hk; omega)
def addM (M : Mp) (n : Nat) (b : Blk) : Mp := fun k => if k = n then some b else M k
theorem hget_addM (H : Heap) (n : Nat) (b : Blk) : hget ((n, b) :: H) = addM (hget H) n b := by
 funext k; rw [hget_cons, addM]; by_cases h : n = k <;> simp [h, eq_comm]
theorem Step.alloc {P : Program} {p : Nat → Prop} {φ : Vl} {n : Nat} {M : Mp} {w : World} (h : HRel P φ M w) (hp : ∀ k, p k → k < n) (hn : P.globals.size ≤ n) (hs : SM p M) {b : Blk} {o : Obj} (hob : b.own = true) (c : Nat)
   (hb : BRel P (φ.at n w.heap.size c) n b (some o)) : Step P φ n M w (φ.at n w.heap.size c) (n + 1) (addM M n b) (w.alloc o) := by
 have hne : ∀ k b, M k = some b → k ≠ n := fun k b hk => by have := hp k (hs k b hk).1; omega
 have hloc : ∀ k b, M k = some b → φ.loc k < w.heap.size := fun k b hk => h.lt hk
 have hold : ∀ i, i < w.heap.size → (w.alloc o).heap[i]? = w.heap[i]? := fun i hi => by
   show (w.heap.push o)[i]? = _
   rw [Array.getElem?_push, if_neg (by omega)]
 have hnew : (w.alloc o).heap[w.heap.size]? = some o := by
   show (w.heap.push o)[w.heap.size]? = _
   simp
 refine ⟨Nat.le_succ _, fun k hk => Vl.at_other φ (by omega), ⟨fun k x hx => ?_, fun k x k' x' h1 h2 hkk ho => ?_, fun g hg => ?_⟩, fun k x hx ho => ?_, fun k x hx ho => ?_, ⟨rfl, rfl, rfl, by simp, fun i hi _ => hold i hi⟩⟩
 · by_cases hk : k = n
   · subst hk
     simp only [addM, if_true] at hx
     injection hx with hx
     subst hx
     rw [(Vl.at_same φ k _ c).1, hnew]
     exact hb
   · simp only [addM, hk, if_false] at hx
     rw [(Vl.at_other φ hk).1, hold _ (hloc k x hx)]
     exact (h.blk k x hx).congr (agr_at hp) (hs k x hx).1 (hs k x hx).2
 · by_cases hk : k = n
   · subst hk
     have hk' : k' ≠ k := fun e => hkk e.symm
     simp only [addM, hk', if_false] at h2
     rw [(Vl.at_same φ k _ c).1, (Vl.at_other φ hk').1]
     have := hloc k' x' h2
     omega
   · simp only [addM, hk, if_false] at h1
     by_cases hk' : k' = n
     · subst hk'
       rw [(Vl.at_same φ k' _ c).1, (Vl.at_other φ hk).1]
       have := hloc k x h1
       omega
     · simp only [addM, hk', if_false] at h2
       rw [(Vl.at_other φ hk).1, (Vl.at_other φ hk').1]
       exact h.apart k x k' x' h1 h2 hkk ho
 · rw [(Vl.at_other φ (by omega)).1]; exact h.glob g hg
 · by_cases hk : k = n
   · subst hk; exact .inl (by rw [(Vl.at_same φ k _ c).1]; omega)
   · simp only [addM, hk, if_false] at hx
     exact .inr ⟨k, x, hx, ho, (Vl.at_other φ hk).1.symm⟩
 · by_cases hk : k = n
   · subst hk
     simp only [addM, if_true] at hx
     injection hx with hx
     subst hx
     rw [hob] at ho; cases ho
   · simpa [addM, hk] using hx

theorem Step.weaken {P : Program} {φ φ' : Vl} {n n' : Nat} {M M0 M' : Mp} {w w' : World} (hs : ∀ k b, M0 k = some b → M k = some b) (h : Step P φ n M0 w φ' n' M' w') : Step P φ n M w φ' n' M' w' :=
 ⟨h.le, h.only, h.rel, fun k b hb ho => (h.new k b hb ho).imp id fun ⟨k0, b0, hk, ho0, he⟩ => ⟨k0, b0, hs _ _ hk, ho0, he⟩, fun k b hb ho => hs _ _ (h.inp k b hb ho),
  ⟨h.frm.os, h.frm.tape, h.frm.output, h.frm.size, fun b hb hk => h.frm.keep b hb fun k x hx ho => hk k x (hs _ _ hx) ho⟩⟩
theorem Step.sub {P : Program} {φ φ' : Vl} {n n' : Nat} {M M' M1 : Mp} {w w' : World} (h : Step P φ n M w φ' n' M' w') (hs : ∀ k b, M1 k = some b → M' k = some b) : Step P φ n M w φ' n' M1 w' :=
 ⟨h.le, h.only, h.rel.sub hs, fun k b hb ho => h.new k b (hs _ _ hb) ho, fun k b hb ho => h.inp k b (hs _ _ hb) ho, h.frm⟩
def setM (M : Mp) (k : Nat) (b : Blk) : Mp := fun j => if j = k then some b else M j
theorem Step.put {P : Program} {φ : Vl} {n : Nat} {M : Mp} {w w' : World} (h : HRel P φ M w) {k : Nat} {b0 b : Blk} (hk : M k = some b0) (ho : b0.own = true) (ho' : b.own = true)
   (e1 : w'.os = w.os) (e2 : w'.tape = w.tape) (e3 : w'.output = w.output) (e4 : w'.heap.size = w.heap.size) (hoth : ∀ i, i ≠ φ.loc k → w'.heap[i]? = w.heap[i]?)
   (hb : BRel P φ k b w'.heap[φ.loc k]?) : Step P φ n M w φ n (setM M k b) w' := by
 refine ⟨Nat.le_refl _, fun _ _ => ⟨rfl, rfl⟩, ⟨fun j x hx => ?_, fun j x j' x' h1 h2 hne ho1 => ?_, h.glob⟩, fun j x hx ho1 => ?_, fun j x hx ho1 => ?_, ⟨e1, e2, e3, by omega, fun i hi hf => hoth i fun e => hf k b0 hk ho e.symm⟩⟩
 · by_cases hj : j = k
   · subst hj; simp only [setM, if_true] at hx; injection hx with hx; subst hx; exact hb
   · simp only [setM, hj, if_false] at hx
     rw [hoth _ (fun e => h.apart k b0 j x hk hx (fun e => hj e.symm) ho e.symm)]
     exact h.blk j x hx
 · by_cases hj : j = k
   · subst hj
     have hj' : j' ≠ j := fun e => hne e.symm
     simp only [setM, hj', if_false] at h2
     exact h.apart j b0 j' x' hk h2 hne ho
   · simp only [setM, hj, if_false] at h1
     by_cases hj' : j' = k
     · subst hj'; exact h.apart j x j' b0 h1 hk hne ho1
     · simp only [setM, hj', if_false] at h2
       exact h.apart j x j' x' h1 h2 hne ho1
 · by_cases hj : j = k
   · subst hj; exact .inr ⟨j, b0, hk, ho, rfl⟩
   · simp only [setM, hj, if_false] at hx; exact .inr ⟨j, x, hx, ho1, rfl⟩
 · by_cases hj : j = k
   · subst hj; simp only [setM, if_true] at hx; injection hx with hx; subst hx; rw [ho'] at ho1; cases ho1
   · simpa [setM, hj] using hx
theorem Step.move {P : Program} {p : Nat → Prop} {φ : Vl} {n : Nat} {M : Mp} {w w' : World} (h : HRel P φ M w) (hp : ∀ k, p k → k < n) (hn : P.globals.size ≤ n) (hs : SM p M) {k : Nat} {b0 b : Blk} (hk : M k = some b0) (ho : b0.own = true) (ho' : b.own = true)
   (e1 : w'.os = w.os) (e2 : w'.tape = w.tape) (e3 : w'.output = w.output) (e4 : w'.heap.size = w.heap.size) (hoth : ∀ i, i ≠ φ.loc k → w'.heap[i]? = w.heap[i]?)
   (hb : BRel P (φ.at n (φ.loc k) (φ.cap k)) n b w'.heap[φ.loc k]?) : Step P φ n M w (φ.at n (φ.loc k) (φ.cap k)) (n + 1) (addM (fun j => if j = k then none else M j) n b) w' := by
 have hne : ∀ k b, M k = some b → k ≠ n := fun k b hk => by have := hp k (hs k b hk).1; omega
 refine ⟨Nat.le_succ _, fun j hj => Vl.at_other φ (by omega), ⟨fun j x hx => ?_, fun j x j' x' h1 h2 hne1 ho1 => ?_, fun g hg => ?_⟩, fun j x hx ho1 => ?_, fun j x hx ho1 => ?_, ⟨e1, e2, e3, by omega, fun i hi hf => hoth i fun e => hf k b0 hk ho e.symm⟩⟩
 · by_cases hj : j = n
   · subst hj; simp only [addM, if_true] at hx; injection hx with hx; subst hx; rw [(Vl.at_same φ j _ _).1]; exact hb
   · simp only [addM, hj, if_false] at hx
     by_cases hjk : j = k
     · simp [hjk] at hx
     · simp only [hjk, if_false] at hx
       rw [(Vl.at_other φ hj).1, hoth _ (fun e => h.apart k b0 j x hk hx (fun e => hjk e.symm) ho e.symm)]
       exact (h.blk j x hx).congr (agr_at hp) (hs j x hx).1 (hs j x hx).2
 · by_cases hj : j = n
   · subst hj
     have hj' : j' ≠ j := fun e => hne1 e.symm
     simp only [addM, hj', if_false] at h2
     by_cases hjk : j' = k
     · simp [hjk] at h2
     · simp only [hjk, if_false] at h2
       rw [(Vl.at_same φ j _ _).1, (Vl.at_other φ hj').1]
       exact h.apart k b0 j' x' hk h2 (fun e => hjk e.symm) ho
   · simp only [addM, hj, if_false] at h1
     by_cases hjk : j = k
     · simp [hjk] at h1
     · simp only [hjk, if_false] at h1
       by_cases hj' : j' = n
       · subst hj'
         rw [(Vl.at_same φ j' _ _).1, (Vl.at_other φ hj).1]
         exact h.apart j x k b0 h1 hk hjk ho1
       · simp only [addM, hj', if_false] at h2
         by_cases hjk' : j' = k
         · simp [hjk'] at h2
         · simp only [hjk', if_false] at h2
           rw [(Vl.at_other φ hj).1, (Vl.at_other φ hj').1]
           exact h.apart j x j' x' h1 h2 hne1 ho1
 · rw [(Vl.at_other φ (by omega)).1]; exact h.glob g hg
 · by_cases hj : j = n
   · subst hj; exact .inr ⟨k, b0, hk, ho, by rw [(Vl.at_same φ j _ _).1]⟩
   · simp only [addM, hj, if_false] at hx
     by_cases hjk : j = k
     · simp [hjk] at hx
     · simp only [hjk, if_false] at hx
       exact .inr ⟨j, x, hx, ho1, (Vl.at_other φ hj).1.symm⟩
 · by_cases hj : j = n
   · subst hj; simp only [addM, if_true] at hx; injection hx with hx; subst hx; rw [ho'] at ho1; cases ho1
   · simp only [addM, hj, if_false] at hx
     by_cases hjk : j = k
     · simp [hjk] at hx
     · simpa [hjk] using hx
theorem HRel.drew {P : Program} {φ : Vl} {M : Mp} {w : World} (h : HRel P φ M w) : HRel P φ M w.drew := ⟨h.blk, h.apart, h.glob⟩
theorem Step.drew {P : Program} {φ : Vl} {n : Nat} {M : Mp} {w : World} (h : HRel P φ M w) : Step P φ n M w φ n M w.drew :=
 ⟨Nat.le_refl _, fun _ _ => ⟨rfl, rfl⟩, h.drew, fun k b hb ho => .inr ⟨k, b, hb, ho, rfl⟩, fun _ _ hb _ => hb, ⟨rfl, rfl, rfl, Nat.le_refl _, fun _ _ _ => rfl⟩⟩

/-! ### operands -/
def ARel (φ : Vl) (fr : Fr) (a : Act) : Prop := ∀ t v, lk fr t = some v → a.tmps[t]? = some (den φ v)
def SF (p : Nat → Prop) (fr : Fr) : Prop := ∀ t v, lk fr t = some v → sc p v
theorem evO_ok {P : Program} {p : Nat → Prop} {φ : Vl} {fr : Fr} {a : Act} {M : Mp} {w : World} (hr : HRel P φ M w) (hg : ∀ g, g < P.globals.size → p g) (ha : ARel φ fr a) (hf : SF p fr) {x : Operand} {v : Value} (h : evO P fr x = some v) :
   a.eval x = den φ v ∧ sc p v := by
 cases x with
 | tmp t =>
   simp only [evO] at h
   refine ⟨?_, hf t v h⟩
   simp [Act.eval, Array.getD_eq_getD_getElem?, ha t v h]
 | const c =>
   simp only [evO, afq_eq] at h
   split at h
   · rename_i hc
     injection h with h; subst h
     exact ⟨(den_af φ _ hc).symm, sc_af p _ hc⟩
   · cases h
 | global g =>
   simp only [evO] at h
   split at h
   · rename_i hc
     injection h with h; subst h
     have hg' := (blt_iff _ _).1 hc
     exact ⟨by simp [Act.eval, den, hr.glob g hg'], hg g hg'⟩
   · cases h
 | func f =>
   simp only [evO] at h
   injection h with h; subst h
   exact ⟨by simp [Act.eval, den, denL], by simp [sc, scL]⟩
theorem evOs_ok {P : Program} {p : Nat → Prop} {φ : Vl} {fr : Fr} {a : Act} {M : Mp} {w : World} (hr : HRel P φ M w) (hg : ∀ g, g < P.globals.size → p g) (ha : ARel φ fr a) (hf : SF p fr) : ∀ {xs : List Operand} {vs : List Value}, evOs P fr xs = some vs →
   xs.map a.eval = denL φ vs ∧ scL p vs
 | [], vs, h => by simp only [evOs] at h; injection h with h; subst h; exact ⟨rfl, trivial⟩
 | x :: xs, vs, h => by
   simp only [evOs] at h
   split at h
   · cases h
   · rename_i v hv
     split at h
     · cases h
     · rename_i us hus
       injection h with h; subst h
       have h1 := evO_ok hr hg ha hf hv
       have h2 := evOs_ok hr hg ha hf hus
       exact ⟨by simp [denL, h1.1, h2.1], h1.2, h2.2⟩
def denP (φ : Vl) (x : Nat × Value) : Nat × Value := (x.1, den φ x.2)
theorem evPs_ok {P : Program} {p : Nat → Prop} {φ : Vl} {fr : Fr} {a : Act} {M : Mp} {w : World} (hr : HRel P φ M w) (hg : ∀ g, g < P.globals.size → p g) (ha : ARel φ fr a) (hf : SF p fr) : ∀ {xs : List (Nat × Operand)} {vs : List (Nat × Value)}, evPs P fr xs = some vs →
   (xs.map fun (i, x) => (i, a.eval x)) = vs.map (denP φ) ∧ ∀ x ∈ vs, sc p x.2
 | [], vs, h => by simp only [evPs] at h; injection h with h; subst h; exact ⟨rfl, by simp⟩
 | (i, x) :: xs, vs, h => by
   simp only [evPs] at h
   split at h
   · cases h
   · rename_i v hv
     split at h
     · cases h
     · rename_i us hus
       injection h with h; subst h
       have h1 := evO_ok hr hg ha hf hv
       have h2 := evPs_ok hr hg ha hf hus
       refine ⟨by simp [denP, h1.1, h2.1], fun y hy => ?_⟩
       rcases List.mem_cons.1 hy with rfl | hy
       · exact h1.2
       · exact h2.2 y hy
theorem runP_ok {α : Type} {P : Program} {s : Sem α} {a : α} (w : World) (h : runP P s = some a) : s.run P w = .ok a w := by
 induction s with
 | pure x => simp only [runP] at h; injection h with h; subst h; rfl
 | program k ih => exact ih P h
 | mark m k ih => exact ih h
 | _ => simp [runP] at h
end Go.Ab
