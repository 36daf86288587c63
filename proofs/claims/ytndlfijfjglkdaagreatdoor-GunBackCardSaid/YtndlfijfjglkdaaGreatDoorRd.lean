/-
Contracts and plain reckonings behind the law GunTexts, part 4 of 6 (each under the conditions in its statement).
-/
import Derived.Shelf.Strings.Builder1
import Derived.Shelf.Strings.Builder2
import Derived.Shelf.Strings.OnBuilder
import Derived.Shelf.Small.Strs
import Derived.Shelf.Small.Wraps
import Derived.Shelf.Strconv.Atoi
import Derived.Shelf.Strconv.Itoa0
import Derived.Shelf.Strconv.Itoa1
import Derived.Shelf.LaysM
import Derived.Shelf.Strconv.Itoa2
import Derived.Shelf.Strconv.Itoa3
import Derived.Shelf.Strconv.AtoiErrFast
import Derived.Shelf.Strconv.ParseIntEmpty
import Derived.Shelf.Strconv.AtoiFail
import Derived.Shelf.Strconv.Clone
import Derived.Shelf.Strconv.SyntaxError
import Derived.Shelf.LaysC
import Derived.Shelf.Strconv.ToError
import Derived.Shelf.Strconv.Lower
import Derived.Shelf.Strconv.ParseUint10
import Derived.Shelf.Strconv.ParseUint10Empty
import Derived.Shelf.Strconv.ParseUint10Any
import Derived.Shelf.Strconv.ParseInt10
import Derived.Shelf.Strconv.AtoiLong
import Derived.Shelf.Strconv.AtoiInnerAll
import Derived.Shelf.Strconv.RangeError
import Derived.Shelf.Strconv.ToErrorRange
import Derived.Shelf.Strconv.AtoiAll
import Derived.Shelf.Strings.Search1
import Derived.Shelf.Strings.Search2
import Derived.Shelf.Strings.Search3
import Derived.Shelf.Strings.Count
import Derived.Shelf.Strings.Prefix
import Derived.Shelf.Strings.Split
import Derived.Test.YtndlfijfjglkdaaGreatDoorProg
import Derived.Lib.AppendIntMem
import Derived.Test.YtndlfijfjglkdaaGreatDoorRc
import Derived.Test.YtndlfijfjglkdaaGreatDoorAf
import Derived.Test.YtndlfijfjglkdaaGreatDoorRb
import Derived.Test.YtndlfijfjglkdaaGreatDoorKa
namespace Go.Proofs
open Go.Shelf
def Tryz.lays137_ren : Go.Shelf.Ren := ⟨fun | 137 => 223 | 217 => 265 | 266 => 283 | n => n, fun | 9 => 9 | 5 => 5 | 3 => 3 | n => n, fun | n => n⟩
theorem Tryz.lays137 : Go.Proofs.Lays.n137 Tryz.prog Tryz.lays137_ren := {
 mixed := by kernel_rfl
 f137 := Tryz.func223.trans (congrArg some (by kernel_rfl))
 f217 := Tryz.func265.trans (congrArg some (by kernel_rfl))
 f266 := Tryz.func283.trans (congrArg some (by kernel_rfl))
 t3 := Tryz.underlying3
 a3 := Tryz.isAgg3
 z3 := Tryz.sizeOf3
 v3 := Tryz.zeroValue3
 t5 := Tryz.underlying5
 a5 := Tryz.isAgg5
 z5 := Tryz.sizeOf5
 v5 := Tryz.zeroValue5
 t9 := Tryz.underlying9
 a9 := Tryz.isAgg9
 z9 := Tryz.sizeOf9
 v9 := Tryz.zeroValue9 }
open Go.RowKit in
theorem Tryz.strings_IndexByte (s : ByteArray) (c : Int) (w : World) :
   Calls Tryz.prog 223 #[.string s, .int .u8 c] w fun e w' => e = .returned (.int .i64 (Lib.indexByte s.data.toList c.toNat.toUInt8)) ∧ w' = w := Any.strings_IndexByte Tryz.lays137 s c w
def Tryz.lays104_ren : Go.Shelf.Ren := ⟨fun | 104 => 181 | 211 => 224 | 207 => 266 | n => n, fun | 9 => 9 | 4 => 4 | 24 => 251 | 3 => 3 | n => n, fun | n => n⟩
theorem Tryz.lays104 : Go.Proofs.Lays.n104 Tryz.prog Tryz.lays104_ren := {
 mixed := by kernel_rfl
 f104 := Tryz.func181.trans (congrArg some (by kernel_rfl))
 f207 := Tryz.func266.trans (congrArg some (by kernel_rfl))
 f211 := Tryz.func224.trans (congrArg some (by kernel_rfl))
 t3 := Tryz.underlying3
 a3 := Tryz.isAgg3
 z3 := Tryz.sizeOf3
 v3 := Tryz.zeroValue3
 t4 := Tryz.underlying4
 a4 := Tryz.isAgg4
 z4 := Tryz.sizeOf4
 v4 := Tryz.zeroValue4
 t9 := Tryz.underlying9
 a9 := Tryz.isAgg9
 z9 := Tryz.sizeOf9
 v9 := Tryz.zeroValue9
 t24 := Tryz.underlying251
 a24 := Tryz.isAgg251
 z24 := Tryz.sizeOf251
 v24 := Tryz.zeroValue251 }
open Go.RowKit in
theorem Tryz.strings_CutSuffix (s p : ByteArray) (w : World) (hs : s.size ≤ 9223372036854775807) :
   Calls Tryz.prog 181 #[.string s, .string p] w fun e w' => e = .returned (.tuple #[.string ⟨(Lib.trimSuffix s.data.toList p.data.toList).toArray⟩, .bool (Lib.hasSuffix s.data.toList p.data.toList)]) ∧ w' = w := Any.strings_CutSuffix Tryz.lays104 s p w hs
def Tryz.laysM171_ren : Go.Shelf.Ren := ⟨fun | 171 => 220 | 243 => 263 | 246 => 282 | 283 => 294 | 284 => 295 | 285 => 296 | 286 => 297 | 129 => 260 | 317 => 307 | 318 => 308 | 319 => 309 | 320 => 310 | 337 => 323 | 338 => 324 | n => n, fun | 3 => 3 | 9 => 9 | 2 => 2 | 4 => 4 | 171 => 359 | 0 => 0 | 53 => 330 | 37 => 84 | 5 => 5 | 173 => 361 | 212 => 368 | 51 => 328 | 20 => 20 | 213 => 369 | 46 => 286 | 232 => 387 | 233 => 388 | n => n, fun | 17 => 3 | 18 => 8 | 19 => 9 | n => n⟩
theorem Tryz.laysM171 : Go.Proofs.LaysM.n171 Tryz.prog Tryz.laysM171_ren := {
 mixed := by kernel_rfl
 f129 := Tryz.func260.trans (congrArg some (by kernel_rfl))
 f171 := Tryz.func220.trans (congrArg some (by kernel_rfl))
 f243 := Tryz.func263.trans (congrArg some (by kernel_rfl))
 f246 := Tryz.func282.trans (congrArg some (by kernel_rfl))
 f283 := Tryz.func294.trans (congrArg some (by kernel_rfl))
 f284 := Tryz.func295.trans (congrArg some (by kernel_rfl))
 f285 := Tryz.func296.trans (congrArg some (by kernel_rfl))
 f286 := Tryz.func297.trans (congrArg some (by kernel_rfl))
 f317 := Tryz.func307.trans (congrArg some (by kernel_rfl))
 f318 := Tryz.func308.trans (congrArg some (by kernel_rfl))
 f319 := Tryz.func309.trans (congrArg some (by kernel_rfl))
 f320 := Tryz.func310.trans (congrArg some (by kernel_rfl))
 f337 := Tryz.func323.trans (congrArg some (by kernel_rfl))
 f338 := Tryz.func324.trans (congrArg some (by kernel_rfl))
 t0 := Tryz.underlying0
 a0 := Tryz.isAgg0
 z0 := Tryz.sizeOf0
 v0 := Tryz.zeroValue0
 t2 := Tryz.underlying2
 a2 := Tryz.isAgg2
 z2 := Tryz.sizeOf2
 v2 := Tryz.zeroValue2
 t3 := Tryz.underlying3
 a3 := Tryz.isAgg3
 z3 := Tryz.sizeOf3
 v3 := Tryz.zeroValue3
 t4 := Tryz.underlying4
 a4 := Tryz.isAgg4
 z4 := Tryz.sizeOf4
 v4 := Tryz.zeroValue4
 t5 := Tryz.underlying5
 a5 := Tryz.isAgg5
 z5 := Tryz.sizeOf5
 v5 := Tryz.zeroValue5
 t9 := Tryz.underlying9
 a9 := Tryz.isAgg9
 z9 := Tryz.sizeOf9
 v9 := Tryz.zeroValue9
 t20 := Tryz.underlying20
 a20 := Tryz.isAgg20
 z20 := Tryz.sizeOf20
 v20 := Tryz.zeroValue20
 t37 := Tryz.underlying84
 a37 := Tryz.isAgg84
 z37 := Tryz.sizeOf84
 v37 := Tryz.zeroValue84
 t46 := Tryz.underlying286
 a46 := Tryz.isAgg286
 z46 := Tryz.sizeOf286
 v46 := Tryz.zeroValue286
 t51 := Tryz.underlying328
 a51 := Tryz.isAgg328
 z51 := Tryz.sizeOf328
 v51 := Tryz.zeroValue328
 t53 := Tryz.underlying330
 a53 := Tryz.isAgg330
 z53 := Tryz.sizeOf330
 v53 := Tryz.zeroValue330
 t171 := Tryz.underlying359
 a171 := Tryz.isAgg359
 z171 := Tryz.sizeOf359
 v171 := Tryz.zeroValue359
 t173 := Tryz.underlying361
 a173 := Tryz.isAgg361
 z173 := Tryz.sizeOf361
 v173 := Tryz.zeroValue361
 t212 := Tryz.underlying368
 a212 := Tryz.isAgg368
 z212 := Tryz.sizeOf368
 v212 := Tryz.zeroValue368
 t213 := Tryz.underlying369
 a213 := Tryz.isAgg369
 z213 := Tryz.sizeOf369
 t232 := Tryz.underlying387
 a232 := Tryz.isAgg387
 z232 := Tryz.sizeOf387
 v232 := Tryz.zeroValue387
 t233 := Tryz.underlying388
 a233 := Tryz.isAgg388
 z233 := Tryz.sizeOf388
 v233 := Tryz.zeroValue388
 g17 := by kernel_rfl
 g18 := by kernel_rfl
 g19 := by kernel_rfl
 i0 := by kernel_rfl
 i2 := by kernel_rfl
 i3 := by kernel_rfl
 i4 := by kernel_rfl
 i5 := by kernel_rfl
 i9 := by kernel_rfl
 i20 := by kernel_rfl
 i37 := by kernel_rfl
 i46 := by kernel_rfl
 i51 := by kernel_rfl
 i53 := by kernel_rfl
 i171 := by kernel_rfl
 i173 := by kernel_rfl
 i212 := by kernel_rfl
 i232 := by kernel_rfl
 i233 := by kernel_rfl
 m17 := by kernel_rfl
 m18 := by kernel_rfl
 m19 := by kernel_rfl }
open Go.RowKit Go.Sort Go.Lib in
theorem Tryz.strconv_Itoa (n : Int) (h0 : -9223372036854775808 ≤ n) (h1 : n ≤ 9223372036854775807) (w : World) (htab : Lib.TabIs Tryz.prog w "internal/strconv.uint64pow10" .u64 Lib.pow10Tab) :
   Calls Tryz.prog 220 #[.int .i64 n] w fun e w' => e = .returned (.string ⟨(Lib.itoa n).toArray⟩) ∧ ∃ k os, w' = grow (w.drewN k) os := Any.strconv_Itoa Tryz.laysM171 n h0 h1 w htab
def Tryz.laysC172_ren : Go.Shelf.Ren := ⟨fun | 172 => 287 | 244 => 302 | 245 => 303 | 247 => 315 | 279 => 316 | 280 => 317 | 281 => 318 | 282 => 319 | 287 => 326 | 316 => 327 | 171 => 220 | 205 => 328 | 321 => 329 | 322 => 330 | 243 => 263 | 246 => 282 | 283 => 294 | 284 => 295 | 285 => 296 | 286 => 297 | 129 => 260 | 317 => 307 | 318 => 308 | 319 => 309 | 320 => 310 | 337 => 323 | 338 => 324 | n => n, fun | 9 => 9 | 3 => 3 | 75 => 295 | 76 => 296 | 4 => 4 | 5 => 5 | 167 => 370 | 37 => 84 | 0 => 0 | 85 => 371 | 2 => 2 | 168 => 373 | 53 => 330 | 175 => 381 | 46 => 286 | 210 => 385 | 127 => 331 | 145 => 392 | 143 => 390 | 21 => 21 | 171 => 359 | 173 => 361 | 212 => 368 | 51 => 328 | 20 => 20 | 213 => 369 | 232 => 387 | 233 => 388 | 80 => 247 | n => n, fun | 15 => 6 | 16 => 7 | 17 => 3 | 18 => 8 | 19 => 9 | n => n⟩
theorem Tryz.laysC172 : Go.Proofs.LaysC.n172 Tryz.prog Tryz.laysC172_ren := {
 mixed := by kernel_rfl
 f129 := Tryz.func260.trans (congrArg some (by kernel_rfl))
 f171 := Tryz.func220.trans (congrArg some (by kernel_rfl))
 f172 := Tryz.func287.trans (congrArg some (by kernel_rfl))
 f205 := Tryz.func328.trans (congrArg some (by kernel_rfl))
 f243 := Tryz.func263.trans (congrArg some (by kernel_rfl))
 f244 := Tryz.func302.trans (congrArg some (by kernel_rfl))
 f245 := Tryz.func303.trans (congrArg some (by kernel_rfl))
 f246 := Tryz.func282.trans (congrArg some (by kernel_rfl))
 f247 := Tryz.func315.trans (congrArg some (by kernel_rfl))
 f279 := Tryz.func316.trans (congrArg some (by kernel_rfl))
 f280 := Tryz.func317.trans (congrArg some (by kernel_rfl))
 f281 := Tryz.func318.trans (congrArg some (by kernel_rfl))
 f282 := Tryz.func319.trans (congrArg some (by kernel_rfl))
 f283 := Tryz.func294.trans (congrArg some (by kernel_rfl))
 f284 := Tryz.func295.trans (congrArg some (by kernel_rfl))
 f285 := Tryz.func296.trans (congrArg some (by kernel_rfl))
 f286 := Tryz.func297.trans (congrArg some (by kernel_rfl))
 f287 := Tryz.func326.trans (congrArg some (by kernel_rfl))
 f316 := Tryz.func327.trans (congrArg some (by kernel_rfl))
 f317 := Tryz.func307.trans (congrArg some (by kernel_rfl))
 f318 := Tryz.func308.trans (congrArg some (by kernel_rfl))
 f319 := Tryz.func309.trans (congrArg some (by kernel_rfl))
 f320 := Tryz.func310.trans (congrArg some (by kernel_rfl))
 f321 := Tryz.func329.trans (congrArg some (by kernel_rfl))
 f322 := Tryz.func330.trans (congrArg some (by kernel_rfl))
 f337 := Tryz.func323.trans (congrArg some (by kernel_rfl))
 f338 := Tryz.func324.trans (congrArg some (by kernel_rfl))
 t0 := Tryz.underlying0
 a0 := Tryz.isAgg0
 z0 := Tryz.sizeOf0
 v0 := Tryz.zeroValue0
 t2 := Tryz.underlying2
 a2 := Tryz.isAgg2
 z2 := Tryz.sizeOf2
 v2 := Tryz.zeroValue2
 t3 := Tryz.underlying3
 a3 := Tryz.isAgg3
 z3 := Tryz.sizeOf3
 v3 := Tryz.zeroValue3
 t4 := Tryz.underlying4
 a4 := Tryz.isAgg4
 z4 := Tryz.sizeOf4
 v4 := Tryz.zeroValue4
 t5 := Tryz.underlying5
 a5 := Tryz.isAgg5
 z5 := Tryz.sizeOf5
 v5 := Tryz.zeroValue5
 t9 := Tryz.underlying9
 a9 := Tryz.isAgg9
 z9 := Tryz.sizeOf9
 v9 := Tryz.zeroValue9
 t20 := Tryz.underlying20
 a20 := Tryz.isAgg20
 z20 := Tryz.sizeOf20
 v20 := Tryz.zeroValue20
 t21 := Tryz.underlying21
 a21 := Tryz.isAgg21
 z21 := Tryz.sizeOf21
 v21 := Tryz.zeroValue21
 t37 := Tryz.underlying84
 a37 := Tryz.isAgg84
 z37 := Tryz.sizeOf84
 v37 := Tryz.zeroValue84
 t46 := Tryz.underlying286
 a46 := Tryz.isAgg286
 z46 := Tryz.sizeOf286
 v46 := Tryz.zeroValue286
 t51 := Tryz.underlying328
 a51 := Tryz.isAgg328
 z51 := Tryz.sizeOf328
 v51 := Tryz.zeroValue328
 t53 := Tryz.underlying330
 a53 := Tryz.isAgg330
 z53 := Tryz.sizeOf330
 v53 := Tryz.zeroValue330
 t75 := Tryz.underlying295
 a75 := Tryz.isAgg295
 z75 := Tryz.sizeOf295
 v75 := Tryz.zeroValue295
 t76 := Tryz.underlying296
 a76 := Tryz.isAgg296
 z76 := Tryz.sizeOf296
 v76 := Tryz.zeroValue296
 t85 := Tryz.underlying371
 a85 := Tryz.isAgg371
 z85 := Tryz.sizeOf371
 v85 := Tryz.zeroValue371
 t127 := Tryz.underlying331
 a127 := Tryz.isAgg331
 z127 := Tryz.sizeOf331
 v127 := Tryz.zeroValue331
 t143 := Tryz.underlying390
 a143 := Tryz.isAgg390
 z143 := Tryz.sizeOf390
 v143 := Tryz.zeroValue390
 t145 := Tryz.underlying392
 a145 := Tryz.isAgg392
 z145 := Tryz.sizeOf392
 v145 := Tryz.zeroValue392
 t167 := Tryz.underlying370
 a167 := Tryz.isAgg370
 z167 := Tryz.sizeOf370
 v167 := Tryz.zeroValue370
 t168 := Tryz.underlying373
 a168 := Tryz.isAgg373
 z168 := Tryz.sizeOf373
 v168 := Tryz.zeroValue373
 t171 := Tryz.underlying359
 a171 := Tryz.isAgg359
 z171 := Tryz.sizeOf359
 v171 := Tryz.zeroValue359
 t173 := Tryz.underlying361
 a173 := Tryz.isAgg361
 z173 := Tryz.sizeOf361
 v173 := Tryz.zeroValue361
 t175 := Tryz.underlying381
 a175 := Tryz.isAgg381
 z175 := Tryz.sizeOf381
 v175 := Tryz.zeroValue381
 t210 := Tryz.underlying385
 a210 := Tryz.isAgg385
 z210 := Tryz.sizeOf385
 v210 := Tryz.zeroValue385
 t212 := Tryz.underlying368
 a212 := Tryz.isAgg368
 z212 := Tryz.sizeOf368
 v212 := Tryz.zeroValue368
 t213 := Tryz.underlying369
 a213 := Tryz.isAgg369
 z213 := Tryz.sizeOf369
 t232 := Tryz.underlying387
 a232 := Tryz.isAgg387
 z232 := Tryz.sizeOf387
 v232 := Tryz.zeroValue387
 t233 := Tryz.underlying388
 a233 := Tryz.isAgg388
 z233 := Tryz.sizeOf388
 v233 := Tryz.zeroValue388
 g15 := by kernel_rfl
 g16 := by kernel_rfl
 g17 := by kernel_rfl
 g18 := by kernel_rfl
 g19 := by kernel_rfl
 t80 := Tryz.underlying247
 a80 := Tryz.isAgg247
 z80 := Tryz.sizeOf247
 v80 := Tryz.zeroValue247
 i0 := by kernel_rfl
 i2 := by kernel_rfl
 i3 := by kernel_rfl
 i4 := by kernel_rfl
 i5 := by kernel_rfl
 i9 := by kernel_rfl
 i20 := by kernel_rfl
 i21 := by kernel_rfl
 i37 := by kernel_rfl
 i46 := by kernel_rfl
 i51 := by kernel_rfl
 i53 := by kernel_rfl
 i75 := by kernel_rfl
 i76 := by kernel_rfl
 i80 := by kernel_rfl
 i85 := by kernel_rfl
 i127 := by kernel_rfl
 i143 := by kernel_rfl
 i145 := by kernel_rfl
 i167 := by kernel_rfl
 i168 := by kernel_rfl
 i171 := by kernel_rfl
 i173 := by kernel_rfl
 i175 := by kernel_rfl
 i210 := by kernel_rfl
 i212 := by kernel_rfl
 i232 := by kernel_rfl
 i233 := by kernel_rfl
 m15 := by kernel_rfl
 m16 := by kernel_rfl
 m17 := by kernel_rfl
 m18 := by kernel_rfl
 m19 := by kernel_rfl
 c0 := by kernel_rfl
 c2 := by kernel_rfl
 c3 := by kernel_rfl
 c4 := by kernel_rfl
 c5 := by kernel_rfl
 c9 := by kernel_rfl
 c20 := by kernel_rfl
 c21 := by kernel_rfl
 c37 := by kernel_rfl
 c46 := by kernel_rfl
 c51 := by kernel_rfl
 c53 := by kernel_rfl
 c75 := by kernel_rfl
 c76 := by kernel_rfl
 c80 := by kernel_rfl
 c85 := by kernel_rfl
 c127 := by kernel_rfl
 c143 := by kernel_rfl
 c145 := by kernel_rfl
 c167 := by kernel_rfl
 c168 := by kernel_rfl
 c171 := by kernel_rfl
 c173 := by kernel_rfl
 c175 := by kernel_rfl
 c210 := by kernel_rfl
 c212 := by kernel_rfl
 c213 := by kernel_rfl
 c232 := by kernel_rfl
 c233 := by kernel_rfl }
open Go.RowKit in
theorem Tryz.strconv_Atoi_ok (s : ByteArray) (hmax : s.size ≤ 9223372036854775806) (v : Int) (h : Lib.atoiAll s.data.toList = .ok v) (w : World) :
   Calls Tryz.prog 287 #[.string s] w fun e w' => e = .returned (.tuple #[.int .i64 v, .nilIface]) ∧ (w' = w ∨ ∃ t, w' = Lib.bytesWorld w 5 t) := Any.strconv_Atoi_ok Tryz.laysC172 s hmax v h w
open Go.RowKit in
theorem Tryz.strconv_Atoi_syntax (s : ByteArray) (hlim : s.size ≤ 281474976710656) (h : Lib.atoiAll s.data.toList = Lib.NumEnd.syntax) (ev : Value) (w : World) (hv : w.cell? ⟨6, 0, none⟩ = some ev) (hev : ev = .nilIface ∨ ∃ te pe, ev = .iface te pe) :
   Calls Tryz.prog 287 #[.string s] w fun e w' => ∃ N, e = .returned (.tuple #[.int .i64 (0), .iface 373 (.pointer (some ⟨N, 0, none⟩))]) ∧ w.heap.size ≤ N ∧ w'.heap[N]? = some (.cells #[.string ⟨#[65, 116, 111, 105]⟩, .string s, ev] 385 (0, 0)) ∧ Below w.heap.size w w' := Any.strconv_Atoi_syntax Tryz.laysC172 s hlim h ev w hv hev
open Go.RowKit in
theorem Tryz.strconv_Atoi_range (s : ByteArray) (hlim : s.size ≤ 281474976710656) (h : Lib.atoiAll s.data.toList = .range) (ev : Value) (w : World) (hv : w.cell? ⟨7, 0, none⟩ = some ev) (hev : ev = .nilIface ∨ ∃ te pe, ev = .iface te pe) :
   Calls Tryz.prog 287 #[.string s] w fun e w' => ∃ N, e = .returned (.tuple #[.int .i64 (Lib.atoiSat s.data.toList), .iface 373 (.pointer (some ⟨N, 0, none⟩))]) ∧ w.heap.size ≤ N ∧ w'.heap[N]? = some (.cells #[.string ⟨#[65, 116, 111, 105]⟩, .string s, ev] 385 (0, 0)) ∧ Below w.heap.size w w' := Any.strconv_Atoi_range Tryz.laysC172 s hlim h ev w hv hev
def Tryz.lays143_ren : Go.Shelf.Ren := ⟨fun | 143 => 286 | 219 => 301 | 217 => 265 | 225 => 312 | 224 => 313 | 267 => 314 | 266 => 283 | 314 => 325 | n => n, fun | 9 => 9 | 3 => 3 | 4 => 4 | 5 => 5 | 46 => 286 | 146 => 335 | 51 => 328 | n => n, fun | 1 => 2 | n => n⟩
theorem Tryz.lays143 : Go.Proofs.Lays.n143 Tryz.prog Tryz.lays143_ren := {
 mixed := by kernel_rfl
 f143 := Tryz.func286.trans (congrArg some (by kernel_rfl))
 f217 := Tryz.func265.trans (congrArg some (by kernel_rfl))
 f219 := Tryz.func301.trans (congrArg some (by kernel_rfl))
 f224 := Tryz.func313.trans (congrArg some (by kernel_rfl))
 f225 := Tryz.func312.trans (congrArg some (by kernel_rfl))
 f266 := Tryz.func283.trans (congrArg some (by kernel_rfl))
 f267 := Tryz.func314.trans (congrArg some (by kernel_rfl))
 f314 := Tryz.func325.trans (congrArg some (by kernel_rfl))
 t3 := Tryz.underlying3
 a3 := Tryz.isAgg3
 z3 := Tryz.sizeOf3
 v3 := Tryz.zeroValue3
 t4 := Tryz.underlying4
 a4 := Tryz.isAgg4
 z4 := Tryz.sizeOf4
 v4 := Tryz.zeroValue4
 t5 := Tryz.underlying5
 a5 := Tryz.isAgg5
 z5 := Tryz.sizeOf5
 v5 := Tryz.zeroValue5
 t9 := Tryz.underlying9
 a9 := Tryz.isAgg9
 z9 := Tryz.sizeOf9
 v9 := Tryz.zeroValue9
 t46 := Tryz.underlying286
 a46 := Tryz.isAgg286
 z46 := Tryz.sizeOf286
 v46 := Tryz.zeroValue286
 t51 := Tryz.underlying328
 a51 := Tryz.isAgg328
 z51 := Tryz.sizeOf328
 v51 := Tryz.zeroValue328
 t146 := Tryz.underlying335
 a146 := Tryz.isAgg335
 z146 := Tryz.sizeOf335
 v146 := Tryz.zeroValue335
 g1 := by kernel_rfl }
open Go.RowKit Go.Lib in
theorem Tryz.strings_Index_one (s : ByteArray) (c : UInt8) (w : World) :
   Calls Tryz.prog 286 #[.string s, .string ⟨#[c]⟩] w fun e w' => e = .returned (.int .i64 (Lib.indexByte s.data.toList c)) ∧ w' = w := Any.strings_Index_one Tryz.lays143 s c w
def Tryz.lays138_ren : Go.Shelf.Ren := ⟨fun | 138 => 285 | 195 => 298 | 218 => 300 | 143 => 286 | 219 => 301 | 217 => 265 | 225 => 312 | 224 => 313 | 267 => 314 | 266 => 283 | 314 => 325 | n => n, fun | 9 => 9 | 3 => 3 | 4 => 4 | 5 => 5 | 0 => 0 | 46 => 286 | 146 => 335 | 51 => 328 | n => n, fun | 1 => 2 | n => n⟩
theorem Tryz.lays138 : Go.Proofs.Lays.n138 Tryz.prog Tryz.lays138_ren := {
 mixed := by kernel_rfl
 f138 := Tryz.func285.trans (congrArg some (by kernel_rfl))
 f143 := Tryz.func286.trans (congrArg some (by kernel_rfl))
 f195 := Tryz.func298.trans (congrArg some (by kernel_rfl))
 f217 := Tryz.func265.trans (congrArg some (by kernel_rfl))
 f218 := Tryz.func300.trans (congrArg some (by kernel_rfl))
 f219 := Tryz.func301.trans (congrArg some (by kernel_rfl))
 f224 := Tryz.func313.trans (congrArg some (by kernel_rfl))
 f225 := Tryz.func312.trans (congrArg some (by kernel_rfl))
 f266 := Tryz.func283.trans (congrArg some (by kernel_rfl))
 f267 := Tryz.func314.trans (congrArg some (by kernel_rfl))
 f314 := Tryz.func325.trans (congrArg some (by kernel_rfl))
 t0 := Tryz.underlying0
 a0 := Tryz.isAgg0
 z0 := Tryz.sizeOf0
 v0 := Tryz.zeroValue0
 t3 := Tryz.underlying3
 a3 := Tryz.isAgg3
 z3 := Tryz.sizeOf3
 v3 := Tryz.zeroValue3
 t4 := Tryz.underlying4
 a4 := Tryz.isAgg4
 z4 := Tryz.sizeOf4
 v4 := Tryz.zeroValue4
 t5 := Tryz.underlying5
 a5 := Tryz.isAgg5
 z5 := Tryz.sizeOf5
 v5 := Tryz.zeroValue5
 t9 := Tryz.underlying9
 a9 := Tryz.isAgg9
 z9 := Tryz.sizeOf9
 v9 := Tryz.zeroValue9
 t46 := Tryz.underlying286
 a46 := Tryz.isAgg286
 z46 := Tryz.sizeOf286
 v46 := Tryz.zeroValue286
 t51 := Tryz.underlying328
 a51 := Tryz.isAgg328
 z51 := Tryz.sizeOf328
 v51 := Tryz.zeroValue328
 t146 := Tryz.underlying335
 a146 := Tryz.isAgg335
 z146 := Tryz.sizeOf335
 v146 := Tryz.zeroValue335
 g1 := by kernel_rfl }
open Go.RowKit Go.Lib in
theorem Tryz.strings_Count_one (s : ByteArray) (c : UInt8) (w : World) :
   Calls Tryz.prog 285 #[.string s, .string ⟨#[c]⟩] w fun e w' => e = .returned (.int .i64 (Lib.countByte s.data.toList c)) ∧ w' = w := Any.strings_Count_one Tryz.lays138 s c w
def Tryz.lays101_ren : Go.Shelf.Ren := ⟨fun | 101 => 288 | 208 => 304 | 206 => 320 | n => n, fun | 9 => 9 | 4 => 4 | 3 => 3 | n => n, fun | n => n⟩
theorem Tryz.lays101 : Go.Proofs.Lays.n101 Tryz.prog Tryz.lays101_ren := {
 mixed := by kernel_rfl
 f101 := Tryz.func288.trans (congrArg some (by kernel_rfl))
 f206 := Tryz.func320.trans (congrArg some (by kernel_rfl))
 f208 := Tryz.func304.trans (congrArg some (by kernel_rfl))
 t3 := Tryz.underlying3
 a3 := Tryz.isAgg3
 z3 := Tryz.sizeOf3
 v3 := Tryz.zeroValue3
 t4 := Tryz.underlying4
 a4 := Tryz.isAgg4
 z4 := Tryz.sizeOf4
 v4 := Tryz.zeroValue4
 t9 := Tryz.underlying9
 a9 := Tryz.isAgg9
 z9 := Tryz.sizeOf9
 v9 := Tryz.zeroValue9 }
open Go.RowKit Go.Lib in
theorem Tryz.strings_TrimPrefix (s p : ByteArray) (w : World) :
   Calls Tryz.prog 288 #[.string s, .string p] w fun e w' => e = .returned (.string ⟨(Lib.trimPrefix s.data.toList p.data.toList).toArray⟩) ∧ w' = w := Any.strings_TrimPrefix Tryz.lays101 s p w
def Tryz.lays221_ren : Go.Shelf.Ren := ⟨fun | 221 => 267 | 268 => 284 | 138 => 285 | 143 => 286 | 195 => 298 | 197 => 299 | 218 => 300 | 219 => 301 | 260 => 311 | 217 => 265 | 225 => 312 | 224 => 313 | 267 => 314 | 266 => 283 | 314 => 325 | n => n, fun | 9 => 9 | 3 => 3 | 31 => 102 | 4 => 4 | 0 => 0 | 105 => 363 | 21 => 21 | 5 => 5 | 46 => 286 | 119 => 376 | 139 => 379 | 138 => 378 | 146 => 335 | 51 => 328 | n => n, fun | 1 => 2 | 3 => 4 | 4 => 5 | n => n⟩
theorem Tryz.lays221 : Go.Proofs.Lays.n221 Tryz.prog Tryz.lays221_ren := {
 mixed := by kernel_rfl
 f138 := Tryz.func285.trans (congrArg some (by kernel_rfl))
 f143 := Tryz.func286.trans (congrArg some (by kernel_rfl))
 f195 := Tryz.func298.trans (congrArg some (by kernel_rfl))
 f197 := Tryz.func299.trans (congrArg some (by kernel_rfl))
 f217 := Tryz.func265.trans (congrArg some (by kernel_rfl))
 f218 := Tryz.func300.trans (congrArg some (by kernel_rfl))
 f219 := Tryz.func301.trans (congrArg some (by kernel_rfl))
 f221 := Tryz.func267.trans (congrArg some (by kernel_rfl))
 f224 := Tryz.func313.trans (congrArg some (by kernel_rfl))
 f225 := Tryz.func312.trans (congrArg some (by kernel_rfl))
 f260 := Tryz.func311.trans (congrArg some (by kernel_rfl))
 f266 := Tryz.func283.trans (congrArg some (by kernel_rfl))
 f267 := Tryz.func314.trans (congrArg some (by kernel_rfl))
 f268 := Tryz.func284.trans (congrArg some (by kernel_rfl))
 f314 := Tryz.func325.trans (congrArg some (by kernel_rfl))
 t0 := Tryz.underlying0
 a0 := Tryz.isAgg0
 z0 := Tryz.sizeOf0
 v0 := Tryz.zeroValue0
 t3 := Tryz.underlying3
 a3 := Tryz.isAgg3
 z3 := Tryz.sizeOf3
 v3 := Tryz.zeroValue3
 t4 := Tryz.underlying4
 a4 := Tryz.isAgg4
 z4 := Tryz.sizeOf4
 v4 := Tryz.zeroValue4
 t5 := Tryz.underlying5
 a5 := Tryz.isAgg5
 z5 := Tryz.sizeOf5
 v5 := Tryz.zeroValue5
 t9 := Tryz.underlying9
 a9 := Tryz.isAgg9
 z9 := Tryz.sizeOf9
 v9 := Tryz.zeroValue9
 t21 := Tryz.underlying21
 a21 := Tryz.isAgg21
 z21 := Tryz.sizeOf21
 v21 := Tryz.zeroValue21
 t31 := Tryz.underlying102
 a31 := Tryz.isAgg102
 z31 := Tryz.sizeOf102
 v31 := Tryz.zeroValue102
 t46 := Tryz.underlying286
 a46 := Tryz.isAgg286
 z46 := Tryz.sizeOf286
 v46 := Tryz.zeroValue286
 t51 := Tryz.underlying328
 a51 := Tryz.isAgg328
 z51 := Tryz.sizeOf328
 v51 := Tryz.zeroValue328
 t105 := Tryz.underlying363
 a105 := Tryz.isAgg363
 z105 := Tryz.sizeOf363
 v105 := Tryz.zeroValue363
 t119 := Tryz.underlying376
 a119 := Tryz.isAgg376
 z119 := Tryz.sizeOf376
 t138 := Tryz.underlying378
 a138 := Tryz.isAgg378
 z138 := Tryz.sizeOf378
 v138 := Tryz.zeroValue378
 t139 := Tryz.underlying379
 a139 := Tryz.isAgg379
 z139 := Tryz.sizeOf379
 v139 := Tryz.zeroValue379
 t146 := Tryz.underlying335
 a146 := Tryz.isAgg335
 z146 := Tryz.sizeOf335
 v146 := Tryz.zeroValue335
 g1 := by kernel_rfl
 g3 := by kernel_rfl
 g4 := by kernel_rfl }
end Go.Proofs

namespace Go.Ab
open Go Go.RowKit
theorem AC.of_err {P : Program} {f : FuncId} {args : List Value} {H : Heap} {n : Nat} {x : Int} {te : TypeId} (he : enterable P f = true)
   (h : ∀ p φ w, Base P p φ n (hget H) w [] act0 → scL p args → Calls P f (denL φ args).toArray w fun e w' => ∃ N, e = .returned (.tuple #[.int .i64 x, .iface te (.pointer (some ⟨N, 0, none⟩))]) ∧ Below w.heap.size w w') :
   AC P f args H n (.tuple #[.int .i64 x, .iface te (.pointer (some ⟨n, 0, none⟩))]) H (n + 1) := by
 intro p φ w hB hsc
 refine .inl ⟨enter_run he _ w, callsIn_wide.2 ((h p φ w hB hsc).mono fun e w' hh => ?_)⟩
 obtain ⟨N, h1, hb⟩ := hh
 have ha : Agr p φ (φ.at n N 0) := agr_at hB.lt
 refine ⟨φ.at n N 0, ?_, fun j x hx => ?_, ?_, ⟨Nat.le_succ _, fun k hk => Vl.at_other φ (by omega), ?_, fun k b hk ho => ?_, fun _ _ hk _ => hk, ⟨hb.os, hb.tape, hb.output, hb.size, fun i hi _ => hb.block i hi⟩⟩⟩
 · rw [h1]; simp [den, denL, Vl.at]
 · exact ⟨.inl (hB.sm j x hx).1, scB_mono (fun _ h => .inl h) _ (hB.sm j x hx).2⟩
 · exact ⟨trivial, .inr ⟨Nat.le_refl n, Nat.lt_succ_self n⟩, trivial⟩
 · exact (hB.rel.congr hB.sm ha fun g hg => by rw [(Vl.at_other φ (by have := hB.gn; omega)).1]; exact hB.rel.glob g hg).below hb
 · exact .inr ⟨k, b, hk, ho, (ha k (hB.sm k b hk).1).1.symm⟩
end Go.Ab
namespace Go.Proofs.YtndlfijfjglkdaaGreatDoor
open Go Go.Ab Go.Proofs Go.RowKit
theorem tab_pow : tab3 = Lib.pow10Tab.map (Value.int .u64) := by kernel_rfl
theorem tab_is {H : Heap} {n : Nat} {p : Nat → Prop} {φ : Vl} {w : World} (hB : Base Tryz.prog p φ n (hget H) w [] act0) (h : hget H 3 = some (.tab tab3)) : Lib.TabIs Tryz.prog w "internal/strconv.uint64pow10" .u64 Lib.pow10Tab := by
 have hb := hB.rel.blk 3 _ h
 obtain ⟨t, fz, hb⟩ := hb
 rw [hB.rel.glob 3 (by rw [gsz]; omega), denL_af _ _ af_tab3] at hb
 unfold Lib.TabIs World.var?
 rw [gTab3]
 simp only [Option.bind_some, hb]
 rw [tab_pow]
theorem err_is {H : Heap} {n g : Nat} {p : Nat → Prop} {φ : Vl} {w : World} (hB : Base Tryz.prog p φ n (hget H) w [] act0) (h : ErrOk H g) (hg : g < 10) : ∃ te pe, w.cell? ⟨g, 0, none⟩ = some (.iface te pe) := by
 obtain ⟨te, k, o, h⟩ := h
 have hb := hB.rel.blk g _ h
 obtain ⟨c, t, fz, hb, hc⟩ := hb
 rw [hB.rel.glob g (by rw [gsz]; omega)] at hb
 refine ⟨te, den φ (.pointer (some ⟨k, o, none⟩)), ?_⟩
 unfold World.cell?
 rw [hb]
 have := hc 0 (by simp)
 simpa [denL, den] using this
theorem lies_tab {H : Heap} {n : Nat} {p : Nat → Prop} {φ : Vl} {w : World} (hB : Base Tryz.prog p φ n (hget H) w [] act0) (h : hget H 3 = some (.tab tab3)) : Lies w 3 tab3 := by
 have hb := hB.rel.blk 3 _ h
 obtain ⟨t, fz, hb⟩ := hb
 rw [hB.rel.glob 3 (by rw [gsz]; omega), denL_af _ _ af_tab3] at hb
 exact ⟨_, t, fz, hb, fun i _ => by simp⟩
theorem lies_names {H : Heap} {n : Nat} {p : Nat → Prop} {φ : Vl} {w : World} (hB : Base Tryz.prog p φ n (hget H) w [] act0) (h : hget H 0 = some (.inp 0 names0)) : Lies w 0 names0 := by
 have hb := hB.rel.blk 0 _ h
 obtain ⟨c, t, fz, hb, hc⟩ := hb
 rw [hB.rel.glob 0 (by rw [gsz]; omega)] at hb
 refine ⟨c, t, fz, hb, fun i hi => ?_⟩
 have := hc i hi
 rwa [Nat.zero_add, denL_af _ _ af_names0] at this
open Classical in
noncomputable def g18T (args : List Value) (H : Heap) (n : Nat) : R := match args with
 | [] => if hget H 0 = some (.inp 0 names0) ∧ hget H 3 = some (.tab tab3) then some (.bool true, H, n) else none
 | _ => none
theorem g18T_at {H : Heap} {n : Nat} (h0 : hget H 0 = some (.inp 0 names0)) (h3 : hget H 3 = some (.tab tab3)) : g18T [] H n = some (.bool true, H, n) := by
 simp only [g18T]
 rw [if_pos ⟨h0, h3⟩]
theorem ok18T : EntOk Tryz.prog (18, g18T) := by
 intro args H n v H' n' hh
 simp only [g18T] at hh
 split at hh
 · split at hh
   · rename_i hc
     injection hh with hh; injection hh with e1 e2; injection e2 with e2 e3; subst e1 e2 e3
     exact AC.of_calls (by kernel_rfl) rfl fun p φ w hB _ => awakeCalls w (lies_names hB hc.1) (lies_tab hB hc.2)
   · cases hh
 · cases hh
theorem itoa_dz (m : Int) : Lib.itoa m = dz m := by
 unfold Lib.itoa
 by_cases h : m < 0
 · rw [if_pos h, dz_neg h, dd, show m.natAbs = (-m).toNat by omega]
 · rw [if_neg h, dz_pos (by omega)]
   rfl
theorem w220 {m : Int} (h0 : -9223372036854775808 ≤ m) (h1 : m ≤ 9223372036854775807) {H : Heap} {n : Nat} (h3 : hget H 3 = some (.tab tab3)) : AC Tryz.prog 220 [iv m] H n (sL (dz m)) H n := by
 refine AC.of_calls (by kernel_rfl) rfl fun p φ w hB _ => ?_
 refine (Tryz.strconv_Itoa m h0 h1 w (tab_is hB h3)).mono fun e w' hh => ?_
 obtain ⟨rfl, k, os, rfl⟩ := hh
 rw [itoa_dz]
 exact ⟨rfl, Lib.below_grow _ _ (Nat.le_refl _) _ _⟩
open Classical in
noncomputable def g220 (args : List Value) (H : Heap) (n : Nat) : R := match args with
 | [.int .i64 m] => if -9223372036854775808 ≤ m ∧ m ≤ 9223372036854775807 ∧ hget H 3 = some (.tab tab3) then some (sL (dz m), H, n) else none
 | _ => none
theorem ok220 : EntOk Tryz.prog (220, g220) := by
 intro args H n v H' n' hh
 simp only [g220] at hh
 split at hh
 · split at hh
   · rename_i hc
     injection hh with hh; injection hh with e1 e2; injection e2 with e2 e3; subst e1 e2 e3
     exact w220 hc.1 hc.2.1 hc.2.2
   · cases hh
 · cases hh
theorem w287g {s : List UInt8} {v : Int} (hs : s.length < 2147483648) (hv : Lib.atoiAll s = .ok v) {H : Heap} {n : Nat} : AC Tryz.prog 287 [sL s] H n (.tuple #[iv v, .nilIface]) H n := by
 refine AC.of_calls (by kernel_rfl) rfl fun p φ w hB _ => ?_
 refine (Tryz.strconv_Atoi_ok (bA s) (by rw [bA_size]; omega) v hv w).mono fun e w' hh => ?_
 obtain ⟨rfl, hw⟩ := hh
 refine ⟨rfl, ?_⟩
 rcases hw with rfl | ⟨t, rfl⟩
 · exact Below.refl _ _
 · exact Lib.bytesWorld_below _ _ _
theorem w287b {s : List UInt8} (hs : s.length < 2147483648) (hv : ∀ v, Lib.atoiAll s ≠ .ok v) {H : Heap} {n : Nat} (hL : LibOk H) : ∃ te, AC Tryz.prog 287 [sL s] H n (.tuple #[iv (itV s), .iface te (.pointer (some ⟨n, 0, none⟩))]) H (n + 1) := by
 have hsz : (bA s).size ≤ 281474976710656 := by rw [bA_size]; omega
 unfold itV
 cases h : Lib.atoiAll s with
 | ok v => exact absurd h (hv v)
 | range =>
   refine ⟨373, AC.of_err (by kernel_rfl) fun p φ w hB _ => ?_⟩
   obtain ⟨te, pe, hc⟩ := err_is hB hL.e7 (by omega)
   refine (Tryz.strconv_Atoi_range (bA s) hsz h (.iface te pe) w hc (.inr ⟨te, pe, rfl⟩)).mono fun e w' hh => ?_
   obtain ⟨N, h1, _, _, h2⟩ := hh
   exact ⟨N, h1, h2⟩
 | _ =>
   refine ⟨373, AC.of_err (by kernel_rfl) fun p φ w hB _ => ?_⟩
   obtain ⟨te, pe, hc⟩ := err_is hB hL.e6 (by omega)
   refine (Tryz.strconv_Atoi_syntax (bA s) hsz h (.iface te pe) w hc (.inr ⟨te, pe, rfl⟩)).mono fun e w' hh => ?_
   obtain ⟨N, h1, _, _, h2⟩ := hh
   exact ⟨N, h1, h2⟩
theorem w288 (s : List UInt8) {H : Heap} {n : Nat} : AC Tryz.prog 288 [sL s, sL [45]] H n (sL (Lib.trimPrefix s [45])) H n := by
 refine AC.of_calls (by kernel_rfl) rfl fun p φ w hB _ => ?_
 exact (Tryz.strings_TrimPrefix (bA s) (bA [45]) w).mono fun e w' hh => ⟨hh.1, hh.2 ▸ Below.refl _ _⟩
theorem eqNil {x : Operand} {H : Heap} {n : Nat} : binV Tryz.prog .eql 295 x (.const .nilIface) .nilIface .nilIface H n = some (.bool true, H, n) := by
 have h : runP Tryz.prog (do eqGuard .eql 295 x (.const .nilIface) .nilIface .nilIface; binOp .eql 295 .nilIface .nilIface) = some (.bool true) := by
   cases x <;> kernel_rfl
 unfold binV
 rw [show afq .nilIface = true from rfl]
 simp only [Bool.and_self, if_true]
 rw [h]
 rfl
theorem eqErr {x y : Operand} {H : Heap} {n te k : Nat} : binV Tryz.prog .eql 295 x y (.iface te (.pointer (some ⟨k, 0, none⟩))) .nilIface H n = some (.bool false, H, n) := by kernel_rfl
set_option maxRecDepth 20000 in
theorem w268 {s : List UInt8} (hs : s.length < 2147483648) {H : Heap} {n : Nat} (hL : LibOk H) : AC Tryz.prog 268 [sL s] H n (.tuple #[iv (itV s), .bool (itB s)]) H n := by
 have hr := recT_ok (P := Tryz.prog) (l := []) (by simp)
 by_cases hv : ∃ v, Lib.atoiAll s = .ok v
 · obtain ⟨v, hv⟩ := hv
   obtain ⟨hv0, hv1⟩ := Lib.atoiAll_bounds hv
   have e1 : itV s = v := by unfold itV; rw [hv]
   have e2 : itB s = (decide (dz v = s) && decide ((Lib.trimPrefix s [45]).length ≤ 9)) := by unfold itB; rw [hv]; simp only [itoa_dz]
   rw [e1, e2]
   let F : Oracle := fun f args H m => match f with
     | 287 => some (.tuple #[iv v, .nilIface], H, m)
     | 220 => some (sL (dz v), H, m)
     | 288 => some (sL (Lib.trimPrefix s [45]), H, m)
     | _ => none
   obtain ⟨q, hq, c1, c2, c3⟩ : ∃ q : Rec, RecOk Tryz.prog q 0 ∧ (q.call 287 [sL s] H n = some (.tuple #[iv v, .nilIface], H, n)) ∧ (q.call 220 [iv v] H n = some (sL (dz v), H, n)) ∧ (q.call 288 [sL s, sL [45]] H n = some (sL (Lib.trimPrefix s [45]), H, n)) :=
     ⟨recV Tryz.prog (fun _ _ _ => none) F, recV_ok, recV_call rfl (w287g hs hv), recV_call rfl (w220 hv0 hv1 hL.tab), recV_call rfl (w288 s)⟩
   obtain ⟨d, hd⟩ : ∃ d, decide (dz v = s) = d := ⟨_, rfl⟩
   have hd' : decide (bA (dz v) = bA s) = d := by rw [← hd, decide_eq_decide]; exact bA_inj
   obtain ⟨k, hk⟩ : ∃ k, (Lib.trimPrefix s [45]).length = k := ⟨_, rfl⟩
   rw [hd, hk]
   refine AC.pure Tryz.func268 rfl (by kernel_rfl) rfl [] rfl ?_
   refine E.seq ?_
   refine E.reg hr (by simp; rfl) ?_
   refine E.seq ?_
   refine E.reg hq (by simp [c1]; rfl) ?_
   refine E.seq ?_
   cases d with
   | false =>
     have hne : ¬ dz v = s := by simpa using hd
     refine E.reg hq (by simp [eqNil, c2, hne]; rfl) ?_
     refine E.ret ?_
     exact pureK.ret rfl rfl (by simp) (Sub.refl _)
   | true =>
     have he : dz v = s := by simpa using hd
     rw [he] at c2
     refine E.reg hq (by simp [eqNil, c2, c3, hk]; rfl) ?_
     refine E.ret ?_
     exact pureK.ret rfl rfl (by simp; omega) (Sub.refl _)
 · have hv' : ∀ v, Lib.atoiAll s ≠ .ok v := fun v h => hv ⟨v, h⟩
   obtain ⟨te, hA⟩ := w287b (n := n) hs hv' hL
   have e2 : itB s = false := by
     unfold itB
     split
     · rename_i v h; exact absurd h (hv' v)
     · rfl
   rw [e2]
   obtain ⟨q, hq, c1⟩ := call_of hA
   refine AC.pure Tryz.func268 rfl (by kernel_rfl) rfl [] rfl ?_
   refine E.seq ?_
   refine E.reg hr (by simp; rfl) ?_
   refine E.seq ?_
   refine E.reg hq (by simp [c1]; rfl) ?_
   refine E.seq ?_
   refine E.reg hr (by simp [eqErr, undefV]; rfl) ?_
   refine E.ret ?_
   exact pureK.ret rfl rfl (by simp) (Sub.refl _)
end Go.Proofs.YtndlfijfjglkdaaGreatDoor

namespace Go.Proofs.YtndlfijfjglkdaaGreatDoor
open Go Go.Ab Go.Proofs Go.RowKit
attribute [local simp] run_vcall_tmp vcallF target opNilcheck
theorem LibOk.taker {Z : Heap} {ws : List (List UInt8)} {x : Nat × Bool} (h : LibOk Z) : LibOk (HT ws x Z) := h.mono (by simp) (by simp) (by simp)
set_option maxRecDepth 100000 in
theorem w226 {Z : Heap} {N : Nat} (ws : List (List UInt8)) (x : Nat × Bool) (hwl : ∀ j, (wd ws j).length < 2147483648) (hL : LibOk Z) : AC Tryz.prog 226 [ptr14] (HT ws x Z) N (iv (tkN ws x).2) (HT ws (tkN ws x).1 Z) N := by
 have hr := recT_ok (P := Tryz.prog) (l := []) (by simp)
 obtain ⟨j, wr⟩ := x
 obtain ⟨X, hX⟩ : ∃ X, tkW ws (j, wr) = X := ⟨_, rfl⟩
 have hyl : X.2.length < 2147483648 := by
   rw [← hX]
   unfold tkW
   split
   · show ([] : List UInt8).length < _; simp
   · exact hwl _
 obtain ⟨⟨j1, w1⟩, y⟩ := X
 have h27 := w227 (Z := Z) (N := N) ws j wr
 rw [hX] at h27
 have e : tkN ws (j, wr) = ((j1, w1 || !itB y), itV y) := by unfold tkN; rw [hX]
 rw [e]
 have h68 := w268 (s := y) hyl (H := HT ws (j1, w1) Z) (n := N) hL.taker
 obtain ⟨z, hz⟩ : ∃ z, itV y = z := ⟨_, rfl⟩
 obtain ⟨b, hb⟩ : ∃ b, itB y = b := ⟨_, rfl⟩
 rw [hz, hb] at h68 ⊢
 let F : Oracle := fun f args H m => match f with
   | 227 => some (sL y, HT ws (j1, w1) Z, N)
   | 268 => some (.tuple #[iv z, .bool b], HT ws (j1, w1) Z, N)
   | _ => none
 obtain ⟨q, hq, c1, c2⟩ : ∃ q : Rec, RecOk Tryz.prog q 0 ∧ (q.call 227 [ptr14] (HT ws (j, wr) Z) N = some (sL y, HT ws (j1, w1) Z, N)) ∧ (q.call 268 [sL y] (HT ws (j1, w1) Z) N = some (.tuple #[iv z, .bool b], HT ws (j1, w1) Z, N)) :=
   ⟨recV Tryz.prog (fun _ _ _ => none) F, recV_ok, recV_call rfl h27, recV_call rfl h68⟩
 refine AC.body Tryz.func226 rfl (by kernel_rfl) rfl [] ?_
 refine E.seq ?_
 refine E.reg hr (by simp; rfl) ?_
 refine E.seq ?_
 refine E.reg hq (by simp [c1, c2]; rfl) ?_
 refine E.seq ?_
 cases w1 <;> cases b <;>
   (refine E.reg hr (by simp [undefV]; rfl) ?_
    refine E.seq ?_
    refine E.reg hr (by simp; rfl) ?_
    refine E.ret ?_
    exact ⟨.inr rfl, by simp [leaveF, shutA, resultsA, resultA, Tryz.results226, dropOk]⟩)
theorem beside15 {f : FuncId} {args : List Value} {ws : List (List UInt8)} {x y : Nat × Bool} {Z : Heap} {N : Nat} {v : Value} {B : Blk} (hZ : hget Z 15 = none) (h : AC Tryz.prog f args (HT ws x Z) N v (HT ws y Z) N) : AC Tryz.prog f args ((15, B) :: HT ws x Z) N v ((15, B) :: HT ws y Z) N := by
 have h0 : ∀ x : Nat × Bool, hget (HT ws x Z) 15 = none := fun x => by simp [hZ]
 refine h.frame (fun k b hk => ?_) fun k b hk => ?_
 · by_cases e : 15 = k
   · subst e; rw [h0] at hk; cases hk
   · rw [hget_cons, if_neg e]; exact hk
 · by_cases e : 15 = k
   · subst e
     refine .inr ⟨?_, h0 x⟩
     rw [hget_cons, if_pos rfl] at hk ⊢
     exact hk
   · rw [hget_cons, if_neg e] at hk; exact .inl hk
theorem w223 (s : List UInt8) {H : Heap} {n : Nat} : AC Tryz.prog 223 [sL s, .int .u8 10] H n (iv (Lib.indexByte s 10)) H n := by
 refine AC.of_calls (by kernel_rfl) rfl fun p φ w hB hsc => ?_
 exact (Tryz.strings_IndexByte (bA s) 10 w).mono fun e w' hh => ⟨hh.1, hh.2 ▸ Below.refl _ _⟩
def gIb (args : List Value) (H : Heap) (n : Nat) : R := match args with
 | [.string s, .int .u8 x] => if x = 10 then some (iv (Lib.indexByte s.data.toList 10), H, n) else none
 | _ => none
@[simp] theorem gIb_eq (s : List UInt8) (H : Heap) (n : Nat) : gIb [sL s, .int .u8 10] H n = some (iv (Lib.indexByte s 10), H, n) := by simp [gIb]
theorem ok223 : EntOk Tryz.prog (223, gIb) := by
 intro args H n v H' n' hh
 simp only [gIb] at hh
 split at hh
 · rename_i s x
   split at hh
   · rename_i hx
     subst hx
     injection hh with hh; injection hh with e1 e2; injection e2 with e2 e3; subst e1 e2 e3
     have := w223 s.data.toList (H := H) (n := n)
     rwa [show sL s.data.toList = .string s from congrArg Value.string (bA_data s)] at this
   · cases hh
 · cases hh
theorem hi9 : (Tryz.prog.info? 9).map (fun i => (i.zero, i.size, i.bytes)) = some (some (.string ByteArray.empty), 1, 16) := by kernel_rfl
theorem splitB_spl (s : List UInt8) (c : UInt8) : Lib.splitB (bA [c]) 0 (Lib.countB (bA s) (bA [c])) (bA s) = (spl c s).map bA := by
 have h := Lib.splitB_data (bA [c]) 0 (Lib.countB (bA s) (bA [c])) (bA s)
 have hk : Lib.countB (bA s) (bA [c]) = s.count c := Lib.count_one c s
 have h2 : Lib.splitK [c] 0 (s.count c) s = spl c s := splitK_byte c _ s rfl
 rw [hk] at h ⊢
 rw [← h2, show Lib.splitK [c] 0 (s.count c) s = _ from h.symm, List.map_map]
 conv => lhs; rw [← List.map_id (Lib.splitB (bA [c]) 0 (s.count c) (bA s))]
 exact List.map_congr_left fun x _ => (bA_data x).symm
theorem spl_count (c : UInt8) (s : List UInt8) : (spl c s).length = Lib.countB (bA s) (bA [c]) + 1 := by
 have := Lib.splitB_all (bA [c]) (by rw [bA_size]; simp) 0 _ (bA s) rfl
 rw [splitB_spl, List.length_map] at this
 exact this
theorem w267 (s : List UInt8) (c : UInt8) (hl : s.length < 2147483648) {H : Heap} {n : Nat} : AC Tryz.prog 267 [sL s, sL [c], iv 0, iv (-1)] H n (.slice (some ⟨n, 0, none⟩) (spl c s).length (spl c s).length) ((n, .cells (sls (spl c s)) 9) :: H) (n + 1) := by
 refine AC.of_new (by kernel_rfl) (afL_sls _) fun p φ w hB hsc => ?_
 have hle := Lib.countB_le (bA [c]) (by rw [bA_size]; simp) (bA s).size (bA s) (Nat.le_refl _)
 have hz : (bA s).size < 4294967281 := by rw [bA_size]; omega
 have core := Any.strings_genSplit_core Tryz.lays221 hi9 (bA s) (bA [c]) 0 (-1) (Lib.countB (bA s) (bA [c]) + 1) w hz (by rw [bA_size]; simp) (Nat.zero_le _)
   (fun x cs hx => by
     have := Tryz.strings_Index_one x c (w.alloc (.cells cs 9))
     rw [← Lib.index_one] at this
     exact this)
   (by
     have := Tryz.strings_Count_one (bA s) c w
     rw [show Lib.countByte (bA s).data.toList c = Lib.countB (bA s) (bA [c]) from (Lib.count_one c s).symm] at this
     exact this) (by decide) (by decide) (by rw [if_pos (by decide)]; omega)
 rw [Nat.add_sub_cancel, splitB_spl] at core
 refine core.mono fun e w' hh => ?_
 obtain ⟨h1, h2⟩ := hh
 have hc : Lib.cellsOf ((spl c s).map bA) (Lib.countB (bA s) (bA [c]) + 1) = (sls (spl c s)).toArray := by
   have := Lib.cellsOf_full ((spl c s).map bA)
   rw [List.length_map, spl_count, List.map_map] at this
   exact this
 rw [hc] at h2
 rw [List.length_map, ← spl_count] at h1
 exact ⟨h1, h2⟩
theorem w225 (s : List UInt8) (hl : s.length < 2147483648) {H : Heap} {n : Nat} : AC Tryz.prog 225 [sL s, sL [32]] H n (.slice (some ⟨n, 0, none⟩) (spl 32 s).length (spl 32 s).length) ((n, .cells (sls (spl 32 s)) 9) :: H) (n + 1) := by
 have hr := recT_ok (P := Tryz.prog) (l := []) (by simp)
 obtain ⟨q, hq, hc⟩ := call_of (w267 s 32 hl (H := H) (n := n))
 refine AC.body Tryz.func225 rfl (by kernel_rfl) rfl [] ?_
 refine E.seq ?_
 refine E.reg hr (by simp; rfl) ?_
 refine E.seq ?_
 refine E.reg hq (by simp [hc]; rfl) ?_
 refine E.ret ?_
 exact ⟨.inr rfl, by simp [leaveF, shutA, resultsA, resultA, Tryz.results225, dropOk]⟩
theorem spW_len (c : UInt8) (s : List UInt8) : (spW c s).length ≤ s.length := by
 have h : ∀ (k : Nat) (s : List UInt8), s.length ≤ k → (spW c s).length ≤ s.length := by
   intro k
   induction k with
   | zero =>
     intro s hs
     have : s = [] := List.length_eq_zero_iff.1 (by omega)
     subst this
     exact Nat.le_refl _
   | succ k ih =>
     intro s hs
     rcases first_cut c s with ⟨_, h2⟩ | ⟨a, r, h1, h2, _⟩
     · rw [(sp_miss h2).2]; omega
     · rw [h1, (sp_hit h2).2]
       have hl : s.length = a.length + (r.length + 1) := by rw [h1]; simp
       have := ih r (by omega)
       simp
       omega
 exact h s.length s (Nat.le_refl _)
theorem wd_len (s : List UInt8) (j : Nat) : (wd (spl 32 s) j).length ≤ s.length := by
 by_cases hj : j < (spl 32 s).length
 · have hm : wd (spl 32 s) j ∈ spl 32 s := List.mem_of_getElem? (wd_get hj)
   rcases List.mem_append.1 hm with h | h
   · have := spD_len 32 s _ h
     omega
   · rw [List.mem_singleton] at h
     rw [h]
     exact spW_len 32 s
 · have : wd (spl 32 s) j = [] := Classical.byContradiction fun h => hj (wd_lt h)
   rw [this]
   exact Nat.zero_le _
abbrev tupG (x : Gun × Bool) : Value := .tuple #[.agg ⟨x.1.cells⟩, .bool x.2]
abbrev GE (t6 t7 : Nat × Nat) : Heap := [(7, .inp 0 [.iface t7.1 (.pointer (some ⟨11, t7.2, none⟩))]), (6, .inp 0 [.iface t6.1 (.pointer (some ⟨10, t6.2, none⟩))]), (3, .tab tab3)]
theorem ge_lib (t6 t7 : Nat × Nat) : LibOk (GE t6 t7) := ⟨rfl, ⟨_, _, _, rfl⟩, _, _, _, rfl⟩
theorem build303 {fr : Fr} {H : Heap} {n b k : Nat} {x : Operand} (hx : evO Tryz.prog fr x = some (.slice (some ⟨b, 0, none⟩) k k)) : opBuild Tryz.prog 303 #[(0, x)] fr H n = some (.agg #[.slice (some ⟨b, 0, none⟩) k k, .bool false], H, n) := by
 unfold opBuild
 simp only [evPs, hx]
 kernel_rfl
abbrev zG : List Value := [.string ⟨#[]⟩, iv 0, iv 0, iv 0, iv 0, iv 0, iv 0]
theorem build95z {fr : Fr} {H : Heap} {n : Nat} : opBuild Tryz.prog 95 #[] fr H n = some (.agg ⟨zG⟩, H, n) := by kernel_rfl
abbrev Z12 (t6 t7 : Nat × Nat) : Heap := (12, .cells zG 95) :: GE t6 t7
theorem z12_lib (t6 t7 : Nat × Nat) : LibOk (Z12 t6 t7) := (ge_lib t6 t7).mono (by simp) (by simp) (by simp)
theorem slv_first {L : Nat} (h : 0 < L) : slv L 0 = .slice (some ⟨13, 0, none⟩) L L := by
 unfold slv
 rw [if_pos h, Nat.sub_zero]
set_option maxHeartbeats 16000000 in
set_option maxRecDepth 100000 in
theorem w182 (t6 t7 : Nat × Nat) (s : List UInt8) (hl : s.length < 2147483648) : AC Tryz.prog 182 [sL s] (GE t6 t7) 12 (tupG (prsG (spl 32 s))) (GE t6 t7) 12 := by
 have hr := recT_ok (P := Tryz.prog) (l := []) (by simp)
 have hwl : ∀ j, (wd (spl 32 s) j).length < 2147483648 := fun j => by have := wd_len s j; omega
 have hne := spl_ne 32 s
 have hsp := fun H n => w225 s hl (H := H) (n := n)
 obtain ⟨ws, hws⟩ : ∃ ws, spl 32 s = ws := ⟨_, rfl⟩
 rw [hws] at hwl hne hsp ⊢
 have hpos : 0 < ws.length := List.length_pos_iff.2 hne
 have hL := z12_lib t6 t7
 refine AC.pure Tryz.func182 rfl (by kernel_rfl) rfl [] rfl ?_
 refine E.seq ?_
 refine E.reg hr (by simp; rfl) ?_
 refine E.seq ?_
 obtain ⟨q0, hq0, c0⟩ := call_of (hsp (Z12 t6 t7) 13)
 refine E.reg hq0 (by simp [c0, build303 (b := 13) (k := ws.length)]; rfl) ?_
 refine E.seq ?_
 refine E.reg hr (by simp [opMakefunc]; rfl) ?_
 refine E.lead { fr := [(2, .pointer (some ⟨12, 0, none⟩)), (3, .bool false), (4, ptr14), (5, .func (.func 226) #[ptr14] #[])], sz := 56, H := HT ws (0, false) (Z12 t6 t7), n := 15, marks := [], vs := [] } (.less rfl rfl rfl (by simp) (by simp [slv_first hpos])) ?_
 refine E.seq ?_
 refine E.seq ?_
 have t0 := w227 (Z := Z12 t6 t7) (N := 15) ws 0 false
 have hp : prsG ws = if (tkW ws (0, false)).2 = gunW then (⟨bA (tkW ws (1, false)).2, vaN ws (tkW ws (1, false)).1 0, vaN ws (tkW ws (1, false)).1 1, vaN ws (tkW ws (1, false)).1 2, vaN ws (tkW ws (1, false)).1 3, vaN ws (tkW ws (1, false)).1 4, vaN ws (tkW ws (1, false)).1 5⟩, !(stN ws (tkW ws (1, false)).1 6).2 && decide (ws.length ≤ (stN ws (tkW ws (1, false)).1 6).1)) else (gunZ, false) := rfl
 obtain ⟨X, hX⟩ : ∃ X, tkW ws (0, false) = X := ⟨_, rfl⟩
 rw [hX] at t0 hp
 have hX1 : X.2 = gunW → X.1 = (1, false) := fun h => by
   by_cases e : wd ws 0 = []
   · rw [tkW_no e] at hX
     rw [← hX] at h
     exact absurd h (by decide)
   · rw [tkW_go e] at hX
     rw [← hX]
 obtain ⟨x0, y0⟩ := X
 dsimp only at t0 hp hX1
 obtain ⟨q1, hq1, c1⟩ := call_of t0
 by_cases hg : y0 = gunW
 case neg =>
   have hgb : ¬ y0 = [103, 117, 110] := hg
   rw [hp, if_neg hg]
   refine E.reg hq1 (by simp [c1, hgb]; rfl) ?_
   refine E.cond (t := true) (by simp) (fun _ => ?_) (fun h => by cases h)
   refine E.seq ?_
   refine E.reg hr (by simp [build95z]; rfl) ?_
   refine E.ret ?_
   exact pureK.ret rfl rfl (by simp; kernel_rfl) (by repeat first | exact sub_refl _ | refine sub_cons rfl ?_)
 rw [hp, if_pos hg]
 have hx0 := hX1 hg
 subst hx0
 subst hg
 refine E.reg hq1 (by simp [c1, gunW]; rfl) ?_
 refine E.cond (t := false) (by simp) (fun h => by cases h) (fun _ => ?_)
 refine E.skip ?_
 refine E.seq ?_
 refine E.reg hr (by simp; rfl) ?_
 refine E.lead { fr := [(2, .pointer (some ⟨12, 0, none⟩)), (3, .bool false), (4, ptr14), (5, .func (.func 226) #[ptr14] #[]), (6, .pointer (some ⟨15, 0, none⟩))], sz := 56, H := (15, .cells zG 95) :: HT ws (1, false) (Z12 t6 t7), n := 16, marks := [], vs := [] } (.less rfl rfl rfl (by simp) (by simp)) ?_
 refine E.seq ?_
 obtain ⟨Y, hY⟩ : ∃ Y, tkW ws (1, false) = Y := ⟨_, rfl⟩
 have t1 := beside15 (B := .cells zG 95) (by simp) (w227 (Z := Z12 t6 t7) (N := 16) ws 1 false)
 rw [hY] at t1 ⊢
 obtain ⟨x1, nm⟩ := Y
 dsimp only at t1 ⊢
 obtain ⟨q2, hq2, c2⟩ := call_of t1
 refine E.reg hq2 (by simp [c2]; rfl) ?_
 refine E.lead { fr := [(2, .pointer (some ⟨12, 0, none⟩)), (3, .bool false), (4, ptr14), (5, .func (.func 226) #[ptr14] #[]), (6, .pointer (some ⟨15, 0, none⟩))], sz := 56, H := (15, .cells [sL nm, iv 0, iv 0, iv 0, iv 0, iv 0, iv 0] 95) :: HT ws x1 (Z12 t6 t7), n := 16, marks := [], vs := [] } (.less rfl rfl rfl (by simp) (by simp)) ?_
 have s0 : stN ws x1 0 = x1 := rfl
 refine E.seq ?_
 have a0 := beside15 (B := .cells [sL nm, iv 0, iv 0, iv 0, iv 0, iv 0, iv 0] 95) (by simp) (w226 (Z := Z12 t6 t7) (N := 16) ws x1 hwl hL)
 have v0 : vaN ws x1 0 = (tkN ws x1).2 := by unfold vaN; rw [s0]
 have s1 : stN ws x1 1 = (tkN ws x1).1 := by show (tkN ws (stN ws x1 0)).1 = _; rw [s0]
 obtain ⟨K0, hK0⟩ : ∃ K, tkN ws x1 = K := ⟨_, rfl⟩
 rw [hK0] at a0 v0 s1
 obtain ⟨x2, z0⟩ := K0
 dsimp only at a0 v0 s1
 obtain ⟨p0, hp0, d0⟩ := call_of a0
 refine E.reg hp0 (by simp [d0]; rfl) ?_
 refine E.lead { fr := [(2, .pointer (some ⟨12, 0, none⟩)), (3, .bool false), (4, ptr14), (5, .func (.func 226) #[ptr14] #[]), (6, .pointer (some ⟨15, 0, none⟩))], sz := 56, H := (15, .cells [sL nm, iv z0, iv 0, iv 0, iv 0, iv 0, iv 0] 95) :: HT ws x2 (Z12 t6 t7), n := 16, marks := [], vs := [] } (.less rfl rfl rfl (by simp) (by simp)) ?_
 refine E.seq ?_
 have a1 := beside15 (B := .cells [sL nm, iv z0, iv 0, iv 0, iv 0, iv 0, iv 0] 95) (by simp) (w226 (Z := Z12 t6 t7) (N := 16) ws x2 hwl hL)
 have v1 : vaN ws x1 1 = (tkN ws x2).2 := by unfold vaN; rw [s1]
 have s2 : stN ws x1 2 = (tkN ws x2).1 := by show (tkN ws (stN ws x1 1)).1 = _; rw [s1]
 obtain ⟨K1, hK1⟩ : ∃ K, tkN ws x2 = K := ⟨_, rfl⟩
 rw [hK1] at a1 v1 s2
 obtain ⟨x3, z1⟩ := K1
 dsimp only at a1 v1 s2
 obtain ⟨p1, hp1, d1⟩ := call_of a1
 refine E.reg hp1 (by simp [d1]; rfl) ?_
 refine E.lead { fr := [(2, .pointer (some ⟨12, 0, none⟩)), (3, .bool false), (4, ptr14), (5, .func (.func 226) #[ptr14] #[]), (6, .pointer (some ⟨15, 0, none⟩))], sz := 56, H := (15, .cells [sL nm, iv z0, iv z1, iv 0, iv 0, iv 0, iv 0] 95) :: HT ws x3 (Z12 t6 t7), n := 16, marks := [], vs := [] } (.less rfl rfl rfl (by simp) (by simp)) ?_
 refine E.seq ?_
 have a2 := beside15 (B := .cells [sL nm, iv z0, iv z1, iv 0, iv 0, iv 0, iv 0] 95) (by simp) (w226 (Z := Z12 t6 t7) (N := 16) ws x3 hwl hL)
 have v2 : vaN ws x1 2 = (tkN ws x3).2 := by unfold vaN; rw [s2]
 have s3 : stN ws x1 3 = (tkN ws x3).1 := by show (tkN ws (stN ws x1 2)).1 = _; rw [s2]
 obtain ⟨K2, hK2⟩ : ∃ K, tkN ws x3 = K := ⟨_, rfl⟩
 rw [hK2] at a2 v2 s3
 obtain ⟨x4, z2⟩ := K2
 dsimp only at a2 v2 s3
 obtain ⟨p2, hp2, d2⟩ := call_of a2
 refine E.reg hp2 (by simp [d2]; rfl) ?_
 refine E.lead { fr := [(2, .pointer (some ⟨12, 0, none⟩)), (3, .bool false), (4, ptr14), (5, .func (.func 226) #[ptr14] #[]), (6, .pointer (some ⟨15, 0, none⟩))], sz := 56, H := (15, .cells [sL nm, iv z0, iv z1, iv z2, iv 0, iv 0, iv 0] 95) :: HT ws x4 (Z12 t6 t7), n := 16, marks := [], vs := [] } (.less rfl rfl rfl (by simp) (by simp)) ?_
 refine E.seq ?_
 have a3 := beside15 (B := .cells [sL nm, iv z0, iv z1, iv z2, iv 0, iv 0, iv 0] 95) (by simp) (w226 (Z := Z12 t6 t7) (N := 16) ws x4 hwl hL)
 have v3 : vaN ws x1 3 = (tkN ws x4).2 := by unfold vaN; rw [s3]
 have s4 : stN ws x1 4 = (tkN ws x4).1 := by show (tkN ws (stN ws x1 3)).1 = _; rw [s3]
 obtain ⟨K3, hK3⟩ : ∃ K, tkN ws x4 = K := ⟨_, rfl⟩
 rw [hK3] at a3 v3 s4
 obtain ⟨x5, z3⟩ := K3
 dsimp only at a3 v3 s4
 obtain ⟨p3, hp3, d3⟩ := call_of a3
 refine E.reg hp3 (by simp [d3]; rfl) ?_
 refine E.lead { fr := [(2, .pointer (some ⟨12, 0, none⟩)), (3, .bool false), (4, ptr14), (5, .func (.func 226) #[ptr14] #[]), (6, .pointer (some ⟨15, 0, none⟩))], sz := 56, H := (15, .cells [sL nm, iv z0, iv z1, iv z2, iv z3, iv 0, iv 0] 95) :: HT ws x5 (Z12 t6 t7), n := 16, marks := [], vs := [] } (.less rfl rfl rfl (by simp) (by simp)) ?_
 refine E.seq ?_
 have a4 := beside15 (B := .cells [sL nm, iv z0, iv z1, iv z2, iv z3, iv 0, iv 0] 95) (by simp) (w226 (Z := Z12 t6 t7) (N := 16) ws x5 hwl hL)
 have v4 : vaN ws x1 4 = (tkN ws x5).2 := by unfold vaN; rw [s4]
 have s5 : stN ws x1 5 = (tkN ws x5).1 := by show (tkN ws (stN ws x1 4)).1 = _; rw [s4]
 obtain ⟨K4, hK4⟩ : ∃ K, tkN ws x5 = K := ⟨_, rfl⟩
 rw [hK4] at a4 v4 s5
 obtain ⟨x6, z4⟩ := K4
 dsimp only at a4 v4 s5
 obtain ⟨p4, hp4, d4⟩ := call_of a4
 refine E.reg hp4 (by simp [d4]; rfl) ?_
 refine E.lead { fr := [(2, .pointer (some ⟨12, 0, none⟩)), (3, .bool false), (4, ptr14), (5, .func (.func 226) #[ptr14] #[]), (6, .pointer (some ⟨15, 0, none⟩))], sz := 56, H := (15, .cells [sL nm, iv z0, iv z1, iv z2, iv z3, iv z4, iv 0] 95) :: HT ws x6 (Z12 t6 t7), n := 16, marks := [], vs := [] } (.less rfl rfl rfl (by simp) (by simp)) ?_
 refine E.seq ?_
 have a5 := beside15 (B := .cells [sL nm, iv z0, iv z1, iv z2, iv z3, iv z4, iv 0] 95) (by simp) (w226 (Z := Z12 t6 t7) (N := 16) ws x6 hwl hL)
 have v5 : vaN ws x1 5 = (tkN ws x6).2 := by unfold vaN; rw [s5]
 have s6 : stN ws x1 6 = (tkN ws x6).1 := by show (tkN ws (stN ws x1 5)).1 = _; rw [s5]
 obtain ⟨K5, hK5⟩ : ∃ K, tkN ws x6 = K := ⟨_, rfl⟩
 rw [hK5] at a5 v5 s6
 obtain ⟨x7, z5⟩ := K5
 dsimp only at a5 v5 s6
 obtain ⟨p5, hp5, d5⟩ := call_of a5
 refine E.reg hp5 (by simp [d5]; rfl) ?_
 refine E.lead { fr := [(2, .pointer (some ⟨12, 0, none⟩)), (3, .bool false), (4, ptr14), (5, .func (.func 226) #[ptr14] #[]), (6, .pointer (some ⟨15, 0, none⟩))], sz := 56, H := (15, .cells [sL nm, iv z0, iv z1, iv z2, iv z3, iv z4, iv z5] 95) :: HT ws x7 (Z12 t6 t7), n := 16, marks := [], vs := [] } (.less rfl rfl rfl (by simp) (by simp)) ?_
 rw [v0, v1, v2, v3, v4, v5, s6]
 refine E.seq ?_
 obtain ⟨jE, wE⟩ := x7
 obtain ⟨a, m, hs, hm, hmL, hab, _⟩ := slv_len ws.length jE
 simp only [HT]
 rw [hs]
 have hme : decide (m = 0) = decide (ws.length ≤ jE) := by rw [decide_eq_decide]; omega
 obtain ⟨d, hd⟩ : ∃ d, decide (ws.length ≤ jE) = d := ⟨_, rfl⟩
 rw [hd] at hme
 rw [hd]
 cases wE with
 | true =>
   refine E.drawW mixed hr [] [] [0, 4, 10, 14] [0, 1, 2, 3, 4, 5, 6, 7, 8, 9, 10, 11, 12, 13] 14 (by kernel_rfl) (by simp [undefV]; rfl) ?_
   refine E.ret ?_
   exact pureK.ret rfl rfl (by simp; kernel_rfl) (by repeat first | exact sub_refl _ | refine sub_cons rfl ?_)
 | false =>
   refine E.drawW mixed hr [] [] [0, 4, 10, 14] [0, 1, 2, 3, 4, 5, 6, 7, 8, 9, 10, 11, 12, 13] 14 (by kernel_rfl) (by simp [-decide_eq_true_eq, -decide_eq_false_iff_not, hab, hme]; rfl) ?_
   refine E.ret ?_
   exact pureK.ret rfl rfl (by simp; kernel_rfl) (by repeat first | exact sub_refl _ | refine sub_cons rfl ?_)
end Go.Proofs.YtndlfijfjglkdaaGreatDoor

namespace Go.Proofs.YtndlfijfjglkdaaGreatDoor
open Go Go.Ab Go.Proofs Go.RowKit
def csV (s : List UInt8) : List UInt8 × Bool := (Lib.trimSuffix s [10], Lib.hasSuffix s [10])
theorem csV_line (w : List UInt8) : csV (w ++ [10]) = (w, true) := by
 have h : Lib.hasSuffix (w ++ [10]) [10] = true := List.isSuffixOf_iff_suffix.2 ⟨w, rfl⟩
 unfold csV Lib.trimSuffix
 rw [h]
 simp
theorem csV_rest {w : List UInt8} (h : (10 : UInt8) ∉ w) : csV w = (w, false) := by
 have hs : Lib.hasSuffix w [10] = false := by
   cases hb : Lib.hasSuffix w [10] with
   | false => rfl
   | true =>
     exact absurd ((List.isSuffixOf_iff_suffix.1 hb).subset (List.mem_singleton.2 rfl)) h
 unfold csV Lib.trimSuffix
 rw [hs]
 simp
abbrev tupL (x : List UInt8 × Bool) : Value := .tuple #[sL x.1, .bool x.2]
theorem w181 (s : List UInt8) (hl : s.length < 2147483648) {H : Heap} {n : Nat} : AC Tryz.prog 181 [sL s, sL [10]] H n (tupL (csV s)) H n := by
 refine AC.of_calls (by kernel_rfl) rfl fun p φ w hB hsc => ?_
 exact (Tryz.strings_CutSuffix (bA s) (bA [10]) w (by rw [bA_size]; omega)).mono fun e w' hh => ⟨hh.1, hh.2 ▸ Below.refl _ _⟩
def g181 (args : List Value) (H : Heap) (n : Nat) : R := match args with
 | [.string s, .string t] => if t = bA [10] ∧ s.size < 2147483648 then some (tupL (csV s.data.toList), H, n) else none
 | _ => none
theorem g181_at {s : List UInt8} {H : Heap} {n : Nat} (h : s.length < 2147483648) : g181 [sL s, sL [10]] H n = some (tupL (csV s), H, n) := by simp [g181, ByteArray.size, h]
theorem ok181 : EntOk Tryz.prog (181, g181) := by
 intro args H n v H' n' hh
 simp only [g181] at hh
 split at hh
 · rename_i s t
   split at hh
   · rename_i ht
     obtain ⟨rfl, hl⟩ := ht
     injection hh with hh; injection hh with e1 e2; injection e2 with e2 e3; subst e1 e2 e3
     have := w181 s.data.toList (by rw [← Lib.size_eq]; exact hl) (H := H) (n := n)
     rwa [show sL s.data.toList = .string s from congrArg Value.string (bA_data s)] at this
   · cases hh
 · cases hh
theorem w180 (s : List UInt8) (H : Heap) (n : Nat) : AC Tryz.prog 180 [sL s] H n (.func (.func 222) #[] #[.pointer (some ⟨n, 0, none⟩)]) ((n, .cells [sL s] 9) :: H) (n + 1) := by
 have hr := recT_ok (P := Tryz.prog) (l := []) (by simp)
 refine AC.body Tryz.func180 rfl (by kernel_rfl) rfl [] ?_
 refine E.seq ?_
 refine E.reg hr (by simp; rfl) ?_
 refine E.seq ?_
 refine E.reg hr (by simp [opMakefunc]; rfl) ?_
 refine E.ret ?_
 exact ⟨.inr rfl, by simp [leaveF, shutA, resultsA, resultA, Tryz.results180, dropOk]⟩
theorem Part.lib {args : List Value} {H : Heap} {n : Nat} {Q : List Value → Heap → Nat → Prop} (haf : afL args = true) (hL : LibOk H) (hq : ∀ t6 t7, Q args (GE t6 t7) 12) : Part Tryz.prog args H n Q := by
 intro p φ w hB hsc
 obtain ⟨h3, ⟨t6, k6, o6, h6⟩, t7, k7, o7, h7⟩ := hL
 let φ0 : Vl := ⟨fun k => if k = 10 then φ.loc k6 else if k = 11 then φ.loc k7 else φ.loc k, φ.cap⟩
 have hlow : ∀ k, k < 10 → φ0.loc k = φ.loc k := fun k hk => by
   show (if k = 10 then _ else _) = _
   rw [if_neg (by omega), if_neg (by omega)]
 have hH : ∀ k b, hget (GE (t6, o6) (t7, o7)) k = some b → (k = 7 ∧ b = .inp 0 [.iface t7 (.pointer (some ⟨11, o7, none⟩))]) ∨ (k = 6 ∧ b = .inp 0 [.iface t6 (.pointer (some ⟨10, o6, none⟩))]) ∨ (k = 3 ∧ b = .tab tab3) := fun k b hk => by
   rw [hget_cons, hget_cons, hget_cons] at hk
   by_cases e7 : 7 = k
   · rw [if_pos e7] at hk; injection hk with hk; exact .inl ⟨e7.symm, hk.symm⟩
   rw [if_neg e7] at hk
   by_cases e6 : 6 = k
   · rw [if_pos e6] at hk; injection hk with hk; exact .inr (.inl ⟨e6.symm, hk.symm⟩)
   rw [if_neg e6] at hk
   by_cases e3 : 3 = k
   · rw [if_pos e3] at hk; injection hk with hk; exact .inr (.inr ⟨e3.symm, hk.symm⟩)
   rw [if_neg e3] at hk
   cases hk
 have hown : ∀ k b, hget (GE (t6, o6) (t7, o7)) k = some b → b.own = false := fun k b hk => by
   rcases hH k b hk with ⟨_, rfl⟩ | ⟨_, rfl⟩ | ⟨_, rfl⟩ <;> rfl
 refine ⟨args, GE (t6, o6) (t7, o7), 12, φ0, (· < 12), ⟨⟨fun k b hk => ?_, fun k b k' b' h1 _ _ ho => (by rw [hown k b h1] at ho; cases ho), fun g hg => ?_⟩, fun _ h => h, fun g hg => ?_, ?_, fun k b hk => ?_, fun t v hv => by simp [lk] at hv, fun t v hv => by simp [lk] at hv⟩, scL_af _ _ haf, by rw [denL_af _ _ haf, denL_af _ _ haf], hown, hq (t6, o6) (t7, o7)⟩
 · rcases hH k b hk with ⟨rfl, rfl⟩ | ⟨rfl, rfl⟩ | ⟨rfl, rfl⟩
   · rw [hlow 7 (by omega)]
     exact hB.rel.blk 7 _ h7
   · rw [hlow 6 (by omega)]
     exact hB.rel.blk 6 _ h6
   · rw [hlow 3 (by omega)]
     have := hB.rel.blk 3 _ h3
     simp only [BRel] at this ⊢
     rw [denL_af _ _ af_tab3] at this ⊢
     exact this
 · rw [gsz] at hg
   rw [hlow g hg]
   exact hB.rel.glob g (by rw [gsz]; exact hg)
 · rw [gsz] at hg; omega
 · rw [gsz]; omega
 · rcases hH k b hk with ⟨rfl, rfl⟩ | ⟨rfl, rfl⟩ | ⟨rfl, rfl⟩
   · exact ⟨by omega, by simp [scL, sc]⟩
   · exact ⟨by omega, by simp [scL, sc]⟩
   · exact ⟨by omega, scL_af _ _ af_tab3⟩
open Classical in
noncomputable def g182 (args : List Value) (H : Heap) (n : Nat) : R := match args with
 | [.string s] => if s.size < 2147483648 ∧ LibOk H then some (tupG (prsG (spl 32 s.data.toList)), H, n) else none
 | _ => none
theorem g182_at {s : List UInt8} {H : Heap} {n : Nat} (hs : s.length < 2147483648) (h : LibOk H) : g182 [sL s] H n = some (tupG (prsG (spl 32 s)), H, n) := by
 simp only [g182]
 rw [if_pos ⟨by rw [bA_size]; exact hs, h⟩]
theorem ok182 : EntOk Tryz.prog (182, g182) := by
 intro args H n v H' n' hh
 simp only [g182] at hh
 split at hh
 · rename_i s
   split at hh
   · rename_i hc
     injection hh with hh; injection hh with e1 e2; injection e2 with e2 e3; subst e1 e2 e3
     have hw := fun t6 t7 => w182 t6 t7 s.data.toList (by rw [← Lib.size_eq]; exact hc.1)
     rw [show sL s.data.toList = .string s from congrArg Value.string (bA_data s)] at hw
     exact AC.liftP rfl (Part.lib rfl hc.2 fun t6 t7 => ⟨_, _, hw t6 t7⟩)
   · cases hh
 · cases hh
theorem yieldF_ret {r : Rec} {l : Nat} {args : List Value} {H : Heap} {n : Nat} {fr : Fr} {sz : Nat} {vs : List Nat} {ps : Array Tmp} {a b : Code} {d : Nat} {s1 s2 : St}
   (h0 : hget H l = some (.loop .ready none fr sz vs ps a b d)) (hlen : (Nat.beq args.length ps.size && ps.toList.all (fun t => Nat.blt t sz)) = true)
   (h1 : r.code (some l) a { fr := (ps.toList.zip args).foldl (fun fr (t, v) => (t, v) :: fr) fr, sz, H, n, marks := [], vs } = some (.normal, s1)) (hl1 : hget s1.H l = some (.loop .ready none fr sz vs ps a b d))
   (h2 : r.code (some l) b { s1 with H := hset s1.H l (.loop .busy none fr sz vs ps a b d) } = some (.ret, s2)) (hl2 : hget s2.H l = some (.loop .busy none fr sz vs ps a b d)) :
   yieldF r l args H n = some (.bool false, hset s2.H l (.loop .done (some .ret) fr sz vs ps a b d), s2.n) := by
 unfold yieldF
 rw [h0]
 simp only [hlen, h1, hl1, h2, hl2]
 rfl
theorem rangeF_ret {P : Program} {r : Rec} {f : Operand} {ps : Array Tmp} {x y : Code} {st : St} {g : FuncId} {first captured : Array Value} {v : Value} {H' : Heap} {k : Nat} {fr : Fr} {sz : Nat} {vs : List Nat} {d : Nat} {a b : Code} {st' : St}
   (hf : evO P st.fr f = some (.func (.func g) first captured)) (he : enterable P g = true)
   (hc : r.call g (first.toList ++ [.func (.yield (st.n + 1)) #[] #[]] ++ captured.toList) ((st.n + 1, .loop .ready none st.fr st.sz st.vs ps x y st.n) :: (st.n, .defd) :: st.H) (st.n + 2) = some (v, H', k))
   (hl : hget H' (st.n + 1) = some (.loop .done (some .ret) fr sz vs ps a b d))
   (hr : r.code none .ret { st with H := hset H' (st.n + 1) (.loop .exhausted (some .ret) fr sz vs ps a b d), n := k, marks := st.n :: st.marks } = some (.ret, st')) :
   rangeF P r none f ps x y st = some (.ret, st') := by
 unfold rangeF
 rw [hf]
 simp only [he, hc, hl]
 exact hr
theorem E.rangeC {P : Program} {n0 : Nat} {r : Rec} {m : Nat} (hr : RecOk P r m) {ro : Option Nat} {f : Operand} {ps : Array Tmp} {x y : Code} {st st' : St} {e : Ex} {K : Ex → St → Prop} (s2 : St) (h : rangeF P r ro f ps x y st = some (e, st')) (h1 : st'.n = s2.n) (h2 : st'.sz = s2.sz) (h3 : st'.marks = s2.marks) (h4 : ∀ x ∈ s2.fr, lk st'.fr x.1 = some x.2) (h5 : ∀ x ∈ s2.H, hget st'.H x.1 = some x.2) (k : K e s2) : E P n0 ro (.rangeFunc f ps x y) st K :=
 .at ((rangeF_ok hr h).cut h1 h2 h3 (fun t v hv => h4 (t, v) (lk_mem _ _ _ hv)) (fun k b hk => h5 (k, b) (hget_mem _ _ _ hk))) k
theorem pair_eq {t : TypeId} {f1 f2 : Field} (ht : Tryz.prog.underlying t = some (.struct #[f1, f2])) (hp : Tryz.prog.stoodInHeld t = false) (hn : f1.name ≠ "_" ∧ f2.name ≠ "_") (h1 : f1.type = 3 ∧ f1.offset = 0) (h2 : f2.type = 3 ∧ f2.offset = 1) (a b : Int) (d : Nat) : runP Tryz.prog (Op.equalIn (d + 2) t (.agg #[iv a, iv b]) (.agg #[iv 0, iv 0])) = some ([a == 0, b == 0].all id) := by
 have := runS_eq (P := Tryz.prog) (d + 1) (t := t) #[iv a, iv b] #[iv 0, iv 0] (fun f => if f.offset = 0 then a == 0 else b == 0) ht hp fun f hf => by
   simp at hf
   rcases hf with rfl | rfl
   · refine ⟨hn.1, ?_⟩
     rw [h1.1, h1.2]
     exact ⟨iv a, iv 0, by kernel_rfl, by kernel_rfl, runS_int d a 0 Tryz.underlying3⟩
   · refine ⟨hn.2, ?_⟩
     rw [h2.1, h2.2]
     exact ⟨iv b, iv 0, by kernel_rfl, by kernel_rfl, runS_int d b 0 Tryz.underlying3⟩
 rw [this]
 simp [h1.2, h2.2]
theorem build32z {fr : Fr} {H : Heap} {n : Nat} : opBuild Tryz.prog 32 #[] fr H n = some (.agg #[.slice none 0 0], H, n) := by kernel_rfl
end Go.Proofs.YtndlfijfjglkdaaGreatDoor

namespace Go.Proofs.YtndlfijfjglkdaaGreatDoor
open Go Go.Ab Go.Proofs Go.RowKit
noncomputable def asg104 : Code := match rfOf (bodyOf' Tryz.f104) with
 | some x => x.1
 | none => .skip
noncomputable def bdy104 : Code := match rfOf (bodyOf' Tryz.f104) with
 | some x => x.2
 | none => .skip
abbrev fn222 : Value := .func (.func 222) #[] #[.pointer (some ⟨17, 0, none⟩)]
abbrev pt (k : Nat) : Value := .pointer (some ⟨k, 0, none⟩)
abbrev fr104 : Fr := [(18, fn222), (2, pt 12), (3, pt 13), (4, pt 14), (5, pt 15), (6, pt 16)]
abbrev vs104 : List Nat := [2, 3, 4, 5, 6]
noncomputable abbrev B104 (t6 t7 : Nat × Nat) (ls : LoopState) (pe : Option Code) (r : List UInt8) (ov : Value) (k at' e : Int) : Heap := (19, .loop ls pe fr104 59 vs104 #[19] asg104 bdy104 18) :: (18, .defd) :: (17, .cells [sL r] 9) :: (16, .cells [iv k] 3) :: (15, .cells [ov] 32) :: (14, .cells [iv e] 27) :: (13, .cells [iv at'] 3) :: (12, .cells [.slice none 0 0] 32) :: GE t6 t7
noncomputable def r104 (e : Ex) (s1 s2 : St) : Rec := recV Tryz.prog (fun _ c _ => match c with
 | .block _ _ => some (e, s2)
 | .region _ _ _ => some (.normal, s1)
 | _ => none) (fun _ _ _ _ => none)
theorem fr104_sc {m : Nat} (h : 18 ≤ m) : ∀ x ∈ fr104, sc (· < m) x.2 := by
 intro x hx
 simp only [fr104, List.mem_cons, List.not_mem_nil, or_false] at hx
 rcases hx with rfl | rfl | rfl | rfl | rfl | rfl <;> simp [sc, scL] <;> omega
@[simp high] theorem held104 {m : Nat} {ls : LoopState} {pe : Option Code} {a b : Code} (h : 18 < m) : heldB m (.loop ls pe fr104 59 vs104 #[19] a b 18) = True := eq_true ⟨h, fr104_sc (by omega)⟩
abbrev oG (k : Nat) : Value := .slice (some ⟨20, 0, some 0⟩) k 0
theorem strEq (d : Nat) (s u : ByteArray) (h : (s == u) = false) : runP Tryz.prog (Op.equalIn (d + 1) 9 (.string s) (.string u)) = some false := by
 simp only [Op.equalIn, runS_bind, runS_und Tryz.underlying9, Option.bind_some, runS_pure, h]
theorem eqG0 {x y : Operand} {H : Heap} {n : Nat} (nm : ByteArray) (a b c d e f : Int) (h : nm ≠ bA []) : binV Tryz.prog .eql 95 x y (.agg ⟨[.string nm, iv a, iv b, iv c, iv d, iv e, iv f]⟩) (.agg ⟨[.string (bA []), iv 0, iv 0, iv 0, iv 0, iv 0, iv 0]⟩) H n = some (.bool false, H, n) := by
 have hs : (nm == bA []) = false := by
   cases hb : nm == bA [] with
   | false => rfl
   | true =>
     exfalso
     apply h
     obtain ⟨⟨l⟩⟩ := nm
     have : ((⟨l⟩ : Array UInt8) == ⟨[]⟩) = true := hb
     simp at this
     rw [this]
 have key : runP Tryz.prog (Op.equalIn 10000 95 (.agg ⟨[.string nm, iv a, iv b, iv c, iv d, iv e, iv f]⟩) (.agg ⟨[.string (bA []), iv 0, iv 0, iv 0, iv 0, iv 0, iv 0]⟩)) = some false := by
   refine runS_eq (P := Tryz.prog) 9999 _ _ (fun fl => match fl.offset with | 0 => false | 1 => a == 0 | 2 => [b == 0, c == 0].all id | 4 => d == 0 | _ => [e == 0, f == 0].all id) Tryz.underlying95 (by kernel_rfl) fun fl hf => ?_
   simp at hf
   rcases hf with rfl | rfl | rfl | rfl | rfl
   · exact ⟨by decide, .string nm, .string (bA []), by kernel_rfl, by kernel_rfl, strEq 9998 nm (bA []) hs⟩
   · exact ⟨by decide, iv a, iv 0, by kernel_rfl, by kernel_rfl, runS_int 9998 a 0 Tryz.underlying3⟩
   · refine ⟨by decide, .agg #[iv b, iv c], .agg #[iv 0, iv 0], by kernel_rfl, by kernel_rfl, ?_⟩
     exact pair_eq Tryz.underlying90 (by kernel_rfl) (by decide) ⟨rfl, rfl⟩ ⟨rfl, rfl⟩ b c 9997
   · exact ⟨by decide, iv d, iv 0, by kernel_rfl, by kernel_rfl, runS_int 9998 d 0 Tryz.underlying3⟩
   · refine ⟨by decide, .agg #[iv e, iv f], .agg #[iv 0, iv 0], by kernel_rfl, by kernel_rfl, ?_⟩
     exact pair_eq Tryz.underlying92 (by kernel_rfl) (by decide) ⟨rfl, rfl⟩ ⟨rfl, rfl⟩ e f 9997
 have h2 : runP Tryz.prog (do eqGuard .eql 95 x y (.agg ⟨[.string nm, iv a, iv b, iv c, iv d, iv e, iv f]⟩) (.agg ⟨[.string (bA []), iv 0, iv 0, iv 0, iv 0, iv 0, iv 0]⟩); binOp .eql 95 (.agg ⟨[.string nm, iv a, iv b, iv c, iv d, iv e, iv f]⟩) (.agg ⟨[.string (bA []), iv 0, iv 0, iv 0, iv 0, iv 0, iv 0]⟩)) = some (.bool false) := by
   rw [runS_bind]
   have h1 : runP Tryz.prog (eqGuard .eql 95 x y (.agg ⟨[.string nm, iv a, iv b, iv c, iv d, iv e, iv f]⟩) (.agg ⟨[.string (bA []), iv 0, iv 0, iv 0, iv 0, iv 0, iv 0]⟩)) = some () := by kernel_rfl
   rw [h1, Option.bind_some]
   show runP Tryz.prog (Op.equalIn 10000 95 _ _ >>= fun b => pure (Value.bool b)) = _
   rw [runS_bind, key]
   rfl
 have ha : afq (.agg ⟨[.string nm, iv a, iv b, iv c, iv d, iv e, iv f]⟩) = true := rfl
 have hz : afq (.agg ⟨[.string (bA []), iv 0, iv 0, iv 0, iv 0, iv 0, iv 0]⟩) = true := rfl
 unfold binV
 rw [ha, hz]
 simp only [Bool.and_self, if_true]
 rw [h2]
 rfl
set_option maxHeartbeats 8000000 in
set_option maxRecDepth 100000 in
theorem yield104g0 (t6 t7 : Nat × Nat) (line w r : List UInt8) (p : Gun) (hp0 : p.name ≠ bA []) (hcs : csV line = (w, true)) (hp : prsG (spl 32 w) = (p, true)) (hl : line.length < 2147483648) (hwl : w.length < 2147483648) :
   ∃ q, RecOk Tryz.prog q 0 ∧ yieldF q 19 [sL line] (B104 t6 t7 .ready none r (.slice none 0 0) 0 0 0) 20 = some (.bool true, (22, .ext (gcs [p]) 95 7) :: B104 t6 t7 .ready none r (.slice (some ⟨22, 0, some 0⟩) 1 0) 1 0 0, 23) := by
 have hr := recT_ok (P := Tryz.prog) (l := [(181, g181), (182, g182)]) (by simp only [List.forall_mem_cons]; exact ⟨ok181, ok182, by simp⟩)
 have hc1 : ∀ H n, g181 [sL line, sL [10]] H n = some (tupL (w, true), H, n) := fun H n => by rw [g181_at hl, hcs]
 have hc2 : ∀ H n, LibOk H → g182 [sL w] H n = some (tupG (p, true), H, n) := fun H n h => by rw [g182_at hwl h, hp]
 obtain ⟨nm, z0, z1, z2, z3, z4, z5⟩ := p
 have hnm : nm ≠ bA [] := hp0
 let s1 : St := { fr := [(2, pt 12), (3, pt 13), (4, pt 14), (5, pt 15), (6, pt 16), (7, sL line)], sz := 59, H := B104 t6 t7 .ready none r (.slice none 0 0) 0 0 0, n := 20, marks := [], vs := vs104 }
 let s2 : St := { fr := [], sz := 59, H := (22, .ext (gcs [⟨nm, z0, z1, z2, z3, z4, z5⟩]) 95 7) :: B104 t6 t7 .busy none r (.slice (some ⟨22, 0, some 0⟩) 1 0) 1 0 0, n := 23, marks := [], vs := [] }
 refine ⟨r104 .normal s1 s2, recV_ok, ?_⟩
 have hA : AT Tryz.prog (some 19) asg104 { fr := (19, sL line) :: fr104, sz := 59, H := B104 t6 t7 .ready none r (.slice none 0 0) 0 0 0, n := 20, marks := [], vs := vs104 } .normal s1 := by
   refine E.toATc ?_
   refine E.reg hr (by simp; rfl) ?_
   exact ⟨rfl, rfl, rfl, rfl, by simp [s1], by simp [s1]⟩
 have hB : AT Tryz.prog (some 19) bdy104 { s1 with H := B104 t6 t7 .busy none r (.slice none 0 0) 0 0 0 } .normal s2 := by
   refine E.toATc ?_
   refine E.block ?_
   refine E.seq ?_
   refine E.reg hr (by simp [s1, hc1]; rfl) ?_
   refine E.seq ?_
   have hLib : LibOk (B104 t6 t7 .busy none r (.slice none 0 0) 0 0 0) := (ge_lib t6 t7).mono (by simp) (by simp) (by simp)
   have hc2' := hc2 _ 20 hLib
   refine E.reg hr (by simp [hc2']; rfl) ?_
   refine E.seq ?_
   refine E.seq ?_
   refine E.reg hr (by simp [build95z, eqG0, hnm]; rfl) ?_
   refine E.cond (t := false) (by rfl) (fun h => by cases h) (fun _ => ?_)
   refine E.skip ?_
   refine E.seq ?_
   refine E.reg hr (by simp; rfl) ?_
   refine E.reg hr (by simp [show IntKind.i64.wrap 1 = 1 from W_in (by omega) (by omega)]; rfl) ?_
   exact ⟨rfl, rfl, rfl, rfl, by simp [s2], by simp [s2, gcs]⟩
 have hh : hset s2.H 19 (.loop .ready none fr104 59 vs104 #[19] asg104 bdy104 18) = (22, .ext (gcs [⟨nm, z0, z1, z2, z3, z4, z5⟩]) 95 7) :: B104 t6 t7 .ready none r (.slice (some ⟨22, 0, some 0⟩) 1 0) 1 0 0 := by simp [s2]
 rw [← hh]
 refine yieldF_of (s1 := s1) (s2 := s2) (fr := fr104) (sz := 59) (vs := vs104) (ps := #[19]) (a := asg104) (b := bdy104) (d := 18) (by simp) rfl ?_ (by simp [s1]) ?_ (by simp [s2])
 · exact recV_code (by intro b h; cases h) rfl hA
 · show (r104 .normal s1 s2).code (some 19) bdy104 { s1 with H := hset s1.H 19 _ } = _
   rw [show hset s1.H 19 (.loop .busy none fr104 59 vs104 #[19] asg104 bdy104 18) = B104 t6 t7 .busy none r (.slice none 0 0) 0 0 0 by simp [s1]]
   exact recV_code (by intro b h; cases h) rfl hB
set_option maxHeartbeats 8000000 in
set_option maxRecDepth 100000 in
theorem yield104b0 (t6 t7 : Nat × Nat) (line w r : List UInt8) (p : Gun) (wh is : Bool) (hcs : csV line = (w, wh)) (hp : prsG (spl 32 w) = (p, is)) (hb : wh = false ∨ is = false) (hl : line.length < 2147483648) (hwl : w.length < 2147483648) :
   ∃ q, RecOk Tryz.prog q 0 ∧ yieldF q 19 [sL line] (B104 t6 t7 .ready none r (.slice none 0 0) 0 0 0) 20 = some (.bool false, B104 t6 t7 .done (some .ret) r (.slice none 0 0) 0 0 25, 21) := by
 have hr := recT_ok (P := Tryz.prog) (l := [(181, g181), (182, g182)]) (by simp only [List.forall_mem_cons]; exact ⟨ok181, ok182, by simp⟩)
 have hc1 : ∀ H n, g181 [sL line, sL [10]] H n = some (tupL (w, wh), H, n) := fun H n => by rw [g181_at hl, hcs]
 have hc2 : ∀ H n, LibOk H → g182 [sL w] H n = some (tupG (p, is), H, n) := fun H n h => by rw [g182_at hwl h, hp]
 obtain ⟨nm, z0, z1, z2, z3, z4, z5⟩ := p
 let s1 : St := { fr := [(2, pt 12), (3, pt 13), (4, pt 14), (5, pt 15), (6, pt 16), (7, sL line)], sz := 59, H := B104 t6 t7 .ready none r (.slice none 0 0) 0 0 0, n := 20, marks := [], vs := vs104 }
 let s2 : St := { fr := [], sz := 59, H := B104 t6 t7 .busy none r (.slice none 0 0) 0 0 25, n := 21, marks := [], vs := [] }
 refine ⟨r104 .ret s1 s2, recV_ok, ?_⟩
 have hA : AT Tryz.prog (some 19) asg104 { fr := (19, sL line) :: fr104, sz := 59, H := B104 t6 t7 .ready none r (.slice none 0 0) 0 0 0, n := 20, marks := [], vs := vs104 } .normal s1 := by
   refine E.toATc ?_
   refine E.reg hr (by simp; rfl) ?_
   exact ⟨rfl, rfl, rfl, rfl, by simp [s1], by simp [s1]⟩
 have hB : AT Tryz.prog (some 19) bdy104 { s1 with H := B104 t6 t7 .busy none r (.slice none 0 0) 0 0 0 } .ret s2 := by
   refine E.toATc ?_
   refine E.block ?_
   refine E.seq ?_
   refine E.reg hr (by simp [s1, hc1]; rfl) ?_
   refine E.seq ?_
   have hLib : LibOk (B104 t6 t7 .busy none r (.slice none 0 0) 0 0 0) := (ge_lib t6 t7).mono (by simp) (by simp) (by simp)
   have hc2' := hc2 _ 20 hLib
   refine E.reg hr (by simp [hc2']; rfl) ?_
   refine E.seq ?_
   refine E.seq ?_
   refine E.regL hr { fr := [(2, pt 12), (3, pt 13), (4, pt 14), (5, pt 15), (6, pt 16), (40, .bool true)], sz := 59, H := B104 t6 t7 .busy none r (.slice none 0 0) 0 0 0, n := 21, marks := [], vs := vs104 } ?_ ?_
   · cases wh with
     | false =>
       refine ⟨_, by simp [undefV]; rfl, ?_⟩
       exact .less rfl rfl rfl (by simp) (by simp)
     | true =>
       have hi : is = false := by simpa using hb
       subst hi
       refine ⟨_, by simp [undefV]; rfl, ?_⟩
       exact .less rfl rfl rfl (by simp) (by simp)
   refine E.cond (t := true) (by rfl) (fun _ => ?_) (fun h => by cases h)
   refine E.seq ?_
   refine E.drawW mixed hr [3, 4] [] [1, 2, 3, 4] [0, 1] 2 (by kernel_rfl) (by simp [build32z]; rfl) ?_
   refine E.ret ?_
   exact ⟨rfl, rfl, rfl, rfl, by simp [s2], by simp [s2]⟩
 have hh : hset s2.H 19 (.loop .done (some .ret) fr104 59 vs104 #[19] asg104 bdy104 18) = B104 t6 t7 .done (some .ret) r (.slice none 0 0) 0 0 25 := by simp [s2]
 rw [← hh]
 refine yieldF_ret (s1 := s1) (s2 := s2) (fr := fr104) (sz := 59) (vs := vs104) (ps := #[19]) (a := asg104) (b := bdy104) (d := 18) (by simp) rfl ?_ (by simp [s1]) ?_ (by simp [s2])
 · exact recV_code (by intro b h; cases h) rfl hA
 · show (r104 .ret s1 s2).code (some 19) bdy104 { s1 with H := hset s1.H 19 _ } = _
   rw [show hset s1.H 19 (.loop .busy none fr104 59 vs104 #[19] asg104 bdy104 18) = B104 t6 t7 .busy none r (.slice none 0 0) 0 0 0 by simp [s1]]
   exact recV_code (by intro b h; cases h) rfl hB
set_option maxHeartbeats 8000000 in
set_option maxRecDepth 100000 in
theorem yield104gS (t6 t7 : Nat × Nat) (line w r : List UInt8) (p : Gun) (Q : List Gun) (hQ : Q.length < 100000) (hp0 : p.name ≠ bA []) (hcs : csV line = (w, true)) (hp : prsG (spl 32 w) = (p, true)) (hl : line.length < 2147483648) (hwl : w.length < 2147483648) :
   ∃ q, RecOk Tryz.prog q 0 ∧ yieldF q 19 [sL line] ((20, .ext (gcs Q) 95 7) :: B104 t6 t7 .ready none r (oG Q.length) (Q.length : Int) 0 0) 21 = some (.bool true, (23, .ext (gcs (Q ++ [p])) 95 7) :: B104 t6 t7 .ready none r (.slice (some ⟨23, 0, some 0⟩) (Q.length + 1) 0) ((Q.length : Int) + 1) 0 0, 24) := by
 have hr := recT_ok (P := Tryz.prog) (l := [(181, g181), (182, g182)]) (by simp only [List.forall_mem_cons]; exact ⟨ok181, ok182, by simp⟩)
 have hc1 : ∀ H n, g181 [sL line, sL [10]] H n = some (tupL (w, true), H, n) := fun H n => by rw [g181_at hl, hcs]
 have hc2 : ∀ H n, LibOk H → g182 [sL w] H n = some (tupG (p, true), H, n) := fun H n h => by rw [g182_at hwl h, hp]
 obtain ⟨nm, z0, z1, z2, z3, z4, z5⟩ := p
 have hnm : nm ≠ bA [] := hp0
 let s1 : St := { fr := [(2, pt 12), (3, pt 13), (4, pt 14), (5, pt 15), (6, pt 16), (7, sL line)], sz := 59, H := (20, .ext (gcs Q) 95 7) :: B104 t6 t7 .ready none r (oG Q.length) (Q.length : Int) 0 0, n := 21, marks := [], vs := vs104 }
 let s2 : St := { fr := [], sz := 59, H := (23, .ext (gcs (Q ++ [⟨nm, z0, z1, z2, z3, z4, z5⟩])) 95 7) :: B104 t6 t7 .busy none r (.slice (some ⟨23, 0, some 0⟩) (Q.length + 1) 0) ((Q.length : Int) + 1) 0 0, n := 24, marks := [], vs := [] }
 refine ⟨r104 .normal s1 s2, recV_ok, ?_⟩
 have hA : AT Tryz.prog (some 19) asg104 { fr := (19, sL line) :: fr104, sz := 59, H := (20, .ext (gcs Q) 95 7) :: B104 t6 t7 .ready none r (oG Q.length) (Q.length : Int) 0 0, n := 21, marks := [], vs := vs104 } .normal s1 := by
   refine E.toATc ?_
   refine E.reg hr (by simp; rfl) ?_
   exact ⟨rfl, rfl, rfl, rfl, by simp [s1], by simp [s1]⟩
 have hB : AT Tryz.prog (some 19) bdy104 { s1 with H := (20, .ext (gcs Q) 95 7) :: B104 t6 t7 .busy none r (oG Q.length) (Q.length : Int) 0 0 } .normal s2 := by
   refine E.toATc ?_
   refine E.block ?_
   refine E.seq ?_
   refine E.reg hr (by simp [s1, hc1]; rfl) ?_
   refine E.seq ?_
   have hLib : LibOk ((20, .ext (gcs Q) 95 7) :: B104 t6 t7 .busy none r (oG Q.length) (Q.length : Int) 0 0) := (ge_lib t6 t7).mono (by simp) (by simp) (by simp)
   have hc2' := hc2 _ 21 hLib
   refine E.reg hr (by simp [hc2']; rfl) ?_
   refine E.seq ?_
   refine E.seq ?_
   refine E.reg hr (by simp [build95z, eqG0, hnm]; rfl) ?_
   refine E.cond (t := false) (by rfl) (fun h => by cases h) (fun _ => ?_)
   refine E.skip ?_
   refine E.seq ?_
   have hpl := gcs_length Q
   have ht : List.take (Q.length * 7) (gcs Q) = gcs Q := List.take_of_length_le (by omega)
   have hno : ¬ (Q.length + 1) * 7 ≤ Q.length * 7 := by omega
   have hsm : (Q.length + 1) * 64 ≤ 1099511627776 ∧ (Q.length + 1) * 7 ≤ 1099511627776 ∧ Q.length + 1 ≤ 1099511627776 := by omega
   have happ : gcs (Q ++ [⟨nm, z0, z1, z2, z3, z4, z5⟩]) = gcs Q ++ Gun.cells ⟨nm, z0, z1, z2, z3, z4, z5⟩ := by rw [gcs_app]; rfl
   have hw : IntKind.i64.wrap ((Q.length : Int) + 1) = (Q.length : Int) + 1 := W_in (by omega) (by omega)
   refine E.reg hr (by simp [hsm, ht, hno, hpl]; rfl) ?_
   refine E.reg hr (by simp [hw]; rfl) ?_
   exact ⟨rfl, rfl, rfl, rfl, by simp [s2], by simp [s2, happ]⟩
 have hh : hset s2.H 19 (.loop .ready none fr104 59 vs104 #[19] asg104 bdy104 18) = (23, .ext (gcs (Q ++ [⟨nm, z0, z1, z2, z3, z4, z5⟩])) 95 7) :: B104 t6 t7 .ready none r (.slice (some ⟨23, 0, some 0⟩) (Q.length + 1) 0) ((Q.length : Int) + 1) 0 0 := by simp [s2]
 rw [← hh]
 refine yieldF_of (s1 := s1) (s2 := s2) (fr := fr104) (sz := 59) (vs := vs104) (ps := #[19]) (a := asg104) (b := bdy104) (d := 18) (by simp) rfl ?_ (by simp [s1]) ?_ (by simp [s2])
 · exact recV_code (by intro b h; cases h) rfl hA
 · show (r104 .normal s1 s2).code (some 19) bdy104 { s1 with H := hset s1.H 19 _ } = _
   rw [show hset s1.H 19 (.loop .busy none fr104 59 vs104 #[19] asg104 bdy104 18) = (20, .ext (gcs Q) 95 7) :: B104 t6 t7 .busy none r (oG Q.length) (Q.length : Int) 0 0 by simp [s1]]
   exact recV_code (by intro b h; cases h) rfl hB
set_option maxHeartbeats 8000000 in
set_option maxRecDepth 100000 in
theorem yield104bS (t6 t7 : Nat × Nat) (line w r : List UInt8) (p : Gun) (Q : List Gun) (_hQ : Q.length < 100000) (wh is : Bool) (hcs : csV line = (w, wh)) (hp : prsG (spl 32 w) = (p, is)) (hb : wh = false ∨ is = false) (hl : line.length < 2147483648) (hwl : w.length < 2147483648) :
   ∃ q, RecOk Tryz.prog q 0 ∧ yieldF q 19 [sL line] ((20, .ext (gcs Q) 95 7) :: B104 t6 t7 .ready none r (oG Q.length) (Q.length : Int) 0 0) 21 = some (.bool false, (20, .ext (gcs Q) 95 7) :: B104 t6 t7 .done (some .ret) r (oG Q.length) (Q.length : Int) (Q.length : Int) 25, 22) := by
 have hr := recT_ok (P := Tryz.prog) (l := [(181, g181), (182, g182)]) (by simp only [List.forall_mem_cons]; exact ⟨ok181, ok182, by simp⟩)
 have hc1 : ∀ H n, g181 [sL line, sL [10]] H n = some (tupL (w, wh), H, n) := fun H n => by rw [g181_at hl, hcs]
 have hc2 : ∀ H n, LibOk H → g182 [sL w] H n = some (tupG (p, is), H, n) := fun H n h => by rw [g182_at hwl h, hp]
 obtain ⟨nm, z0, z1, z2, z3, z4, z5⟩ := p
 let s1 : St := { fr := [(2, pt 12), (3, pt 13), (4, pt 14), (5, pt 15), (6, pt 16), (7, sL line)], sz := 59, H := (20, .ext (gcs Q) 95 7) :: B104 t6 t7 .ready none r (oG Q.length) (Q.length : Int) 0 0, n := 21, marks := [], vs := vs104 }
 let s2 : St := { fr := [], sz := 59, H := (20, .ext (gcs Q) 95 7) :: B104 t6 t7 .busy none r (oG Q.length) (Q.length : Int) (Q.length : Int) 25, n := 22, marks := [], vs := [] }
 refine ⟨r104 .ret s1 s2, recV_ok, ?_⟩
 have hA : AT Tryz.prog (some 19) asg104 { fr := (19, sL line) :: fr104, sz := 59, H := (20, .ext (gcs Q) 95 7) :: B104 t6 t7 .ready none r (oG Q.length) (Q.length : Int) 0 0, n := 21, marks := [], vs := vs104 } .normal s1 := by
   refine E.toATc ?_
   refine E.reg hr (by simp; rfl) ?_
   exact ⟨rfl, rfl, rfl, rfl, by simp [s1], by simp [s1]⟩
 have hB : AT Tryz.prog (some 19) bdy104 { s1 with H := (20, .ext (gcs Q) 95 7) :: B104 t6 t7 .busy none r (oG Q.length) (Q.length : Int) 0 0 } .ret s2 := by
   refine E.toATc ?_
   refine E.block ?_
   refine E.seq ?_
   refine E.reg hr (by simp [s1, hc1]; rfl) ?_
   refine E.seq ?_
   have hLib : LibOk ((20, .ext (gcs Q) 95 7) :: B104 t6 t7 .busy none r (oG Q.length) (Q.length : Int) 0 0) := (ge_lib t6 t7).mono (by simp) (by simp) (by simp)
   have hc2' := hc2 _ 21 hLib
   refine E.reg hr (by simp [hc2']; rfl) ?_
   refine E.seq ?_
   refine E.seq ?_
   refine E.regL hr { fr := [(2, pt 12), (3, pt 13), (4, pt 14), (5, pt 15), (6, pt 16), (40, .bool true)], sz := 59, H := (20, .ext (gcs Q) 95 7) :: B104 t6 t7 .busy none r (oG Q.length) (Q.length : Int) 0 0, n := 22, marks := [], vs := vs104 } ?_ ?_
   · cases wh with
     | false =>
       refine ⟨_, by simp [undefV]; rfl, ?_⟩
       exact .less rfl rfl rfl (by simp) (by simp)
     | true =>
       have hi : is = false := by simpa using hb
       subst hi
       refine ⟨_, by simp [undefV]; rfl, ?_⟩
       exact .less rfl rfl rfl (by simp) (by simp)
   refine E.cond (t := true) (by rfl) (fun _ => ?_) (fun h => by cases h)
   refine E.seq ?_
   refine E.drawW mixed hr [3, 4] [] [1, 2, 3, 4] [0, 1] 2 (by kernel_rfl) (by simp [build32z]; rfl) ?_
   refine E.ret ?_
   exact ⟨rfl, rfl, rfl, rfl, by simp [s2], by simp [s2]⟩
 have hh : hset s2.H 19 (.loop .done (some .ret) fr104 59 vs104 #[19] asg104 bdy104 18) = (20, .ext (gcs Q) 95 7) :: B104 t6 t7 .done (some .ret) r (oG Q.length) (Q.length : Int) (Q.length : Int) 25 := by simp [s2]
 rw [← hh]
 refine yieldF_ret (s1 := s1) (s2 := s2) (fr := fr104) (sz := 59) (vs := vs104) (ps := #[19]) (a := asg104) (b := bdy104) (d := 18) (by simp) rfl ?_ (by simp [s1]) ?_ (by simp [s2])
 · exact recV_code (by intro b h; cases h) rfl hA
 · show (r104 .ret s1 s2).code (some 19) bdy104 { s1 with H := hset s1.H 19 _ } = _
   rw [show hset s1.H 19 (.loop .busy none fr104 59 vs104 #[19] asg104 bdy104 18) = (20, .ext (gcs Q) 95 7) :: B104 t6 t7 .busy none r (oG Q.length) (Q.length : Int) 0 0 by simp [s1]]
   exact recV_code (by intro b h; cases h) rfl hB
end Go.Proofs.YtndlfijfjglkdaaGreatDoor

namespace Go.Proofs.YtndlfijfjglkdaaGreatDoor
open Go Go.Ab Go.Proofs Go.RowKit
attribute [local simp] run_vcall_tmp vcallF target
@[simp] theorem scB_tab (p : Nat → Prop) (cs : List Value) : scB p (.tab cs) = scL p cs := rfl
@[simp] theorem heldB_tab (m : Nat) (cs : List Value) : heldB m (.tab cs) = True := rfl
abbrev yv19 : Value := .func (.yield 19) #[] #[]
noncomputable def S222 (t6 t7 : Nat × Nat) (L : List (List UInt8)) : Nat × List UInt8 → St
 | (0, r) => { fr := [(0, yv19), (1, pt 17)], sz := 25, H := B104 t6 t7 .ready none r (.slice none 0 0) 0 0 0, n := 20, marks := [], vs := [0, 1] }
 | (k + 1, r) => { fr := [(0, yv19), (1, pt 17)], sz := 25, H := (20, .ext (gcs (gunsD (L.take (k + 1)))) 95 7) :: B104 t6 t7 .ready none r (oG (k + 1)) ((k : Int) + 1) 0 0, n := 21, marks := [], vs := [0, 1] }
def outv (Q : List Gun) : Value := if Q = [] then .slice none 0 0 else oG Q.length
def okH (t6 t7 : Nat × Nat) (Q : List Gun) (H : Heap) : Prop := (∀ x ∈ B104 t6 t7 .ready none [] (outv Q) Q.length 0 0, hget H x.1 = some x.2) ∧ (Q ≠ [] → hget H 20 = some (.ext (gcs Q) 95 7))
def badH (t6 t7 : Nat × Nat) (k : Int) (H : Heap) : Prop := ∃ r ov kk, ∀ x ∈ B104 t6 t7 .done (some .ret) r ov kk k 25, hget H x.1 = some x.2
def Q222 (t6 t7 : Nat × Nat) (L : List (List UInt8)) (W : List UInt8) (v : Value) (H : Heap) (n : Nat) : Prop := v = .tuple #[] ∧
 ((goodL L = L.length ∧ W = [] ∧ okH t6 t7 (gunsD L) H ∧ 20 ≤ n ∧ (gunsD L ≠ [] → 21 ≤ n)) ∨ (goodL L < L.length ∧ badH t6 t7 (goodL L) H) ∨ (goodL L = L.length ∧ W ≠ [] ∧ badH t6 t7 L.length H))
theorem gunsD_take (D : List (List UInt8)) (i : Nat) (h : i ≤ D.length) : (gunsD (D.take i)).length = i := by rw [gunsD_len, List.length_take]; omega
set_option maxHeartbeats 8000000 in
set_option maxRecDepth 100000 in
theorem w222 (t6 t7 : Nat × Nat) (s : List UInt8) (hl : s.length ≤ 4096) : ∃ v H' n', AC Tryz.prog 222 [yv19, pt 17] (B104 t6 t7 .ready none s (.slice none 0 0) 0 0 0) 20 v H' n' ∧ Q222 t6 t7 (spD 10 s) (spW 10 s) v H' n' := by
 have hr := recT_ok (P := Tryz.prog) (l := [(223, gIb)]) (by simp only [List.forall_mem_cons]; exact ⟨ok223, by simp⟩)
 obtain ⟨L, hL⟩ : ∃ L, L = spD 10 s := ⟨_, rfl⟩
 obtain ⟨W, hW⟩ : ∃ W, W = spW 10 s := ⟨_, rfl⟩
 have hLl : L.length ≤ 4096 := by
   have := spF_len 10 s [] []
   rw [show (spF 10 s [] []).1 = spD 10 s from rfl, ← hL] at this
   simp at this
   omega
 rw [← hL, ← hW]
 refine AC.bodyX Tryz.func222 rfl (by kernel_rfl) rfl [0, 1] ?_
 refine E.block ?_
 refine E.loop ?_
 refine EL.ind (S222 t6 t7 L) (fun x => x.2.length) (fun x => x.1 ≤ L.length ∧ x.2.length ≤ 4096 ∧ spD 10 x.2 = L.drop x.1 ∧ spW 10 x.2 = W ∧ ∀ j (hj : j < L.length), j < x.1 → linB L[j] = true) (0, s) (.less rfl rfl rfl (by simp [S222]) (by simp [S222])) ⟨Nat.zero_le _, hl, by rw [hL]; rfl, by rw [hW], fun j _ hj => absurd hj (by omega)⟩ (fun x => by obtain ⟨k, r⟩ := x; cases k <;> rfl) ?_
 rintro ⟨k, r⟩ ⟨hk, hrl, hD, hWr, hg⟩
 dsimp only at hk hrl hD hWr hg
 by_cases hr0 : r = []
 · -- the end
   subst hr0
   have hkL : k = L.length := by
     have : L.drop k = [] := by rw [← hD]; rfl
     have := List.drop_eq_nil_iff.1 this
     omega
   have hWn : W = [] := by rw [← hWr]; rfl
   have hgood : goodL L = L.length := goodL_all fun j hj => hg j hj (by omega)
   rcases k with _ | k
   · refine E.seq ?_
     refine E.seq ?_
     refine E.reg hr (by simp [S222]; rfl) ?_
     refine E.cond (t := false) (by rfl) (fun h => by cases h) (fun _ => ?_)
     refine E.exit ?_
     have hL0 : L = [] := List.length_eq_zero_iff.1 hkL.symm
     refine ⟨.inl rfl, .tuple #[], _, _, by simp [leaveF, shutA, resultsA, Tryz.results222, dropOk]; exact ⟨rfl, rfl⟩, rfl, .inl ⟨hgood, hWn, ⟨?_, ?_⟩, ?_⟩⟩
     · rw [hL0]
       simp [outv, gunsD]
     · rw [hL0]
       exact fun h => absurd rfl h
     · rw [hL0]
       exact ⟨Nat.le_refl _, fun h => absurd rfl h⟩
   · refine E.seq ?_
     refine E.seq ?_
     refine E.reg hr (by simp [S222]; rfl) ?_
     refine E.cond (t := false) (by rfl) (fun h => by cases h) (fun _ => ?_)
     refine E.exit ?_
     have hal : L.take (k + 1) = L := List.take_of_length_le (by omega)
     have hpl : (gunsD L).length = k + 1 := by simp [gunsD]; omega
     have hpn : gunsD L ≠ [] := fun h => by rw [h] at hpl; simp at hpl
     refine ⟨.inl rfl, .tuple #[], _, _, by simp [leaveF, shutA, resultsA, Tryz.results222, dropOk]; exact ⟨rfl, rfl⟩, rfl, .inl ⟨hgood, hWn, ⟨?_, ?_⟩, ?_⟩⟩
     · rw [hal, outv, if_neg hpn, hpl]
       simp
     · rw [hal]
       intro _
       simp
     · exact ⟨by omega, fun _ => Nat.le_refl _⟩
 have hrpos : 0 < r.length := List.length_pos_iff.2 hr0
 have hrI : (0 : Int) < (r.length : Int) := by omega
 rcases first_cut 10 r with ⟨h1, h2⟩ | ⟨a, r', h1, h2, h3⟩
 · -- what is left without an end
   have hkL : k = L.length := by
     have : L.drop k = [] := by rw [← hD]; exact (sp_miss h2).1
     have := List.drop_eq_nil_iff.1 this
     omega
   have hWr' : W = r := by rw [← hWr]; exact (sp_miss h2).2
   have hgood : goodL L = L.length := goodL_all fun j hj => hg j hj (by omega)
   obtain ⟨x, hx⟩ : ∃ x, x = prsG (spl 32 r) := ⟨_, rfl⟩
   obtain ⟨p, is⟩ := x
   have hcs := csV_rest h2
   rcases k with _ | k
   · obtain ⟨q, hq, hy⟩ := yield104b0 t6 t7 r r [] p false is hcs hx.symm (.inl rfl) (by omega) (by omega)
     refine E.seq ?_
     refine E.seq ?_
     refine E.reg hr (by simp [S222, hrpos]; rfl) ?_
     refine E.cond (t := true) (by rfl) (fun _ => ?_) (fun h => by cases h)
     refine E.skip ?_
     refine E.block ?_
     refine E.seq ?_
     refine E.reg hr (by simp; rfl) ?_
     refine E.seq ?_
     refine E.seq ?_
     refine E.reg hr (by simp [h1]; rfl) ?_
     refine E.seq ?_
     refine E.reg hr (by simp; rfl) ?_
     refine E.cond (t := false) (by rfl) (fun h => by cases h) (fun _ => ?_)
     refine E.reg hr (by simp; rfl) ?_
     refine E.seq ?_
     refine E.reg hq (by simp [hy]; rfl) ?_
     refine E.cond (t := true) (by rfl) (fun _ => ?_) (fun h => by cases h)
     refine E.ret ?_
     refine ⟨.inr rfl, .tuple #[], _, _, by simp [leaveF, shutA, resultsA, Tryz.results222, dropOk]; exact ⟨rfl, rfl⟩, rfl, .inr (.inr ⟨hgood, by rw [hWr']; exact hr0, [], .slice none 0 0, 0, by rw [← hkL]; simp⟩)⟩
   · have hpl : (gunsD (L.take (k + 1))).length = k + 1 := gunsD_take _ _ (by omega)
     have hpn : gunsD (L.take (k + 1)) ≠ [] := fun h => by rw [h] at hpl; simp at hpl
     obtain ⟨q, hq, hy⟩ := yield104bS t6 t7 r r [] p (gunsD (L.take (k + 1))) (by omega) false is hcs hx.symm (.inl rfl) (by omega) (by omega)
     rw [hpl, show ((k + 1 : Nat) : Int) = (k : Int) + 1 by omega] at hy
     refine E.seq ?_
     refine E.seq ?_
     refine E.reg hr (by simp [S222, hrpos]; rfl) ?_
     refine E.cond (t := true) (by rfl) (fun _ => ?_) (fun h => by cases h)
     refine E.skip ?_
     refine E.block ?_
     refine E.seq ?_
     refine E.reg hr (by simp; rfl) ?_
     refine E.seq ?_
     refine E.seq ?_
     refine E.reg hr (by simp [h1]; rfl) ?_
     refine E.seq ?_
     refine E.reg hr (by simp; rfl) ?_
     refine E.cond (t := false) (by rfl) (fun h => by cases h) (fun _ => ?_)
     refine E.reg hr (by simp; rfl) ?_
     refine E.seq ?_
     refine E.reg hq (by simp [hy]; rfl) ?_
     refine E.cond (t := true) (by rfl) (fun _ => ?_) (fun h => by cases h)
     refine E.ret ?_
     refine ⟨.inr rfl, .tuple #[], _, _, by simp [leaveF, shutA, resultsA, Tryz.results222, dropOk]; exact ⟨rfl, rfl⟩, rfl, .inr (.inr ⟨hgood, by rw [hWr']; exact hr0, [], oG (k + 1), (k : Int) + 1, by rw [← hkL]; simp⟩)⟩
 · -- a line
   have hDr : spD 10 r = a :: spD 10 r' := by rw [h1]; exact (sp_hit h2).1
   have hWr2 : spW 10 r' = W := by rw [← hWr, h1]; exact (sp_hit h2).2.symm
   have hkL : k < L.length := by
     refine Nat.lt_of_not_le fun hc => ?_
     rw [List.drop_eq_nil_of_le hc, hDr] at hD
     cases hD
   rw [List.drop_eq_getElem_cons hkL, hDr] at hD
   injection hD with hD1 hD2
   have hsl : r.length = a.length + (r'.length + 1) := by rw [h1]; simp
   have e1 := slice_hiL (s := r) (b := a.length + 1) (by omega)
   have e2 := slice_loL (s := r) (a := a.length + 1) (by omega)
   rw [show r.take (a.length + 1) = a ++ [10] by rw [h1, List.take_append, List.take_of_length_le (by omega)]; simp] at e1
   rw [show r.drop (a.length + 1) = r' by rw [h1]; simp] at e2
   rw [show (((a.length + 1 : Nat)) : Int) = (a.length : Int) + 1 by omega] at e1 e2
   have hw : IntKind.i64.wrap ((a.length : Int) + 1) = (a.length : Int) + 1 := W_in (by omega) (by omega)
   have ha0 : (0 : Int) ≤ (a.length : Int) := by omega
   have hcs := csV_line a
   have hll : (a ++ [10]).length = a.length + 1 := by simp
   cases hb : linB a with
   | true =>
     have hprs := prs_true hb
     have hnm := lin_name hb
     have hpk := gunsD_succ hkL
     rw [← hD1] at hpk
     obtain ⟨p, hp⟩ : ∃ p, linG a = p := ⟨_, rfl⟩
     rw [hp] at hpk hprs hnm
     have hnext : k + 1 ≤ L.length ∧ r'.length ≤ 4096 ∧ spD 10 r' = L.drop (k + 1) ∧ spW 10 r' = W ∧ ∀ j (hj : j < L.length), j < k + 1 → linB L[j] = true := by
       refine ⟨hkL, by omega, hD2, hWr2, fun j hj hji => ?_⟩
       by_cases e : j = k
       · subst e
         rw [← hD1]; exact hb
       · exact hg j hj (by omega)
     rcases k with _ | k
     · have hpk0 : gunsD (L.take 1) = [p] := by simpa [gunsD] using hpk
       obtain ⟨q, hq, hy⟩ := yield104g0 t6 t7 (a ++ [10]) a r' p hnm hcs hprs (by omega) (by omega)
       refine E.seq ?_
       refine E.seq ?_
       refine E.reg hr (by simp [S222, hrpos]; rfl) ?_
       refine E.cond (t := true) (by rfl) (fun _ => ?_) (fun h => by cases h)
       refine E.skip ?_
       refine E.block ?_
       refine E.seq ?_
       refine E.reg hr (by simp; rfl) ?_
       refine E.seq ?_
       refine E.seq ?_
       refine E.reg hr (by simp [h3]; rfl) ?_
       refine E.seq ?_
       refine E.reg hr (by simp; rfl) ?_
       refine E.cond (t := true) (by rfl) (fun _ => ?_) (fun h => by cases h)
       refine E.drawC mixed hr [9] [] [0, 3, 4, 7, 9] (by kernel_rfl) (by simp [opSlice, evI, hw, e1, e2]; rfl) ?_
       refine E.seq ?_
       refine E.reg hq (by simp [hy]; rfl) ?_
       refine E.cond (t := false) (by rfl) (fun h => by cases h) (fun _ => ?_)
       refine E.skip ?_
       exact ⟨(1, r'), Leads.ren2 [22] rfl rfl rfl ⟨rfl, rfl⟩ (by simp [S222]) (by simp [S222, hpk0, -scB]), hnext, by dsimp only; omega⟩
     · have hpl : (gunsD (L.take (k + 1))).length = k + 1 := gunsD_take _ _ (by omega)
       have hpn : gunsD (L.take (k + 1)) ≠ [] := fun h => by rw [h] at hpl; simp at hpl
       obtain ⟨q, hq, hy⟩ := yield104gS t6 t7 (a ++ [10]) a r' p (gunsD (L.take (k + 1))) (by omega) hnm hcs hprs (by omega) (by omega)
       rw [hpl, show ((k + 1 : Nat) : Int) = (k : Int) + 1 by omega] at hy
       refine E.seq ?_
       refine E.seq ?_
       refine E.reg hr (by simp [S222, hrpos]; rfl) ?_
       refine E.cond (t := true) (by rfl) (fun _ => ?_) (fun h => by cases h)
       refine E.skip ?_
       refine E.block ?_
       refine E.seq ?_
       refine E.reg hr (by simp; rfl) ?_
       refine E.seq ?_
       refine E.seq ?_
       refine E.reg hr (by simp [h3]; rfl) ?_
       refine E.seq ?_
       refine E.reg hr (by simp; rfl) ?_
       refine E.cond (t := true) (by rfl) (fun _ => ?_) (fun h => by cases h)
       refine E.drawC mixed hr [9] [] [0, 3, 4, 7, 9] (by kernel_rfl) (by simp [opSlice, evI, hw, e1, e2]; rfl) ?_
       refine E.seq ?_
       refine E.reg hq (by simp [hy]; rfl) ?_
       refine E.cond (t := false) (by rfl) (fun h => by cases h) (fun _ => ?_)
       refine E.skip ?_
       exact ⟨(k + 1 + 1, r'), Leads.ren2 [23] rfl rfl rfl ⟨rfl, rfl⟩ (by simp [S222]) (by simp [S222, hpk, -scB]), hnext, by dsimp only; omega⟩
   | false =>
     have hgb : goodL L = k := goodL_bad hkL hg (by rw [← hD1]; exact hb)
     obtain ⟨x, hx⟩ : ∃ x, x = prsG (spl 32 a) := ⟨_, rfl⟩
     have hxb : (prsG (spl 32 a)).2 = false := by rw [prs_iff]; exact hb
     rw [← hx] at hxb
     obtain ⟨p, is⟩ := x
     dsimp only at hxb
     rcases k with _ | k
     · obtain ⟨q, hq, hy⟩ := yield104b0 t6 t7 (a ++ [10]) a r' p true is hcs hx.symm (.inr hxb) (by omega) (by omega)
       refine E.seq ?_
       refine E.seq ?_
       refine E.reg hr (by simp [S222, hrpos]; rfl) ?_
       refine E.cond (t := true) (by rfl) (fun _ => ?_) (fun h => by cases h)
       refine E.skip ?_
       refine E.block ?_
       refine E.seq ?_
       refine E.reg hr (by simp; rfl) ?_
       refine E.seq ?_
       refine E.seq ?_
       refine E.reg hr (by simp [h3]; rfl) ?_
       refine E.seq ?_
       refine E.reg hr (by simp; rfl) ?_
       refine E.cond (t := true) (by rfl) (fun _ => ?_) (fun h => by cases h)
       refine E.drawC mixed hr [9] [] [0, 3, 4, 7, 9] (by kernel_rfl) (by simp [opSlice, evI, hw, e1, e2]; rfl) ?_
       refine E.seq ?_
       refine E.reg hq (by simp [hy]; rfl) ?_
       refine E.cond (t := true) (by rfl) (fun _ => ?_) (fun h => by cases h)
       refine E.ret ?_
       refine ⟨.inr rfl, .tuple #[], _, _, by simp [leaveF, shutA, resultsA, Tryz.results222, dropOk]; exact ⟨rfl, rfl⟩, rfl, .inr (.inl ⟨by omega, r', .slice none 0 0, 0, by rw [hgb]; simp⟩)⟩
     · have hpl : (gunsD (L.take (k + 1))).length = k + 1 := gunsD_take _ _ (by omega)
       have hpn : gunsD (L.take (k + 1)) ≠ [] := fun h => by rw [h] at hpl; simp at hpl
       obtain ⟨q, hq, hy⟩ := yield104bS t6 t7 (a ++ [10]) a r' p (gunsD (L.take (k + 1))) (by omega) true is hcs hx.symm (.inr hxb) (by omega) (by omega)
       rw [hpl, show ((k + 1 : Nat) : Int) = (k : Int) + 1 by omega] at hy
       refine E.seq ?_
       refine E.seq ?_
       refine E.reg hr (by simp [S222, hrpos]; rfl) ?_
       refine E.cond (t := true) (by rfl) (fun _ => ?_) (fun h => by cases h)
       refine E.skip ?_
       refine E.block ?_
       refine E.seq ?_
       refine E.reg hr (by simp; rfl) ?_
       refine E.seq ?_
       refine E.seq ?_
       refine E.reg hr (by simp [h3]; rfl) ?_
       refine E.seq ?_
       refine E.reg hr (by simp; rfl) ?_
       refine E.cond (t := true) (by rfl) (fun _ => ?_) (fun h => by cases h)
       refine E.drawC mixed hr [9] [] [0, 3, 4, 7, 9] (by kernel_rfl) (by simp [opSlice, evI, hw, e1, e2]; rfl) ?_
       refine E.seq ?_
       refine E.reg hq (by simp [hy]; rfl) ?_
       refine E.cond (t := true) (by rfl) (fun _ => ?_) (fun h => by cases h)
       refine E.ret ?_
       refine ⟨.inr rfl, .tuple #[], _, _, by simp [leaveF, shutA, resultsA, Tryz.results222, dropOk]; exact ⟨rfl, rfl⟩, rfl, .inr (.inl ⟨by omega, r', oG (k + 1), (k : Int) + 1, by rw [hgb]; simp⟩)⟩
end Go.Proofs.YtndlfijfjglkdaaGreatDoor

namespace Go.Proofs.YtndlfijfjglkdaaGreatDoor
open Go Go.Ab Go.Proofs Go.RowKit
abbrev tupS3 (u : Value) (a e : Int) : Value := .tuple #[.agg ⟨[u]⟩, iv a, iv e]
def q104 (s : List UInt8) (v : Value) (H : Heap) : Prop := match (parG s).guns with
 | [] => v = tupS3 (.slice none 0 0) (parG s).at' (parG s).err
 | p :: l => ∃ m, v = tupS3 (.slice (some ⟨m, 0, some 0⟩) (l.length + 1) 0) 0 0 ∧ hget H m = some (.ext (gcs (p :: l)) 95 7) ∧ 12 ≤ m
theorem q104_nil {s : List UInt8} {a e : Int} {H : Heap} (h : parG s = ⟨[], a, e⟩) : q104 s (tupS3 (.slice none 0 0) a e) H := by
 unfold q104
 rw [h]
theorem q104_cons {s : List UInt8} {Q : List Gun} {H : Heap} {m : Nat} (h : parG s = ⟨Q, 0, 0⟩) (hne : Q ≠ []) (hm : hget H m = some (.ext (gcs Q) 95 7)) (h9 : 12 ≤ m) : q104 s (tupS3 (.slice (some ⟨m, 0, some 0⟩) Q.length 0) 0 0) H := by
 unfold q104
 rw [h]
 cases Q with
 | nil => exact absurd rfl hne
 | cons q Q => exact ⟨m, rfl, hm, h9⟩
theorem ent222 : enterable Tryz.prog 222 = true := by kernel_rfl
set_option maxHeartbeats 16000000 in
set_option maxRecDepth 100000 in
theorem w104 (t6 t7 : Nat × Nat) (s : List UInt8) (hl : s.length < 2147483648) : ∃ v H' n', AC Tryz.prog 104 [sL s] (GE t6 t7) 12 v H' n' ∧ q104 s v H' := by
 have hr := recT_ok (P := Tryz.prog) (l := [(31, g31)]) (by simp only [List.forall_mem_cons]; exact ⟨ok31, by simp⟩)
 refine AC.bodyX (Q := fun v H _ => q104 s v H) Tryz.func104 rfl (by kernel_rfl) rfl vs104 ?_
 refine E.seq ?_
 refine E.reg hr (by simp; rfl) ?_
 refine E.seq ?_
 refine E.seq ?_
 refine E.reg hr (by simp; rfl) ?_
 refine E.cond (by rfl) (fun h => ?_) (fun h => ?_)
 · simp at h
   refine E.seq ?_
   refine E.reg hr (by simp [build32z]; rfl) ?_
   refine E.ret ?_
   exact ⟨.inr rfl, _, _, _, by simp [leaveF, shutA, resultsA, resultA, Tryz.results104, dropOk]; first | exact ⟨⟨rfl, rfl⟩, rfl, rfl⟩ | exact ⟨rfl, rfl, rfl⟩ | exact ⟨rfl, rfl⟩ | rfl, q104_nil (parG_long (by omega))⟩
 · simp at h
   have hn : ¬ 4096 < s.length := by omega
   refine E.skip ?_
   refine E.seq ?_
   refine E.reg hr (by simp; rfl) ?_
   refine E.seq ?_
   refine E.reg hr (by simp; rfl) ?_
   refine E.seq ?_
   refine E.seq ?_
   obtain ⟨q, hq, hc⟩ := call_of (w180 s ((16, .cells [iv 0] 3) :: (15, .cells [.slice none 0 0] 32) :: (14, .cells [iv 0] 27) :: (13, .cells [iv 0] 3) :: (12, .cells [.slice none 0 0] 32) :: GE t6 t7) 17)
   refine E.reg hq (by simp [hc]; rfl) ?_
   refine E.block ?_
   refine E.lead { fr := fr104, sz := 59, H := (B104 t6 t7 .ready none s (.slice none 0 0) 0 0 0).drop 2, n := 18, marks := [], vs := vs104 } (.less rfl rfl rfl (by simp) (by simp)) ?_
   obtain ⟨v, H', n', hAC, hv, hcase⟩ := w222 t6 t7 s (by omega)
   subst hv
   obtain ⟨L, hL⟩ : ∃ L, L = spD 10 s := ⟨_, rfl⟩
   rw [← hL] at hcase
   have hLl : L.length ≤ 4096 := by
     have := spF_len 10 s [] []
     rw [show (spF 10 s [] []).1 = spD 10 s from rfl, ← hL] at this
     simp at this
     omega
   rcases hcase with ⟨hg, hW, ⟨hok, hok2⟩, hok0, hok3⟩ | ⟨hg, r', ov, kk, hb⟩ | ⟨hg, hW, r', ov, kk, hb⟩
   · have h19 := hok (19, _) (List.mem_cons_self ..)
     have h18 := hok (18, _) (List.mem_cons_of_mem _ (List.mem_cons_self ..))
     have h16 : hget H' 16 = some (.cells [iv (gunsD L).length] 3) := hok (16, _) (by simp)
     have h15 : hget H' 15 = some (.cells [outv (gunsD L)] 32) := hok (15, _) (by simp)
     have h14 : hget H' 14 = some (.cells [iv 0] 27) := hok (14, _) (by simp)
     have h13 : hget H' 13 = some (.cells [iv 0] 3) := hok (13, _) (by simp)
     have h12 : hget H' 12 = some (.cells [.slice none 0 0] 32) := hok (12, _) (by simp)
     have hQL : (gunsD L).length = L.length := gunsD_len L
     obtain ⟨Q, hQ⟩ : ∃ Q, Q = gunsD L := ⟨_, rfl⟩
     rw [← hQ] at h15 h16 hok2 hok3 hQL
     have hQl : Q.length ≤ 4096 := by omega
     by_cases hQ0 : Q = []
     · subst hQ0
       have hpv := parG_err hn (by rw [← hL]; exact hg) hW (by rw [← hL, ← hQ]; decide)
       rw [← hL, ← hQ, ← hQL, show strE [] = 12 from rfl] at hpv
       refine E.rangeC (r := recV Tryz.prog (fun _ _ _ => none) (fun _ _ _ _ => some (.tuple #[], H', n'))) recV_ok { fr := fr104, sz := 59, H := [(18, .defd), (16, .cells [iv 0] 3), (15, .cells [.slice none 0 0] 32), (14, .cells [iv 0] 27), (13, .cells [iv 0] 3), (12, .cells [.slice none 0 0] 32)], n := n', marks := [18], vs := vs104 } (rangeF_of rfl ent222 (recV_call rfl hAC) h19) rfl rfl rfl (by simp) (by simp [hget_hset, h18, h16, h15, h14, h13, h12, outv]) ?_
       refine E.seq ?_
       refine E.seq ?_
       refine E.reg hr (by simp [g31, show strE [] = 12 from rfl]; rfl) ?_
       refine E.seq ?_
       refine E.reg hr (by simp; rfl) ?_
       refine E.cond (t := true) (by rfl) (fun _ => ?_) (fun h => by cases h)
       refine E.seq ?_
       have l1 : 18 < n' ∧ 16 < n' ∧ 15 < n' ∧ 14 < n' ∧ 13 < n' ∧ 12 < n' := by omega
       have l2 : ¬ n' ≤ 18 ∧ ¬ n' ≤ 16 ∧ ¬ n' ≤ 15 ∧ ¬ n' ≤ 14 ∧ ¬ n' ≤ 13 ∧ ¬ n' ≤ 12 := by omega
       refine E.drawW mixed hr [4, 5] [] [1, 3, 4, 5] [0, 1, 2] 3 (by kernel_rfl) (by simp [l1, l2, build32z]; rfl) ?_
       refine E.ret ?_
       exact ⟨.inr rfl, _, _, _, by simp [leaveF, shutA, resultsA, resultA, Tryz.results104, dropOk]; first | exact ⟨⟨rfl, rfl⟩, rfl, rfl⟩ | exact ⟨rfl, rfl, rfl⟩ | exact ⟨rfl, rfl⟩ | rfl, q104_nil hpv⟩
     · have h20 := hok2 hQ0
       have hov : outv Q = oG Q.length := by unfold outv; rw [if_neg hQ0]
       rw [hov] at h15
       have hpos : 0 < Q.length := List.length_pos_iff.2 hQ0
       have hg31 : ∀ (H : Heap) m, hget H 20 = some (.ext (gcs Q) 95 7) → g31 [.agg ⟨[oG Q.length]⟩] H m = some (iv (strE Q), H, m) := fun H m hH => OwnG.check ⟨20, rfl, .inl hH, hpos, by omega⟩ m
       refine E.rangeC (r := recV Tryz.prog (fun _ _ _ => none) (fun _ _ _ _ => some (.tuple #[], H', n'))) recV_ok { fr := fr104, sz := 59, H := [(20, .ext (gcs Q) 95 7), (18, .defd), (16, .cells [iv Q.length] 3), (15, .cells [oG Q.length] 32), (14, .cells [iv 0] 27), (13, .cells [iv 0] 3), (12, .cells [.slice none 0 0] 32)], n := n', marks := [18], vs := vs104 } (rangeF_of rfl ent222 (recV_call rfl hAC) h19) rfl rfl rfl (by simp) (by simp [hget_hset, h20, h18, h16, h15, h14, h13, h12]) ?_
       refine E.seq ?_
       refine E.seq ?_
       refine E.reg hr (by simp [hg31]; rfl) ?_
       refine E.seq ?_
       by_cases he : strE Q = 0
       · have hpv := parG_ok hn (by rw [← hL]; exact hg) hW (by rw [← hL, ← hQ]; exact he)
         rw [← hL, ← hQ] at hpv
         refine E.reg hr (by simp [he]; rfl) ?_
         refine E.cond (t := false) (by rfl) (fun h => by cases h) (fun _ => ?_)
         refine E.skip ?_
         refine E.seq ?_
         refine E.reg hr (by simp; rfl) ?_
         refine E.ret ?_
         exact ⟨.inr rfl, _, _, _, by simp [leaveF, shutA, resultsA, resultA, Tryz.results104, dropOk]; first | exact ⟨⟨rfl, rfl⟩, rfl, rfl⟩ | exact ⟨rfl, rfl, rfl⟩ | exact ⟨rfl, rfl⟩ | rfl, q104_cons hpv hQ0 (by simp) (by omega)⟩
       · have hpv := parG_err hn (by rw [← hL]; exact hg) hW (by rw [← hL, ← hQ]; exact he)
         rw [← hL, ← hQ, ← hQL] at hpv
         refine E.reg hr (by simp [he]; rfl) ?_
         refine E.cond (t := true) (by rfl) (fun _ => ?_) (fun h => by cases h)
         refine E.seq ?_
         have hn21 := hok3 hQ0
         have l1 : 20 < n' ∧ 18 < n' ∧ 16 < n' ∧ 15 < n' ∧ 14 < n' ∧ 13 < n' ∧ 12 < n' := by omega
         have l2 : ¬ n' ≤ 20 ∧ ¬ n' ≤ 18 ∧ ¬ n' ≤ 16 ∧ ¬ n' ≤ 15 ∧ ¬ n' ≤ 14 ∧ ¬ n' ≤ 13 ∧ ¬ n' ≤ 12 := by omega
         refine E.drawW mixed hr [4, 5] [] [1, 3, 4, 5] [0, 1, 2] 3 (by kernel_rfl) (by simp [l1, l2, build32z]; rfl) ?_
         refine E.ret ?_
         exact ⟨.inr rfl, _, _, _, by simp [leaveF, shutA, resultsA, resultA, Tryz.results104, dropOk]; first | exact ⟨⟨rfl, rfl⟩, rfl, rfl⟩ | exact ⟨rfl, rfl, rfl⟩ | exact ⟨rfl, rfl⟩ | rfl, q104_nil hpv⟩
   · have h19 := hb (19, _) (List.mem_cons_self ..)
     have h18 := hb (18, _) (List.mem_cons_of_mem _ (List.mem_cons_self ..))
     have h14 : hget H' 14 = some (.cells [iv 25] 27) := hb (14, _) (by simp)
     have h13 : hget H' 13 = some (.cells [iv (goodL L)] 3) := hb (13, _) (by simp)
     have h12 : hget H' 12 = some (.cells [.slice none 0 0] 32) := hb (12, _) (by simp)
     refine E.rangeC (r := recV Tryz.prog (fun _ c st => match c with | .ret => some (.ret, st) | _ => none) (fun _ _ _ _ => some (.tuple #[], H', n'))) recV_ok { fr := fr104, sz := 59, H := [(18, .defd), (14, .cells [iv 25] 27), (13, .cells [iv (goodL L)] 3), (12, .cells [.slice none 0 0] 32)], n := n', marks := [18], vs := vs104 } (rangeF_ret rfl ent222 (recV_call rfl hAC) h19 (recV_code (by intro b h; cases h) rfl AT.ret)) rfl rfl rfl (by simp) (by simp [hget_hset, h18, h14, h13, h12]) ?_
     exact ⟨.inr rfl, _, _, _, by simp [leaveF, shutA, resultsA, resultA, Tryz.results104, dropOk]; first | exact ⟨⟨rfl, rfl⟩, rfl, rfl⟩ | exact ⟨rfl, rfl, rfl⟩ | exact ⟨rfl, rfl⟩ | rfl, q104_nil (by rw [hL]; exact parG_bad hn (by rw [← hL]; exact hg) rfl)⟩
   · have h19 := hb (19, _) (List.mem_cons_self ..)
     have h18 := hb (18, _) (List.mem_cons_of_mem _ (List.mem_cons_self ..))
     have h14 : hget H' 14 = some (.cells [iv 25] 27) := hb (14, _) (by simp)
     have h13 : hget H' 13 = some (.cells [iv (L.length)] 3) := hb (13, _) (by simp)
     have h12 : hget H' 12 = some (.cells [.slice none 0 0] 32) := hb (12, _) (by simp)
     refine E.rangeC (r := recV Tryz.prog (fun _ c st => match c with | .ret => some (.ret, st) | _ => none) (fun _ _ _ _ => some (.tuple #[], H', n'))) recV_ok { fr := fr104, sz := 59, H := [(18, .defd), (14, .cells [iv 25] 27), (13, .cells [iv (L.length)] 3), (12, .cells [.slice none 0 0] 32)], n := n', marks := [18], vs := vs104 } (rangeF_ret rfl ent222 (recV_call rfl hAC) h19 (recV_code (by intro b h; cases h) rfl AT.ret)) rfl rfl rfl (by simp) (by simp [hget_hset, h18, h14, h13, h12]) ?_
     exact ⟨.inr rfl, _, _, _, by simp [leaveF, shutA, resultsA, resultA, Tryz.results104, dropOk]; first | exact ⟨⟨rfl, rfl⟩, rfl, rfl⟩ | exact ⟨rfl, rfl, rfl⟩ | exact ⟨rfl, rfl⟩ | rfl, q104_nil (by rw [hL]; exact parG_left hn (by rw [← hL]; exact hg) hW)⟩
end Go.Proofs.YtndlfijfjglkdaaGreatDoor

namespace Go.Proofs.YtndlfijfjglkdaaGreatDoor
open Go Go.Ab Go.Proofs Go.RowKit
attribute [local simp] run_vcall_tmp vcallF target opNilcheck
noncomputable def g178 (args : List Value) (H : Heap) (n : Nat) : R := orc 178 args H n
theorem ok178 : EntOk Tryz.prog (178, g178) := fun _args _H _n _v _H' _n' h => orcOk _ _ _ _ _ _ _ h
theorem strsA_sls (l : List (List UInt8)) : strsA (sls l) = some (l.map bA) := by
 induction l with
 | nil => rfl
 | cons x l ih =>
   show (strsA (sls l)).map (bA x :: ·) = _
   rw [ih]; rfl
theorem join_flat : ∀ l : List (List UInt8), Lib.join l [] = l.flatten
 | [] => rfl
 | [x] => by simp [Lib.join, List.intercalate, List.intersperse]
 | x :: y :: l => by
   have := join_flat (y :: l)
   simp [Lib.join, List.intercalate, List.intersperse] at this ⊢
   simpa using this
theorem g178_row {l : List (List UInt8)} {m n : Nat} {H : Heap} {sep : List UInt8} (hm : hget H m = some (.ext (sls l) 9 1)) (hl : l.length ≤ 140737488355328) (hlen : (Lib.join l sep).length ≤ 140737488355328) : g178 [.slice (some ⟨m, 0, some 0⟩) l.length 0, sL sep] H n = some (sL (Lib.join l sep), H, n) := by
 have hj : joinV (l.map bA) (bA sep) = Lib.join l sep := by
   show Lib.join ((l.map bA).map (·.data.toList)) sep = _
   rw [List.map_map, show ((fun x : ByteArray => x.data.toList) ∘ bA) = id from by funext x; rfl, List.map_id]
 have hc : cellsA H m 0 l.length = some (sls l) := by
   unfold cellsA
   rw [hm]
   simp [List.take_of_length_le]
 have hr : roomy H ⟨m, 0, some 0⟩ l.length 0 = true := by
   unfold roomy
   simp only [hm]
   rfl
 have ho : orcJ H ⟨m, 0, some 0⟩ l.length 0 (bA sep) = some (sL (Lib.join l sep)) := by
   unfold orcJ
   rw [hr]
   simp only [hc, Option.bind_some, strsA_sls]
   rw [hj]
   have h1 : Nat.ble (Lib.join l sep).length 140737488355328 = true := Nat.ble_eq_true_of_le hlen
   have h2 : Nat.ble l.length 140737488355328 = true := Nat.ble_eq_true_of_le hl
   rw [h1, h2]
   rfl
 unfold g178 orc orcV
 simp only [ho]
def dzs (ns : List Int) : List Value := sls (ns.map dz)
@[simp] theorem dzs_length (ns : List Int) : (dzs ns).length = ns.length := by simp [dzs]
@[simp] theorem renL_dzs (ρ : Nat → Nat) (ns : List Int) : renL ρ (dzs ns) = dzs ns := renL_sls ρ _
@[simp] theorem scL_dzs (p : Nat → Prop) (ns : List Int) : scL p (dzs ns) := scL_sls p _
abbrev fn220 : Value := .func (.func 220) #[] #[]
def ivs (ns : List Int) : List Value := ns.map iv
@[simp] theorem ivs_length (ns : List Int) : (ivs ns).length = ns.length := List.length_map ..
theorem ivs_get {ns : List Int} {i : Nat} (h : i < ns.length) : (ivs ns)[i]? = some (iv ns[i]) := by simp [ivs, h]
@[simp] theorem afL_ivs : ∀ ns : List Int, afL (ivs ns) = true
 | [] => rfl
 | _ :: ns => by
   have := afL_ivs ns
   unfold ivs at this ⊢
   simp [af, this]
@[simp] theorem renL_ivs (ρ : Nat → Nat) (ns : List Int) : renL ρ (ivs ns) = ivs ns := by rw [renL_eq, ivs, List.map_map]; rfl
@[simp] theorem scL_ivs (p : Nat → Prop) (ns : List Int) : scL p (ivs ns) := scL_af p _ (afL_ivs ns)
abbrev H171I (ns : List Int) (gc : List Value) : Heap := [(11, .cells (ivs ns) 3), (10, .cells gc 95), (3, .tab tab3)]
noncomputable def S171I (ns : List Int) (g : Gun) : Nat → St
 | 0 => { fr := [(1, fn220), (5, .slice none 0 0), (8, .slice (some ⟨11, 0, none⟩) ns.length ns.length), (9, iv ns.length), (10, iv 0)], sz := 22, H := H171I ns g.cells, n := 12, marks := [], vs := [1, 5, 8, 9, 10] }
 | i + 1 => { fr := [(1, fn220), (5, .slice (some ⟨12, 0, some 0⟩) (i + 1) 0), (8, .slice (some ⟨11, 0, none⟩) ns.length ns.length), (9, iv ns.length), (10, iv (i + 1 : Nat))], sz := 22, H := (12, .ext (dzs (ns.take (i + 1))) 9 1) :: H171I ns g.cells, n := 13, marks := [], vs := [1, 5, 8, 9, 10] }
set_option maxHeartbeats 4000000 in
set_option maxRecDepth 100000 in
theorem w171I (ns : List Int) (g : Gun) (hb : ∀ x ∈ ns, -1000 ≤ x ∧ x ≤ 1000) (hne : ns ≠ []) (hl : ns.length ≤ 64) : AC Tryz.prog 171 [.slice (some ⟨11, 0, none⟩) ns.length ns.length, fn220] (H171I ns g.cells) 12 (.slice (some ⟨12, 0, some 0⟩) ns.length 0) ((12, .ext (dzs ns) 9 1) :: H171I ns g.cells) 13 := by
 have hr := recT_ok (P := Tryz.prog) (l := [(220, g220)]) (by simp only [List.forall_mem_cons]; exact ⟨ok220, by simp⟩)
 have hpos : 0 < ns.length := List.length_pos_iff.2 hne
 have hcall : ∀ (i : Nat) (hi : i < ns.length) (H : Heap) n, hget H 3 = some (.tab tab3) → g220 [iv ns[i]] H n = some (sL (dz ns[i]), H, n) := fun i hi H n h3 => by
   have := hb _ (List.getElem_mem hi)
   simp only [g220]
   rw [if_pos ⟨by omega, by omega, h3⟩]
 have hmap : ∀ i (hi : i < ns.length), (ivs ns)[i]? = some (iv ns[i]) := fun i hi => ivs_get hi
 refine AC.body Tryz.func171 rfl (by kernel_rfl) rfl [1, 5, 8, 9, 10] ?_
 refine E.seq ?_
 refine E.reg hr (by simp; rfl) ?_
 refine E.seq ?_
 refine E.reg hr (by simp; rfl) ?_
 refine E.seq ?_
 refine E.seq ?_
 refine E.reg hr (by simp; rfl) ?_
 refine E.block ?_
 refine E.loop ?_
 refine EL.ind (S171I ns g) (fun i => ns.length - i) (fun i => i ≤ ns.length) 0 (.less rfl rfl rfl (by simp [S171I]) (by simp [S171I])) (Nat.zero_le _) (fun i => by cases i <;> rfl) ?_
 intro i hi
 rcases i with _ | i
 · have hx := hmap 0 hpos
   have hc := hcall 0 hpos
   have hts : dzs (ns.take 1) = [sL (dz ns[0])] := by
     rw [List.take_succ_eq_append_getElem hpos]
     rfl
   obtain ⟨a, ha⟩ : ∃ a, ns[0] = a := ⟨_, rfl⟩
   have hxe : ∀ h, (ivs ns)[0]'h = iv ns[0] := fun h => by simp [ivs]
   rw [ha] at hx hc hts hxe
   have hpI : (0 : Int) < ns.length := by omega
   refine E.seq ?_
   refine E.reg hr (by simp [S171I]; rfl) ?_
   refine E.seq ?_
   refine E.cond (t := true) (by simp [hpos]) (fun _ => ?_) (fun h => by cases h)
   refine E.skip ?_
   refine E.seq ?_
   refine E.block ?_
   refine E.seq ?_
   refine E.reg hr (by simp [hxe, hpos]; rfl) ?_
   refine E.reg hr (by simp [hc]; rfl) ?_
   refine E.reg hr (by simp; rfl) ?_
   exact ⟨1, Leads.ren [13] rfl rfl rfl ⟨rfl, rfl⟩ (by simp [S171I]) (by simp [S171I, hts]), by omega, by dsimp only; omega⟩
 · have hw : IntKind.i64.wrap ((i : Int) + 1 + 1) = (i : Int) + 1 + 1 := W_in (by omega) (by omega)
   by_cases hlt : i + 1 < ns.length
   · have hltI : (i : Int) + 1 < ns.length := by omega
     have hx := hmap (i + 1) hlt
     have hc := hcall (i + 1) hlt
     have hts : dzs (ns.take (i + 1 + 1)) = dzs (ns.take (i + 1)) ++ [sL (dz ns[i + 1])] := by
       rw [dzs, List.take_succ_eq_append_getElem hlt, List.map_append, sls_append]
       rfl
     obtain ⟨a, ha⟩ : ∃ a, ns[i + 1] = a := ⟨_, rfl⟩
     have hxe : ∀ h, (ivs ns)[i + 1]'h = iv ns[i + 1] := fun h => by simp [ivs]
     rw [ha] at hx hc hts hxe
     obtain ⟨cs, hcs⟩ : ∃ cs, dzs (ns.take (i + 1)) = cs := ⟨_, rfl⟩
     have hsl : cs.length = i + 1 := by rw [← hcs, dzs_length, List.length_take]; omega
     have hren : ∀ ρ, renL ρ cs = cs := fun ρ => by rw [← hcs]; exact renL_dzs ρ _
     have hscl : ∀ p, scL p cs := fun p => by rw [← hcs]; exact scL_dzs p _
     rw [hcs] at hts
     have ht : List.take (i + 1) cs = cs := List.take_of_length_le (by omega)
     have hno : ¬ i + 1 + 1 ≤ i + 1 := by omega
     have hsm : (i + 1 + 1) * 16 ≤ 1099511627776 ∧ i + 1 + 1 ≤ 1099511627776 := by omega
     refine E.seq ?_
     refine E.reg hr (by simp [S171I, hcs]; rfl) ?_
     refine E.seq ?_
     refine E.cond (t := true) (by simp [hltI]) (fun _ => ?_) (fun h => by cases h)
     refine E.skip ?_
     refine E.seq ?_
     refine E.block ?_
     refine E.seq ?_
     refine E.reg hr (by simp [hxe, hltI, hlt]; rfl) ?_
     refine E.reg hr (by simp [hc, hsm, ht, hsl, hno]; rfl) ?_
     refine E.reg hr (by simp [hw]; rfl) ?_
     exact ⟨i + 1 + 1, Leads.ren [14] rfl rfl rfl ⟨rfl, rfl⟩ (by simp [S171I]) (by simp [S171I, hts, hren, hscl]), by omega, by dsimp only; omega⟩
   · have hltI : ¬ (i : Int) + 1 < ns.length := by omega
     have hal : ns.take (i + 1) = ns := List.take_of_length_le (by omega)
     have hll : ns.length = i + 1 := by omega
     refine E.seq ?_
     refine E.reg hr (by simp [S171I]; rfl) ?_
     refine E.seq ?_
     refine E.cond (t := false) (by simp [hltI]) (fun h => by cases h) (fun _ => ?_)
     refine E.exit ?_
     refine E.seq ?_
     refine E.reg hr (by simp; rfl) ?_
     refine E.ret ?_
     exact ⟨.inr rfl, by simp [hal, leaveF, shutA, resultsA, resultA, Tryz.results171, dropOk, hll]⟩
theorem zeroX8 : (Builtin.zeroCells #[.string ⟨#[]⟩] 8).toList = [sL [], sL [], sL [], sL [], sL [], sL [], sL [], sL []] := by kernel_rfl
theorem w264 {H : Heap} {n : Nat} : AC Tryz.prog 264 [.slice none 0 0, iv 8] H n (.slice (some ⟨n, 0, some 0⟩) 0 0) ((n, .ext [sL [], sL [], sL [], sL [], sL [], sL [], sL [], sL []] 9 1) :: H) (n + 1) := by
 have hr := recT_ok (P := Tryz.prog) (l := []) (by simp)
 have w8 : IntKind.i64.wrap 8 = 8 := W_in (by omega) (by omega)
 refine AC.body Tryz.func264 rfl (by kernel_rfl) rfl [] ?_
 refine E.seq ?_
 refine E.reg hr (by simp; rfl) ?_
 refine E.seq ?_
 refine E.seq ?_
 refine E.reg hr (by simp; rfl) ?_
 refine E.cond (t := false) (by rfl) (fun h => by cases h) (fun _ => ?_)
 refine E.skip ?_
 refine E.seq ?_
 refine E.seq ?_
 refine E.reg hr (by simp [w8]; rfl) ?_
 refine E.seq ?_
 refine E.reg hr (by simp; rfl) ?_
 refine E.cond (t := true) (by rfl) (fun _ => ?_) (fun h => by cases h)
 refine E.reg hr (by simp [opSlice, evI, sliceA, boundA, zeroX8]; rfl) ?_
 refine E.seq ?_
 refine E.reg hr (by simp; rfl) ?_
 refine E.ret ?_
 exact ⟨.inr rfl, by simp [leaveF, shutA, resultsA, resultA, Tryz.results264, dropOk]⟩
end Go.Proofs.YtndlfijfjglkdaaGreatDoor

namespace Go.Proofs.YtndlfijfjglkdaaGreatDoor
open Go Go.Ab Go.Proofs Go.RowKit
attribute [local simp] run_vcall_tmp vcallF target opNilcheck
abbrev H221 (a b d0 d1 d2 d3 d4 d5 : List UInt8) (ns : List Int) (gc : List Value) : Heap := (14, .cells [.slice (some ⟨13, 0, none⟩) 2 2, .slice (some ⟨12, 0, some 0⟩) 6 0] 102) :: (13, .cells [sL a, sL b] 9) :: (12, .ext [sL d0, sL d1, sL d2, sL d3, sL d4, sL d5] 9 1) :: H171I ns gc
set_option maxHeartbeats 8000000 in
set_option maxRecDepth 100000 in
theorem w221 (a b d0 d1 d2 d3 d4 d5 : List UInt8) (ns : List Int) (gc : List Value) : AC Tryz.prog 221 [.slice (some ⟨14, 0, none⟩) 2 2] (H221 a b d0 d1 d2 d3 d4 d5 ns gc) 15 (.slice (some ⟨15, 0, some 0⟩) 8 0) ((15, .ext [sL a, sL b, sL d0, sL d1, sL d2, sL d3, sL d4, sL d5] 9 1) :: H221 a b d0 d1 d2 d3 d4 d5 ns gc) 16 := by
 have hr := recT_ok (P := Tryz.prog) (l := []) (by simp)
 have w2 : IntKind.i64.wrap 2 = 2 := W_in (by omega) (by omega)
 have w8 : IntKind.i64.wrap 8 = 8 := W_in (by omega) (by omega)
 have w1 : IntKind.i64.wrap 1 = 1 := W_in (by omega) (by omega)
 refine AC.body Tryz.func221 rfl (by kernel_rfl) rfl [0, 2, 3, 5, 6, 8, 9, 10, 11, 25, 26, 27] ?_
 refine E.seq ?_
 refine E.reg hr (by simp; rfl) ?_
 refine E.seq ?_
 refine E.reg hr (by simp; rfl) ?_
 refine E.seq ?_
 refine E.seq ?_
 refine E.reg hr (by simp; rfl) ?_
 refine E.block ?_
 refine E.loop ?_
 refine EL.step ?_
 refine E.seq ?_
 refine E.reg hr (by simp; rfl) ?_
 refine E.seq ?_
 refine E.cond (t := true) (by rfl) (fun _ => ?_) (fun h => by cases h)
 refine E.skip ?_
 refine E.seq ?_
 refine E.block ?_
 refine E.seq ?_
 refine E.reg hr (by simp; rfl) ?_
 refine E.seq ?_
 refine E.reg hr (by simp [w2]; rfl) ?_
 refine E.seq ?_
 refine E.reg hr (by simp; rfl) ?_
 refine E.cond (t := false) (by rfl) (fun h => by cases h) (fun _ => ?_)
 refine E.skip ?_
 refine E.reg hr (by simp [w1]; rfl) ?_
 refine EL.step ?_
 refine E.seq ?_
 refine E.reg hr (by simp; rfl) ?_
 refine E.seq ?_
 refine E.cond (t := true) (by rfl) (fun _ => ?_) (fun h => by cases h)
 refine E.skip ?_
 refine E.seq ?_
 refine E.block ?_
 refine E.seq ?_
 refine E.reg hr (by simp; rfl) ?_
 refine E.seq ?_
 refine E.reg hr (by simp [w8]; rfl) ?_
 refine E.seq ?_
 refine E.reg hr (by simp; rfl) ?_
 refine E.cond (t := false) (by rfl) (fun h => by cases h) (fun _ => ?_)
 refine E.skip ?_
 refine E.reg hr (by simp [w2]; rfl) ?_
 refine EL.step ?_
 refine E.seq ?_
 refine E.reg hr (by simp; rfl) ?_
 refine E.seq ?_
 refine E.cond (t := false) (by rfl) (fun h => by cases h) (fun _ => ?_)
 refine E.exit ?_
 refine E.seq ?_
 obtain ⟨q, hq, hc⟩ := call_of (w264 (H := H221 a b d0 d1 d2 d3 d4 d5 ns gc) (n := 15))
 refine E.reg hq (by simp [hc]; rfl) ?_
 refine E.seq ?_
 refine E.seq ?_
 refine E.reg hr (by simp; rfl) ?_
 refine E.block ?_
 refine E.loop ?_
 refine EL.step ?_
 refine E.seq ?_
 refine E.reg hr (by simp; rfl) ?_
 refine E.seq ?_
 refine E.cond (t := true) (by rfl) (fun _ => ?_) (fun h => by cases h)
 refine E.skip ?_
 refine E.seq ?_
 refine E.block ?_
 refine E.seq ?_
 refine E.reg hr (by simp; rfl) ?_
 refine E.reg hr (by simp; rfl) ?_
 refine E.reg hr (by simp [w1]; rfl) ?_
 refine EL.step ?_
 refine E.seq ?_
 refine E.reg hr (by simp; rfl) ?_
 refine E.seq ?_
 refine E.cond (t := true) (by rfl) (fun _ => ?_) (fun h => by cases h)
 refine E.skip ?_
 refine E.seq ?_
 refine E.block ?_
 refine E.seq ?_
 refine E.reg hr (by simp; rfl) ?_
 refine E.reg hr (by simp; rfl) ?_
 refine E.reg hr (by simp [w2]; rfl) ?_
 refine EL.step ?_
 refine E.seq ?_
 refine E.reg hr (by simp; rfl) ?_
 refine E.seq ?_
 refine E.cond (t := false) (by rfl) (fun h => by cases h) (fun _ => ?_)
 refine E.exit ?_
 refine E.seq ?_
 refine E.reg hr (by simp; rfl) ?_
 refine E.ret ?_
 exact ⟨.inr rfl, by simp [leaveF, shutA, resultsA, resultA, Tryz.results221, dropOk]⟩
def LineOk (g : Gun) : Prop := (∀ x ∈ numsG g, -1000 ≤ x ∧ x ≤ 1000) ∧ (nB g.name).length ≤ 24
theorem line_ok {l : List Gun} (h : strE l = 0) {g : Gun} (hg : g ∈ l) : LineOk g := ⟨nums_bd h hg, name_len h hg⟩
abbrev gW : List UInt8 := [103, 117, 110]
theorem join_line (g : Gun) : Lib.join [gW, nB g.name, dz g.v, dz g.x, dz g.y, dz g.d, dz g.lo, dz g.hi] [32] ++ [10] = gl g := by
 simp [Lib.join, List.intercalate, List.intersperse, gl, gunT, numT, numsG]
theorem LineOk.len {g : Gun} (h : LineOk g) : (gl g).length ≤ 7000 := by
 have h2 := numT_len h.1 6 (by omega)
 have := h.2
 simp only [gl, List.length_append, gunT, List.length_cons, List.length_nil]
 omega
set_option maxHeartbeats 8000000 in
set_option maxRecDepth 100000 in
theorem w179 (g : Gun) (hg : LineOk g) : AC Tryz.prog 179 [.agg ⟨g.cells⟩] [(3, .tab tab3)] 10 (sL (gl g)) [(3, .tab tab3)] 10 := by
 have hr := recT_ok (P := Tryz.prog) (l := [(178, g178)]) (by simp only [List.forall_mem_cons]; exact ⟨ok178, by simp⟩)
 have h171 : AC Tryz.prog 171 [.slice (some ⟨11, 0, none⟩) 6 6, fn220] [(11, .cells [iv g.v, iv g.x, iv g.y, iv g.d, iv g.lo, iv g.hi] 3), (10, .cells g.cells 95), (3, .tab tab3)] 12 (.slice (some ⟨12, 0, some 0⟩) 6 0) [(12, .ext [sL (dz g.v), sL (dz g.x), sL (dz g.y), sL (dz g.d), sL (dz g.lo), sL (dz g.hi)] 9 1), (11, .cells [iv g.v, iv g.x, iv g.y, iv g.d, iv g.lo, iv g.hi] 3), (10, .cells g.cells 95), (3, .tab tab3)] 13 := w171I (numsG g) g hg.1 (by simp [numsG]) (by simp [numsG])
 have hlen := hg.len
 have hj := join_line g
 have hjl : (Lib.join [gW, nB g.name, dz g.v, dz g.x, dz g.y, dz g.d, dz g.lo, dz g.hi] [32]).length ≤ 7000 := by
   have := congrArg List.length hj
   rw [List.length_append] at this
   simp only [List.length_cons, List.length_nil] at this
   omega
 have h221 := w221 gW (nB g.name) (dz g.v) (dz g.x) (dz g.y) (dz g.d) (dz g.lo) (dz g.hi) (numsG g) g.cells
 obtain ⟨q, hq, hc⟩ := call_of h171
 have hjoin : ∀ (H : Heap) n, hget H 15 = some (.ext (sls [gW, nB g.name, dz g.v, dz g.x, dz g.y, dz g.d, dz g.lo, dz g.hi]) 9 1) → g178 [.slice (some ⟨15, 0, some 0⟩) 8 0, sL [32]] H n = some (sL (Lib.join [gW, nB g.name, dz g.v, dz g.x, dz g.y, dz g.d, dz g.lo, dz g.hi] [32]), H, n) := fun H n h => g178_row (l := [gW, nB g.name, dz g.v, dz g.x, dz g.y, dz g.d, dz g.lo, dz g.hi]) h (by simp) (by omega)
 obtain ⟨J, hJ⟩ : ∃ J, Lib.join [gW, nB g.name, dz g.v, dz g.x, dz g.y, dz g.d, dz g.lo, dz g.hi] [32] = J := ⟨_, rfl⟩
 rw [hJ] at hj hjl hjoin
 have hname : sv g.name = sL (nB g.name) := sv_nB g.name
 obtain ⟨H15, hH15⟩ : ∃ H15, ((15, Blk.ext [sL gW, sL (nB g.name), sL (dz g.v), sL (dz g.x), sL (dz g.y), sL (dz g.d), sL (dz g.lo), sL (dz g.hi)] 9 1) :: H221 gW (nB g.name) (dz g.v) (dz g.x) (dz g.y) (dz g.d) (dz g.lo) (dz g.hi) (numsG g) g.cells) = H15 := ⟨_, rfl⟩
 have hb15 : hget H15 15 = some (.ext (sls [gW, nB g.name, dz g.v, dz g.x, dz g.y, dz g.d, dz g.lo, dz g.hi]) 9 1) := by rw [← hH15]; rfl
 rw [hH15] at h221
 let F : Oracle := fun f args H m => match f with
   | 221 => some (.slice (some ⟨15, 0, some 0⟩) 8 0, H15, 16)
   | 178 => some (sL J, H15, 16)
   | _ => none
 obtain ⟨q2, hq2, c1, c2⟩ : ∃ q : Rec, RecOk Tryz.prog q 0 ∧ (q.call 221 [.slice (some ⟨14, 0, none⟩) 2 2] (H221 gW (nB g.name) (dz g.v) (dz g.x) (dz g.y) (dz g.d) (dz g.lo) (dz g.hi) (numsG g) g.cells) 15 = some (.slice (some ⟨15, 0, some 0⟩) 8 0, H15, 16)) ∧ (q.call 178 [.slice (some ⟨15, 0, some 0⟩) 8 0, sL [32]] H15 16 = some (sL J, H15, 16)) :=
   ⟨recV Tryz.prog (fun _ _ _ => none) F, recV_ok, recV_call rfl h221, recV_call rfl (ok178 _ _ _ _ _ _ (hjoin H15 16 hb15))⟩
 have hadd : ∀ {P t x y H n}, binV P .add t x y (sL J) (sL [10]) H n = some (sL (gl g), H, n) := fun {P t x y H n} => by
   rw [bin_adds (by simp; omega), hj]
 refine AC.pure Tryz.func179 rfl (by kernel_rfl) rfl [1, 2, 3] rfl ?_
 refine E.seq ?_
 refine E.reg hr (by simp; rfl) ?_
 refine E.seq ?_
 refine E.reg hq (by simp [hc]; rfl) ?_
 refine E.seq ?_
 refine E.lead { fr := [(1, .pointer (some ⟨10, 0, none⟩)), (2, sL []), (3, .slice (some ⟨12, 0, some 0⟩) 6 0)], sz := 30, H := (12, .ext [sL (dz g.v), sL (dz g.x), sL (dz g.y), sL (dz g.d), sL (dz g.lo), sL (dz g.hi)] 9 1) :: H171I (numsG g) g.cells, n := 13, marks := [], vs := [1, 2, 3] } (.less rfl rfl rfl (by simp) (by simp [numsG, ivs])) ?_
 refine E.reg hq2 (by simp [hname, c1, c2, hadd]; rfl) ?_
 refine E.ret ?_
 exact pureK.ret rfl rfl (by simp) (by rw [← hH15]; repeat first | exact sub_refl _ | refine sub_cons rfl ?_)
end Go.Proofs.YtndlfijfjglkdaaGreatDoor
