/-
The types of the seat's program, as the evaluator asks for them (closed facts).
-/
import Derived.KernelRfl
import Derived.Test.YtkongcnmkiihjaaGreatDoorProg
import Derived.Test.YtkongcnmkiihjaaGreatDoorAa
import Derived.Test.YtkongcnmkiihjaaGreatDoorAf
namespace Go.Proofs.YtkongcnmkiihjaaGreatDoor
open Go Go.Ab Go.Proofs
@[simp] theorem sz3:szA Tryz.prog 3=some 1:=by kernel_rfl
@[simp] theorem ag3:isAggA Tryz.prog 3=some false:=by kernel_rfl
@[simp] theorem ze3:zeroA Tryz.prog 3=some (.int .i64 (0)):=by kernel_rfl
@[simp] theorem sz4:szA Tryz.prog 4=some 1:=by kernel_rfl
@[simp] theorem ag4:isAggA Tryz.prog 4=some false:=by kernel_rfl
@[simp] theorem ze4:zeroA Tryz.prog 4=some (.bool false):=by kernel_rfl
@[simp] theorem sz9:szA Tryz.prog 9=some 1:=by kernel_rfl
@[simp] theorem ag9:isAggA Tryz.prog 9=some false:=by kernel_rfl
@[simp] theorem sz24:szA Tryz.prog 24=some 1:=by kernel_rfl
@[simp] theorem ag24:isAggA Tryz.prog 24=some false:=by kernel_rfl
@[simp] theorem sz29:szA Tryz.prog 29=some 1:=by kernel_rfl
@[simp] theorem ag29:isAggA Tryz.prog 29=some false:=by kernel_rfl
@[simp] theorem ze29:zeroA Tryz.prog 29=some (.int .i64 (0)):=by kernel_rfl
@[simp] theorem sz34:szA Tryz.prog 34=some 4:=by kernel_rfl
@[simp] theorem ag34:isAggA Tryz.prog 34=some true:=by kernel_rfl
@[simp] theorem ze34:zeroA Tryz.prog 34=some (.agg #[.slice none 0 0,.int .i64 (0),.int .i64 (0),.int .i64 (0)]):=by kernel_rfl
@[simp] theorem sz76:szA Tryz.prog 76=some 2:=by kernel_rfl
@[simp] theorem sz96:szA Tryz.prog 96=some 2:=by kernel_rfl
@[simp] theorem ag96:isAggA Tryz.prog 96=some true:=by kernel_rfl
@[simp] theorem ze96:zeroA Tryz.prog 96=some (.agg #[.int .i64 (0),.int .i64 (0)]):=by kernel_rfl
@[simp] theorem sz101:szA Tryz.prog 101=some 1:=by kernel_rfl
@[simp] theorem ag101:isAggA Tryz.prog 101=some false:=by kernel_rfl
@[simp] theorem sz103:szA Tryz.prog 103=some 2:=by kernel_rfl
@[simp] theorem ag103:isAggA Tryz.prog 103=some true:=by kernel_rfl
@[simp] theorem ze103:zeroA Tryz.prog 103=some (.agg #[.string ⟨#[]⟩,.slice none 0 0]):=by kernel_rfl
@[simp] theorem sz108:szA Tryz.prog 108=some 1:=by kernel_rfl
@[simp] theorem ag108:isAggA Tryz.prog 108=some false:=by kernel_rfl
@[simp] theorem sz110:szA Tryz.prog 110=some 2:=by kernel_rfl
@[simp] theorem ag110:isAggA Tryz.prog 110=some true:=by kernel_rfl
@[simp] theorem ze110:zeroA Tryz.prog 110=some (.agg #[.string ⟨#[]⟩,.slice none 0 0]):=by kernel_rfl
@[simp] theorem sz126:szA Tryz.prog 126=some 1:=by kernel_rfl
@[simp] theorem ag126:isAggA Tryz.prog 126=some false:=by kernel_rfl
@[simp] theorem sz142:szA Tryz.prog 142=some 8:=by kernel_rfl
@[simp] theorem ag142:isAggA Tryz.prog 142=some true:=by kernel_rfl
@[simp] theorem sz144:szA Tryz.prog 144=some 10:=by kernel_rfl
@[simp] theorem ag144:isAggA Tryz.prog 144=some true:=by kernel_rfl
@[simp] theorem ze144:zeroA Tryz.prog 144=some (.agg #[.int .i64 (0),.int .i64 (0),.int .i64 (0),.int .i64 (0),.int .i64 (0),.int .i64 (0),.int .i64 (0),.int .i64 (0),.bool false,.slice none 0 0]):=by kernel_rfl
@[simp] theorem sz145:szA Tryz.prog 145=some 1:=by kernel_rfl
@[simp] theorem ag145:isAggA Tryz.prog 145=some false:=by kernel_rfl
@[simp] theorem ze145:zeroA Tryz.prog 145=some (.float .f32 0):=by kernel_rfl
@[simp] theorem sz159:szA Tryz.prog 159=some 10:=by kernel_rfl
@[simp] theorem ag159:isAggA Tryz.prog 159=some true:=by kernel_rfl
@[simp] theorem ze159:zeroA Tryz.prog 159=some (.agg #[.int .i64 (0),.int .i64 (0),.int .i64 (0),.int .i64 (0),.int .i64 (0),.int .i64 (0),.int .i64 (0),.int .i64 (0),.bool false,.slice none 0 0]):=by kernel_rfl
@[simp] theorem sz196:szA Tryz.prog 196=some 3:=by kernel_rfl
@[simp] theorem ag196:isAggA Tryz.prog 196=some true:=by kernel_rfl
@[simp] theorem ze196:zeroA Tryz.prog 196=some (.agg #[.string ⟨#[]⟩,.slice none 0 0,.int .i64 (0)]):=by kernel_rfl
theorem mixed:Tryz.prog.follows .mixedOrders=true:=by kernel_rfl
theorem gsz:Tryz.prog.globals.size=9:=by kernel_rfl
attribute [simp] Tryz.underlying0 Tryz.underlying1 Tryz.underlying2 Tryz.underlying3 Tryz.underlying4 Tryz.underlying5 Tryz.underlying6 Tryz.underlying7 Tryz.underlying8 Tryz.underlying9 Tryz.underlying10 Tryz.underlying11 Tryz.underlying12 Tryz.underlying13 Tryz.underlying14 Tryz.underlying15 Tryz.underlying16 Tryz.underlying17 Tryz.underlying18 Tryz.underlying19 Tryz.underlying20 Tryz.underlying21 Tryz.underlying22 Tryz.underlying23 Tryz.underlying24 Tryz.underlying25 Tryz.underlying26 Tryz.underlying27 Tryz.underlying28 Tryz.underlying29 Tryz.underlying30 Tryz.underlying31 Tryz.underlying32 Tryz.underlying33 Tryz.underlying34 Tryz.underlying35 Tryz.underlying36 Tryz.underlying37 Tryz.underlying38 Tryz.underlying39 Tryz.underlying40 Tryz.underlying41 Tryz.underlying42 Tryz.underlying43 Tryz.underlying44 Tryz.underlying45 Tryz.underlying46 Tryz.underlying47 Tryz.underlying48 Tryz.underlying49 Tryz.underlying50 Tryz.underlying51 Tryz.underlying52 Tryz.underlying53 Tryz.underlying54 Tryz.underlying55 Tryz.underlying56 Tryz.underlying57 Tryz.underlying58 Tryz.underlying59 Tryz.underlying60 Tryz.underlying61 Tryz.underlying62 Tryz.underlying63 Tryz.underlying64 Tryz.underlying65 Tryz.underlying66 Tryz.underlying67 Tryz.underlying68 Tryz.underlying69 Tryz.underlying70 Tryz.underlying71 Tryz.underlying72 Tryz.underlying73 Tryz.underlying74 Tryz.underlying75 Tryz.underlying76 Tryz.underlying77 Tryz.underlying78 Tryz.underlying79 Tryz.underlying80 Tryz.underlying81 Tryz.underlying82 Tryz.underlying83 Tryz.underlying84 Tryz.underlying85 Tryz.underlying86 Tryz.underlying87 Tryz.underlying88 Tryz.underlying89 Tryz.underlying90 Tryz.underlying91 Tryz.underlying92 Tryz.underlying93 Tryz.underlying94 Tryz.underlying95 Tryz.underlying96 Tryz.underlying97 Tryz.underlying98 Tryz.underlying99 Tryz.underlying100 Tryz.underlying101 Tryz.underlying102 Tryz.underlying103 Tryz.underlying104 Tryz.underlying105 Tryz.underlying106 Tryz.underlying107 Tryz.underlying108 Tryz.underlying109 Tryz.underlying110 Tryz.underlying111 Tryz.underlying112 Tryz.underlying113 Tryz.underlying114 Tryz.underlying115 Tryz.underlying116 Tryz.underlying117 Tryz.underlying118 Tryz.underlying119 Tryz.underlying120 Tryz.underlying121 Tryz.underlying122 Tryz.underlying123 Tryz.underlying124 Tryz.underlying125 Tryz.underlying126 Tryz.underlying127 Tryz.underlying128 Tryz.underlying129 Tryz.underlying130 Tryz.underlying131 Tryz.underlying132 Tryz.underlying133 Tryz.underlying134 Tryz.underlying135 Tryz.underlying136 Tryz.underlying137 Tryz.underlying138 Tryz.underlying139 Tryz.underlying140 Tryz.underlying141 Tryz.underlying142 Tryz.underlying143 Tryz.underlying144 Tryz.underlying145 Tryz.underlying146 Tryz.underlying147 Tryz.underlying148 Tryz.underlying149 Tryz.underlying150 Tryz.underlying151 Tryz.underlying152 Tryz.underlying153 Tryz.underlying154 Tryz.underlying155 Tryz.underlying156 Tryz.underlying157 Tryz.underlying158 Tryz.underlying159 Tryz.underlying160 Tryz.underlying161 Tryz.underlying162 Tryz.underlying163 Tryz.underlying164 Tryz.underlying165 Tryz.underlying166 Tryz.underlying167 Tryz.underlying168 Tryz.underlying169 Tryz.underlying170 Tryz.underlying171 Tryz.underlying172 Tryz.underlying173 Tryz.underlying174 Tryz.underlying175 Tryz.underlying176 Tryz.underlying177 Tryz.underlying178 Tryz.underlying179 Tryz.underlying180 Tryz.underlying181 Tryz.underlying182 Tryz.underlying183 Tryz.underlying184 Tryz.underlying185 Tryz.underlying186 Tryz.underlying187 Tryz.underlying188 Tryz.underlying189 Tryz.underlying190 Tryz.underlying191 Tryz.underlying192 Tryz.underlying193 Tryz.underlying194 Tryz.underlying195 Tryz.underlying196 Tryz.underlying197 Tryz.underlying198 Tryz.underlying199 Tryz.underlying200 Tryz.underlying201 Tryz.underlying202 Tryz.underlying203 Tryz.underlying204 Tryz.underlying205 Tryz.underlying206 Tryz.underlying207 Tryz.underlying208 Tryz.underlying209 Tryz.underlying210 Tryz.underlying211 Tryz.underlying212 Tryz.underlying213 Tryz.underlying214 Tryz.underlying215 Tryz.underlying216 Tryz.underlying217 Tryz.underlying218 Tryz.underlying219 Tryz.underlying220 Tryz.underlying221 Tryz.underlying222 Tryz.underlying223 Tryz.underlying224 Tryz.underlying225 Tryz.underlying226 Tryz.underlying227 Tryz.underlying228 Tryz.underlying229 Tryz.underlying230 Tryz.underlying231 Tryz.underlying232 Tryz.underlying233 Tryz.underlying234 Tryz.underlying235 Tryz.underlying236 Tryz.underlying237 Tryz.underlying238 Tryz.underlying239 Tryz.underlying240 Tryz.underlying241 Tryz.underlying242 Tryz.underlying243 Tryz.underlying244 Tryz.underlying245 Tryz.underlying246 Tryz.underlying247 Tryz.underlying248 Tryz.underlying249 Tryz.underlying250 Tryz.underlying251 Tryz.underlying252 Tryz.underlying253 Tryz.underlying254 Tryz.underlying255 Tryz.underlying256 Tryz.underlying257 Tryz.underlying258 Tryz.underlying259 Tryz.underlying260 Tryz.underlying261 Tryz.underlying262 Tryz.underlying263 Tryz.underlying264 Tryz.underlying265 Tryz.underlying266 Tryz.underlying267 Tryz.underlying268 Tryz.underlying269 Tryz.underlying270 Tryz.underlying271 Tryz.underlying272 Tryz.underlying273 Tryz.underlying274 Tryz.underlying275 Tryz.underlying276 Tryz.underlying277 Tryz.underlying278 Tryz.underlying279 Tryz.underlying280 Tryz.underlying281 Tryz.underlying282 Tryz.underlying283 Tryz.underlying284 Tryz.underlying285 Tryz.underlying286 Tryz.underlying287 Tryz.underlying288 Tryz.underlying289 Tryz.underlying290 Tryz.underlying291 Tryz.underlying292 Tryz.underlying293 Tryz.underlying294 Tryz.underlying295 Tryz.underlying296 Tryz.underlying297 Tryz.underlying298 Tryz.underlying299 Tryz.underlying300 Tryz.underlying301 Tryz.underlying302 Tryz.underlying303 Tryz.underlying304 Tryz.underlying305 Tryz.underlying306 Tryz.underlying307 Tryz.underlying308 Tryz.underlying309 Tryz.underlying310 Tryz.underlying311 Tryz.underlying312 Tryz.underlying313 Tryz.underlying314 Tryz.underlying315 Tryz.underlying316 Tryz.underlying317 Tryz.underlying318 Tryz.underlying319 Tryz.underlying320 Tryz.underlying321 Tryz.underlying322 Tryz.underlying323 Tryz.underlying324 Tryz.underlying325 Tryz.underlying326 Tryz.underlying327 Tryz.underlying328 Tryz.underlying329 Tryz.underlying330 Tryz.underlying331 Tryz.underlying332 Tryz.underlying333 Tryz.underlying334 Tryz.underlying335 Tryz.underlying336 Tryz.underlying337 Tryz.underlying338 Tryz.underlying339 Tryz.underlying340 Tryz.underlying341 Tryz.underlying342 Tryz.underlying343 Tryz.underlying344 Tryz.underlying345 Tryz.underlying346 Tryz.underlying347 Tryz.underlying348 Tryz.underlying349 Tryz.underlying350 Tryz.underlying351 Tryz.underlying352
@[simp] theorem inf29:Tryz.prog.info? 29=some Tryz.t29:=by kernel_rfl
attribute [simp] Tryz.t3 Tryz.t29
end Go.Proofs.YtkongcnmkiihjaaGreatDoor
