/-
 DERIVED: THE SHELF's CONTRACTS AT THIS DUMP, IN PLAIN WORDS (tools/lay-plain.mjs out of 'YtogpbandlpjccaaGreatDoorShelfE.lean', which tools/lay-shelf.mjs wrote): THE SAME DECLARATIONS UNDER THE SAME NAMES: 'import', 'namespace', 'open', 'def', 'theorem' AND NOTHING ELSE: no command of the shelf's: FOR A HAND-IN. Each laying: the table of numbers ('.._ren') and one theorem, a field a fact of the dump's own or the kernel's comparison; each contract: ONE APPLICATION.
-/
import Derived.Test.YtogpbandlpjccaaGreatDoorWW
import Derived.Shelf.LaysM
import Derived.Shelf.LaysC
import Derived.Shelf.Strconv.ParseIntPublic10
import Derived.Shelf.Strconv.Itoa4
import Derived.Shelf.Strings.Shaped
import Derived.Shelf.Strings.Cut
import Derived.Shelf.Strings.Prefix
import Derived.Test.YtogpbandlpjccaaGreatDoorProg
import Derived.Lib.ItoaNum
import Derived.Lib.Repeat
import Derived.Lib.IndexMore
import Derived.Lib.Strings
import Derived.Lib.ParseIntB
import Derived.Lib.AppendIntMem
namespace Go.Proofs
open Go.Shelf
def Tryz.laysM173_ren : Go.Shelf.Ren := ⟨fun | 173 => 197 | 246 => 245 | 283 => 275 | 284 => 276 | 285 => 277 | 286 => 278 | 129 => 292 | 317 => 291 | 318 => 293 | 319 => 294 | 320 => 295 | 337 => 300 | 338 => 301 | n => n, fun | 2 => 2 | 3 => 3 | 9 => 9 | 4 => 4 | 171 => 184 | 0 => 0 | 53 => 104 | 37 => 22 | 5 => 5 | 173 => 187 | 212 => 203 | 51 => 180 | 20 => 20 | 213 => 204 | 46 => 95 | 232 => 214 | 233 => 215 | n => n, fun | 17 => 6 | 18 => 9 | 19 => 10 | n => n⟩
theorem Tryz.laysM173 : Go.Proofs.LaysM.n173 Tryz.prog Tryz.laysM173_ren := {
 mixed := by kernel_rfl
 f129 := Tryz.func292.trans (congrArg some (by kernel_rfl))
 f173 := Tryz.func197.trans (congrArg some (by kernel_rfl))
 f246 := Tryz.func245.trans (congrArg some (by kernel_rfl))
 f283 := Tryz.func275.trans (congrArg some (by kernel_rfl))
 f284 := Tryz.func276.trans (congrArg some (by kernel_rfl))
 f285 := Tryz.func277.trans (congrArg some (by kernel_rfl))
 f286 := Tryz.func278.trans (congrArg some (by kernel_rfl))
 f317 := Tryz.func291.trans (congrArg some (by kernel_rfl))
 f318 := Tryz.func293.trans (congrArg some (by kernel_rfl))
 f319 := Tryz.func294.trans (congrArg some (by kernel_rfl))
 f320 := Tryz.func295.trans (congrArg some (by kernel_rfl))
 f337 := Tryz.func300.trans (congrArg some (by kernel_rfl))
 f338 := Tryz.func301.trans (congrArg some (by kernel_rfl))
 t0 := Tryz.underlying0
 a0 := Tryz.isAgg0
 z0 := Tryz.sizeOf0
 v0 := Tryz.zeroValue0
 t2 := Tryz.underlying2
 a2 := Tryz.isAgg2
 z2 := Tryz.sizeOf2
 v2 := Tryz.zeroValue2
 t3 := Tryz.underlying3
 a3 := Tryz.isAgg3
 z3 := Tryz.sizeOf3
 v3 := Tryz.zeroValue3
 t4 := Tryz.underlying4
 a4 := Tryz.isAgg4
 z4 := Tryz.sizeOf4
 v4 := Tryz.zeroValue4
 t5 := Tryz.underlying5
 a5 := Tryz.isAgg5
 z5 := Tryz.sizeOf5
 v5 := Tryz.zeroValue5
 t9 := Tryz.underlying9
 a9 := Tryz.isAgg9
 z9 := Tryz.sizeOf9
 v9 := Tryz.zeroValue9
 t20 := Tryz.underlying20
 a20 := Tryz.isAgg20
 z20 := Tryz.sizeOf20
 v20 := Tryz.zeroValue20
 t37 := Tryz.underlying22
 a37 := Tryz.isAgg22
 z37 := Tryz.sizeOf22
 v37 := Tryz.zeroValue22
 t46 := Tryz.underlying95
 a46 := Tryz.isAgg95
 z46 := Tryz.sizeOf95
 v46 := Tryz.zeroValue95
 t51 := Tryz.underlying180
 a51 := Tryz.isAgg180
 z51 := Tryz.sizeOf180
 v51 := Tryz.zeroValue180
 t53 := Tryz.underlying104
 a53 := Tryz.isAgg104
 z53 := Tryz.sizeOf104
 v53 := Tryz.zeroValue104
 t171 := Tryz.underlying184
 a171 := Tryz.isAgg184
 z171 := Tryz.sizeOf184
 v171 := Tryz.zeroValue184
 t173 := Tryz.underlying187
 a173 := Tryz.isAgg187
 z173 := Tryz.sizeOf187
 v173 := Tryz.zeroValue187
 t212 := Tryz.underlying203
 a212 := Tryz.isAgg203
 z212 := Tryz.sizeOf203
 v212 := Tryz.zeroValue203
 t213 := Tryz.underlying204
 a213 := Tryz.isAgg204
 z213 := Tryz.sizeOf204
 t232 := Tryz.underlying214
 a232 := Tryz.isAgg214
 z232 := Tryz.sizeOf214
 v232 := Tryz.zeroValue214
 t233 := Tryz.underlying215
 a233 := Tryz.isAgg215
 z233 := Tryz.sizeOf215
 v233 := Tryz.zeroValue215
 g17 := by kernel_rfl
 g18 := by kernel_rfl
 g19 := by kernel_rfl
 i0 := by kernel_rfl
 i2 := by kernel_rfl
 i3 := by kernel_rfl
 i4 := by kernel_rfl
 i5 := by kernel_rfl
 i9 := by kernel_rfl
 i20 := by kernel_rfl
 i37 := by kernel_rfl
 i46 := by kernel_rfl
 i51 := by kernel_rfl
 i53 := by kernel_rfl
 i171 := by kernel_rfl
 i173 := by kernel_rfl
 i212 := by kernel_rfl
 i232 := by kernel_rfl
 i233 := by kernel_rfl
 m17 := by kernel_rfl
 m18 := by kernel_rfl
 m19 := by kernel_rfl }
open Go.RowKit Go.Sort Go.Lib in
theorem Tryz.strconv_FormatInt_10 (n : Int) (h0 : -9223372036854775808 ≤ n) (h1 : n ≤ 9223372036854775807) (w : World) (htab : Lib.TabIs Tryz.prog w "internal/strconv.uint64pow10" .u64 Lib.pow10Tab) :
  Calls Tryz.prog 197 #[.int .i64 n, .int .i64 10] w fun e w' => e = .returned (.string ⟨(Lib.itoa n).toArray⟩) ∧ ∃ k os, w' = grow (w.drewN k) os := Any.strconv_FormatInt_10 Tryz.laysM173 n h0 h1 w htab
def Tryz.laysC174_ren : Go.Shelf.Ren := ⟨fun | 174 => 175 | 247 => 214 | 245 => 215 | 287 => 261 | 279 => 262 | 280 => 263 | 281 => 264 | 282 => 265 | 321 => 286 | 322 => 287 | 316 => 288 | 171 => 290 | 205 => 289 | 243 => 299 | 246 => 245 | 283 => 275 | 284 => 276 | 285 => 277 | 286 => 278 | 129 => 292 | 317 => 291 | 318 => 293 | 319 => 294 | 320 => 295 | 337 => 300 | 338 => 301 | n => n, fun | 9 => 9 | 3 => 3 | 2 => 2 | 75 => 125 | 85 => 126 | 4 => 4 | 167 => 174 | 5 => 5 | 53 => 104 | 175 => 175 | 46 => 95 | 168 => 177 | 37 => 22 | 0 => 0 | 210 => 200 | 21 => 21 | 127 => 190 | 145 => 212 | 143 => 210 | 171 => 184 | 173 => 187 | 212 => 203 | 51 => 180 | 20 => 20 | 213 => 204 | 232 => 214 | 233 => 215 | 80 => 168 | n => n, fun | 15 => 4 | 16 => 5 | 17 => 6 | 18 => 9 | 19 => 10 | n => n⟩
theorem Tryz.laysC174 : Go.Proofs.LaysC.n174 Tryz.prog Tryz.laysC174_ren := {
 mixed := by kernel_rfl
 f129 := Tryz.func292.trans (congrArg some (by kernel_rfl))
 f171 := Tryz.func290.trans (congrArg some (by kernel_rfl))
 f174 := Tryz.func175.trans (congrArg some (by kernel_rfl))
 f205 := Tryz.func289.trans (congrArg some (by kernel_rfl))
 f243 := Tryz.func299.trans (congrArg some (by kernel_rfl))
 f245 := Tryz.func215.trans (congrArg some (by kernel_rfl))
 f246 := Tryz.func245.trans (congrArg some (by kernel_rfl))
 f247 := Tryz.func214.trans (congrArg some (by kernel_rfl))
 f279 := Tryz.func262.trans (congrArg some (by kernel_rfl))
 f280 := Tryz.func263.trans (congrArg some (by kernel_rfl))
 f281 := Tryz.func264.trans (congrArg some (by kernel_rfl))
 f282 := Tryz.func265.trans (congrArg some (by kernel_rfl))
 f283 := Tryz.func275.trans (congrArg some (by kernel_rfl))
 f284 := Tryz.func276.trans (congrArg some (by kernel_rfl))
 f285 := Tryz.func277.trans (congrArg some (by kernel_rfl))
 f286 := Tryz.func278.trans (congrArg some (by kernel_rfl))
 f287 := Tryz.func261.trans (congrArg some (by kernel_rfl))
 f316 := Tryz.func288.trans (congrArg some (by kernel_rfl))
 f317 := Tryz.func291.trans (congrArg some (by kernel_rfl))
 f318 := Tryz.func293.trans (congrArg some (by kernel_rfl))
 f319 := Tryz.func294.trans (congrArg some (by kernel_rfl))
 f320 := Tryz.func295.trans (congrArg some (by kernel_rfl))
 f321 := Tryz.func286.trans (congrArg some (by kernel_rfl))
 f322 := Tryz.func287.trans (congrArg some (by kernel_rfl))
 f337 := Tryz.func300.trans (congrArg some (by kernel_rfl))
 f338 := Tryz.func301.trans (congrArg some (by kernel_rfl))
 t0 := Tryz.underlying0
 a0 := Tryz.isAgg0
 z0 := Tryz.sizeOf0
 v0 := Tryz.zeroValue0
 t2 := Tryz.underlying2
 a2 := Tryz.isAgg2
 z2 := Tryz.sizeOf2
 v2 := Tryz.zeroValue2
 t3 := Tryz.underlying3
 a3 := Tryz.isAgg3
 z3 := Tryz.sizeOf3
 v3 := Tryz.zeroValue3
 t4 := Tryz.underlying4
 a4 := Tryz.isAgg4
 z4 := Tryz.sizeOf4
 v4 := Tryz.zeroValue4
 t5 := Tryz.underlying5
 a5 := Tryz.isAgg5
 z5 := Tryz.sizeOf5
 v5 := Tryz.zeroValue5
 t9 := Tryz.underlying9
 a9 := Tryz.isAgg9
 z9 := Tryz.sizeOf9
 v9 := Tryz.zeroValue9
 t20 := Tryz.underlying20
 a20 := Tryz.isAgg20
 z20 := Tryz.sizeOf20
 v20 := Tryz.zeroValue20
 t21 := Tryz.underlying21
 a21 := Tryz.isAgg21
 z21 := Tryz.sizeOf21
 v21 := Tryz.zeroValue21
 t37 := Tryz.underlying22
 a37 := Tryz.isAgg22
 z37 := Tryz.sizeOf22
 v37 := Tryz.zeroValue22
 t46 := Tryz.underlying95
 a46 := Tryz.isAgg95
 z46 := Tryz.sizeOf95
 v46 := Tryz.zeroValue95
 t51 := Tryz.underlying180
 a51 := Tryz.isAgg180
 z51 := Tryz.sizeOf180
 v51 := Tryz.zeroValue180
 t53 := Tryz.underlying104
 a53 := Tryz.isAgg104
 z53 := Tryz.sizeOf104
 v53 := Tryz.zeroValue104
 t75 := Tryz.underlying125
 a75 := Tryz.isAgg125
 z75 := Tryz.sizeOf125
 v75 := Tryz.zeroValue125
 t85 := Tryz.underlying126
 a85 := Tryz.isAgg126
 z85 := Tryz.sizeOf126
 v85 := Tryz.zeroValue126
 t127 := Tryz.underlying190
 a127 := Tryz.isAgg190
 z127 := Tryz.sizeOf190
 v127 := Tryz.zeroValue190
 t143 := Tryz.underlying210
 a143 := Tryz.isAgg210
 z143 := Tryz.sizeOf210
 v143 := Tryz.zeroValue210
 t145 := Tryz.underlying212
 a145 := Tryz.isAgg212
 z145 := Tryz.sizeOf212
 v145 := Tryz.zeroValue212
 t167 := Tryz.underlying174
 a167 := Tryz.isAgg174
 z167 := Tryz.sizeOf174
 v167 := Tryz.zeroValue174
 t168 := Tryz.underlying177
 a168 := Tryz.isAgg177
 z168 := Tryz.sizeOf177
 v168 := Tryz.zeroValue177
 t171 := Tryz.underlying184
 a171 := Tryz.isAgg184
 z171 := Tryz.sizeOf184
 v171 := Tryz.zeroValue184
 t173 := Tryz.underlying187
 a173 := Tryz.isAgg187
 z173 := Tryz.sizeOf187
 v173 := Tryz.zeroValue187
 t175 := Tryz.underlying175
 a175 := Tryz.isAgg175
 z175 := Tryz.sizeOf175
 v175 := Tryz.zeroValue175
 t210 := Tryz.underlying200
 a210 := Tryz.isAgg200
 z210 := Tryz.sizeOf200
 v210 := Tryz.zeroValue200
 t212 := Tryz.underlying203
 a212 := Tryz.isAgg203
 z212 := Tryz.sizeOf203
 v212 := Tryz.zeroValue203
 t213 := Tryz.underlying204
 a213 := Tryz.isAgg204
 z213 := Tryz.sizeOf204
 t232 := Tryz.underlying214
 a232 := Tryz.isAgg214
 z232 := Tryz.sizeOf214
 v232 := Tryz.zeroValue214
 t233 := Tryz.underlying215
 a233 := Tryz.isAgg215
 z233 := Tryz.sizeOf215
 v233 := Tryz.zeroValue215
 g15 := by kernel_rfl
 g16 := by kernel_rfl
 g17 := by kernel_rfl
 g18 := by kernel_rfl
 g19 := by kernel_rfl
 t80 := Tryz.underlying168
 a80 := Tryz.isAgg168
 z80 := Tryz.sizeOf168
 v80 := Tryz.zeroValue168
 i0 := by kernel_rfl
 i2 := by kernel_rfl
 i3 := by kernel_rfl
 i4 := by kernel_rfl
 i5 := by kernel_rfl
 i9 := by kernel_rfl
 i20 := by kernel_rfl
 i21 := by kernel_rfl
 i37 := by kernel_rfl
 i46 := by kernel_rfl
 i51 := by kernel_rfl
 i53 := by kernel_rfl
 i75 := by kernel_rfl
 i80 := by kernel_rfl
 i85 := by kernel_rfl
 i127 := by kernel_rfl
 i143 := by kernel_rfl
 i145 := by kernel_rfl
 i167 := by kernel_rfl
 i168 := by kernel_rfl
 i171 := by kernel_rfl
 i173 := by kernel_rfl
 i175 := by kernel_rfl
 i210 := by kernel_rfl
 i212 := by kernel_rfl
 i232 := by kernel_rfl
 i233 := by kernel_rfl
 m15 := by kernel_rfl
 m16 := by kernel_rfl
 m17 := by kernel_rfl
 m18 := by kernel_rfl
 m19 := by kernel_rfl
 c0 := by kernel_rfl
 c2 := by kernel_rfl
 c3 := by kernel_rfl
 c4 := by kernel_rfl
 c5 := by kernel_rfl
 c9 := by kernel_rfl
 c20 := by kernel_rfl
 c21 := by kernel_rfl
 c37 := by kernel_rfl
 c46 := by kernel_rfl
 c51 := by kernel_rfl
 c53 := by kernel_rfl
 c75 := by kernel_rfl
 c80 := by kernel_rfl
 c85 := by kernel_rfl
 c127 := by kernel_rfl
 c143 := by kernel_rfl
 c145 := by kernel_rfl
 c167 := by kernel_rfl
 c168 := by kernel_rfl
 c171 := by kernel_rfl
 c173 := by kernel_rfl
 c175 := by kernel_rfl
 c210 := by kernel_rfl
 c212 := by kernel_rfl
 c213 := by kernel_rfl
 c232 := by kernel_rfl
 c233 := by kernel_rfl }
def Tryz.lays145_ren : Go.Shelf.Ren := ⟨fun | 145 => 74 | 220 => 137 | 219 => 195 | 217 => 240 | 225 => 241 | 224 => 242 | 267 => 243 | 266 => 273 | 314 => 274 | n => n, fun | 9 => 9 | 4 => 4 | 59 => 88 | 3 => 3 | 5 => 5 | 46 => 95 | 146 => 181 | 51 => 180 | n => n, fun | 1 => 1 | n => n⟩
theorem Tryz.lays145 : Go.Proofs.Lays.n145 Tryz.prog Tryz.lays145_ren := {
 mixed := by kernel_rfl
 f145 := Tryz.func74.trans (congrArg some (by kernel_rfl))
 f217 := Tryz.func240.trans (congrArg some (by kernel_rfl))
 f219 := Tryz.func195.trans (congrArg some (by kernel_rfl))
 f220 := Tryz.func137.trans (congrArg some (by kernel_rfl))
 f224 := Tryz.func242.trans (congrArg some (by kernel_rfl))
 f225 := Tryz.func241.trans (congrArg some (by kernel_rfl))
 f266 := Tryz.func273.trans (congrArg some (by kernel_rfl))
 f267 := Tryz.func243.trans (congrArg some (by kernel_rfl))
 f314 := Tryz.func274.trans (congrArg some (by kernel_rfl))
 t3 := Tryz.underlying3
 a3 := Tryz.isAgg3
 z3 := Tryz.sizeOf3
 v3 := Tryz.zeroValue3
 t4 := Tryz.underlying4
 a4 := Tryz.isAgg4
 z4 := Tryz.sizeOf4
 v4 := Tryz.zeroValue4
 t5 := Tryz.underlying5
 a5 := Tryz.isAgg5
 z5 := Tryz.sizeOf5
 v5 := Tryz.zeroValue5
 t9 := Tryz.underlying9
 a9 := Tryz.isAgg9
 z9 := Tryz.sizeOf9
 v9 := Tryz.zeroValue9
 t46 := Tryz.underlying95
 a46 := Tryz.isAgg95
 z46 := Tryz.sizeOf95
 v46 := Tryz.zeroValue95
 t51 := Tryz.underlying180
 a51 := Tryz.isAgg180
 z51 := Tryz.sizeOf180
 v51 := Tryz.zeroValue180
 t59 := Tryz.underlying88
 a59 := Tryz.isAgg88
 z59 := Tryz.sizeOf88
 v59 := Tryz.zeroValue88
 t146 := Tryz.underlying181
 a146 := Tryz.isAgg181
 z146 := Tryz.sizeOf181
 v146 := Tryz.zeroValue181
 g1 := by kernel_rfl }
open Go.RowKit Go.Lib in
theorem Tryz.strings_Cut (s sep : ByteArray) (m : Int) (w : World) (hs : s.size < 4294967281) (hm : w.cell? ⟨1, 0, none⟩ = some (.int .i64 m)) :
  Calls Tryz.prog 74 #[.string s, .string sep] w fun e w' => e = .returned (.tuple #[.string ⟨(Lib.cut s.data.toList sep.data.toList).1.toArray⟩, .string ⟨(Lib.cut s.data.toList sep.data.toList).2.1.toArray⟩, .bool (Lib.cut s.data.toList sep.data.toList).2.2]) ∧ ∃ n, w' = w.drewN n := Any.strings_Cut Tryz.lays145 s sep m w hs hm
def Tryz.laysM145_ren : Go.Shelf.Ren := ⟨fun | 145 => 74 | 220 => 137 | 219 => 195 | 217 => 240 | 225 => 241 | 224 => 242 | 267 => 243 | 266 => 273 | 314 => 274 | n => n, fun | 9 => 9 | 4 => 4 | 59 => 88 | 3 => 3 | 5 => 5 | 46 => 95 | 146 => 181 | 51 => 180 | n => n, fun | 1 => 1 | n => n⟩
theorem Tryz.laysM145 : Go.Proofs.LaysM.n145 Tryz.prog Tryz.laysM145_ren := {
 mixed := by kernel_rfl
 f145 := Tryz.func74.trans (congrArg some (by kernel_rfl))
 f217 := Tryz.func240.trans (congrArg some (by kernel_rfl))
 f219 := Tryz.func195.trans (congrArg some (by kernel_rfl))
 f220 := Tryz.func137.trans (congrArg some (by kernel_rfl))
 f224 := Tryz.func242.trans (congrArg some (by kernel_rfl))
 f225 := Tryz.func241.trans (congrArg some (by kernel_rfl))
 f266 := Tryz.func273.trans (congrArg some (by kernel_rfl))
 f267 := Tryz.func243.trans (congrArg some (by kernel_rfl))
 f314 := Tryz.func274.trans (congrArg some (by kernel_rfl))
 t3 := Tryz.underlying3
 a3 := Tryz.isAgg3
 z3 := Tryz.sizeOf3
 v3 := Tryz.zeroValue3
 t4 := Tryz.underlying4
 a4 := Tryz.isAgg4
 z4 := Tryz.sizeOf4
 v4 := Tryz.zeroValue4
 t5 := Tryz.underlying5
 a5 := Tryz.isAgg5
 z5 := Tryz.sizeOf5
 v5 := Tryz.zeroValue5
 t9 := Tryz.underlying9
 a9 := Tryz.isAgg9
 z9 := Tryz.sizeOf9
 v9 := Tryz.zeroValue9
 t46 := Tryz.underlying95
 a46 := Tryz.isAgg95
 z46 := Tryz.sizeOf95
 v46 := Tryz.zeroValue95
 t51 := Tryz.underlying180
 a51 := Tryz.isAgg180
 z51 := Tryz.sizeOf180
 v51 := Tryz.zeroValue180
 t59 := Tryz.underlying88
 a59 := Tryz.isAgg88
 z59 := Tryz.sizeOf88
 v59 := Tryz.zeroValue88
 t146 := Tryz.underlying181
 a146 := Tryz.isAgg181
 z146 := Tryz.sizeOf181
 v146 := Tryz.zeroValue181
 g1 := by kernel_rfl
 i3 := by kernel_rfl
 i4 := by kernel_rfl
 i5 := by kernel_rfl
 i9 := by kernel_rfl
 i46 := by kernel_rfl
 i51 := by kernel_rfl
 i59 := by kernel_rfl
 i146 := by kernel_rfl
 m1 := by kernel_rfl
 s1_3 := fun w h => Go.Proofs.cell_of_shapedOpen_int (zero := #[.int .i64 0]) (t := 3) h (of_decide_eq_true (by kernel_rfl)) (by kernel_rfl) rfl (by kernel_rfl) (by kernel_rfl) Tryz.underlying3 }
def Tryz.lays101_ren : Go.Shelf.Ren := ⟨fun | 101 => 80 | 208 => 143 | 206 => 199 | n => n, fun | 9 => 9 | 4 => 4 | 3 => 3 | n => n, fun | n => n⟩
theorem Tryz.lays101 : Go.Proofs.Lays.n101 Tryz.prog Tryz.lays101_ren := {
 mixed := by kernel_rfl
 f101 := Tryz.func80.trans (congrArg some (by kernel_rfl))
 f206 := Tryz.func199.trans (congrArg some (by kernel_rfl))
 f208 := Tryz.func143.trans (congrArg some (by kernel_rfl))
 t3 := Tryz.underlying3
 a3 := Tryz.isAgg3
 z3 := Tryz.sizeOf3
 v3 := Tryz.zeroValue3
 t4 := Tryz.underlying4
 a4 := Tryz.isAgg4
 z4 := Tryz.sizeOf4
 v4 := Tryz.zeroValue4
 t9 := Tryz.underlying9
 a9 := Tryz.isAgg9
 z9 := Tryz.sizeOf9
 v9 := Tryz.zeroValue9 }
open Go.RowKit Go.Lib in
theorem Tryz.strings_TrimPrefix (s p : ByteArray) (w : World) :
  Calls Tryz.prog 80 #[.string s, .string p] w fun e w' => e = .returned (.string ⟨(Lib.trimPrefix s.data.toList p.data.toList).toArray⟩) ∧ w' = w := Any.strings_TrimPrefix Tryz.lays101 s p w
end Go.Proofs
/- Decimal texts: numerals, padded numerals, angles; what they are made of. -/
namespace Go.TX
open Go.Lib
def digs : Nat → Nat → List UInt8
 | 0, _ => []
 | k + 1, n => digs k (n / 10) ++ [UInt8.ofNat (48 + n % 10)]
def pad (d : Nat) (l : List UInt8) : List UInt8 := List.replicate (d - l.length) 48 ++ l
def sgn (n : Int) : List UInt8 := if n < 0 then [45] else []
theorem digs_length : ∀ k n, (digs k n).length = k
 | 0, _ => rfl
 | k + 1, n => by simp [digs, digs_length k]
theorem digs_zero : ∀ k, digs k 0 = List.replicate k 48
 | 0 => rfl
 | k + 1 => by
  rw [digs, Nat.zero_div, digs_zero k, List.replicate_succ']
  rfl
theorem pad_snoc (k : Nat) (l : List UInt8) (x : UInt8) : pad (k + 1) (l ++ [x]) = pad k l ++ [x] := by
 simp [pad]
theorem pad_digs (k n : Nat) (hk : 0 < k) (h : n < 10 ^ k) : pad k (decDigits n) = digs k n := by
 induction k generalizing n with
 | zero => omega
 | succ k ih =>
  by_cases h10 : n < 10
  ·rw [decDigits, dif_pos h10, digs, Nat.div_eq_of_lt h10, digs_zero, Nat.mod_eq_of_lt h10]
   simp [pad]
  ·rw [decDigits, dif_neg h10, pad_snoc, digs]
   have : 0 < k := by
    rcases Nat.eq_zero_or_pos k with rfl | h1
    ·simp at h; omega
    ·exact h1
   rw [ih (n / 10) this (by rw [Nat.pow_succ] at h; omega)]
theorem itoa_sgn (n : Int) : itoa n = sgn n ++ decDigits n.natAbs := by
 unfold itoa sgn
 by_cases h : n < 0
 ·rw [if_pos h, if_pos h]; rfl
 ·rw [if_neg h, if_neg h, show n.toNat = n.natAbs by omega]; rfl
def isD (b : UInt8) : Bool := decide (48 ≤ b.toNat) && decide (b.toNat ≤ 57)
def dv (b : UInt8) : Nat := b.toNat - 48
def val (acc : Nat) (l : List UInt8) : Nat := l.foldl (fun a b => 10 * a + dv b) acc
theorem val_cons (acc : Nat) (b : UInt8) (l : List UInt8) : val acc (b :: l) = val (10 * acc + dv b) l := List.foldl_cons ..
theorem val_one (acc : Nat) (b : UInt8) : val acc [b] = 10 * acc + dv b := rfl
theorem val_append (acc : Nat) (l m : List UInt8) : val acc (l ++ m) = val (val acc l) m := by
 unfold val; rw [List.foldl_append]
theorem dig_toNat (n : Nat) : (UInt8.ofNat (48 + n % 10)).toNat = 48 + n % 10 := by
 rw [UInt8.toNat_ofNat']; omega
theorem isD_dig (n : Nat) : isD (UInt8.ofNat (48 + n % 10)) = true := by
 unfold isD; rw [dig_toNat]; simp; omega
theorem dv_dig (n : Nat) : dv (UInt8.ofNat (48 + n % 10)) = n % 10 := by
 unfold dv; rw [dig_toNat]; omega
theorem dec_isD (n : Nat) : (decDigits n).all isD = true := by
 induction n using Nat.strongRecOn with
 | _ n ih =>
  by_cases h : n < 10
  ·rw [decDigits, dif_pos h]
   have := isD_dig n
   rw [Nat.mod_eq_of_lt h] at this
   simp only [List.all_cons, List.all_nil, this]; rfl
  ·rw [decDigits, dif_neg h, List.all_append, ih (n / 10) (by omega)]
   simp only [List.all_cons, List.all_nil, isD_dig]; rfl
theorem val_dec (n : Nat) : val 0 (decDigits n) = n := by
 induction n using Nat.strongRecOn with
 | _ n ih =>
  by_cases h : n < 10
  ·rw [decDigits, dif_pos h]
   have := dv_dig n
   rw [Nat.mod_eq_of_lt h] at this
   rw [val_one, this]; omega
  ·rw [decDigits, dif_neg h, val_append, ih (n / 10) (by omega), val_one, dv_dig]; omega
theorem dec_length_le (n k : Nat) (hk : 0 < k) (h : n < 10 ^ k) : (decDigits n).length ≤ k := by
 have := congrArg List.length (pad_digs k n hk h)
 rw [digs_length] at this
 simp [pad] at this
 omega
theorem dec_length_pos (n : Nat) : 0 < (decDigits n).length := by rw [decDigits_length]; exact nDigits_pos n
theorem not_mem_of_all {l : List UInt8} (h : l.all isD = true) {b : UInt8} (hb : isD b = false) : b ∉ l := by
 intro hm
 rw [List.all_eq_true] at h
 rw [h b hm] at hb
 cases hb
end Go.TX
/- Texts cut and split at a byte. -/
namespace Go.TX
open Go.Lib
def cut1 (c : UInt8) : List UInt8 → List UInt8 × List UInt8
 | [] => ([], [])
 | b :: l => if b = c then ([], l) else (b :: (cut1 c l).1, (cut1 c l).2)
theorem index_one (c : UInt8) : ∀ l : List UInt8, (c ∉ l ∧ index l [c] = -1) ∨ ∃ i : Nat, index l [c] = i ∧ l.take i = (cut1 c l).1 ∧ l.drop (i + 1) = (cut1 c l).2 ∧ c ∈ l
 | [] => .inl ⟨by simp, rfl⟩
 | b :: l => by
  by_cases h : b = c
  ·subst h
   refine .inr ⟨0, ?_, by simp [cut1], by simp [cut1], by simp⟩
   unfold index
   simp
  ·have hb : ¬ (([c] : List UInt8).isPrefixOf (b :: l) = true) := by
    simp [List.isPrefixOf, Ne.symm h]
   rcases index_one c l with ⟨h1, h2⟩ | ⟨i, h1, h2, h3, h4⟩
   ·refine .inl ⟨by simp [Ne.symm h, h1], ?_⟩
    unfold index
    rw [if_neg hb, h2]
    rfl
   ·refine .inr ⟨i + 1, ?_, by simp [cut1, h, h2], by simp [cut1, h, h3], by simp [h4]⟩
    unfold index
    rw [if_neg hb, h1]
    have : ((i : Int) == -1) = false := by rw [beq_eq_false_iff_ne]; omega
    simp [this]
theorem cut1_none {c : UInt8} : ∀ {l : List UInt8}, c ∉ l → cut1 c l = (l, [])
 | [], _ => rfl
 | b :: l, h => by
  simp only [List.mem_cons, not_or] at h
  rw [cut1, if_neg (Ne.symm h.1), cut1_none h.2]
theorem cut_eq (c : UInt8) (l : List UInt8) : cut l [c] = ((cut1 c l).1, (cut1 c l).2, decide (c ∈ l)) := by
 unfold cut
 rcases index_one c l with ⟨h1, h2⟩ | ⟨i, h1, h2, h3, h4⟩
 ·rw [h2, if_neg (by omega), cut1_none h1]; simp [h1]
 ·rw [h1, if_pos (by omega)]
  simp only [Int.toNat_natCast, List.length_singleton, h2, h3, h4, decide_true]
theorem cut1_parts {c : UInt8} : ∀ {l : List UInt8}, c ∈ l → l = (cut1 c l).1 ++ c :: (cut1 c l).2
 | [], h => by simp at h
 | b :: l, h => by
  by_cases hb : b = c
  ·subst hb; simp [cut1]
  ·rw [cut1, if_neg hb]
   have : c ∈ l := by simpa [Ne.symm hb] using h
   simp only [List.cons_append]
   rw [← cut1_parts this]
theorem cut1_append {c : UInt8} : ∀ {x : List UInt8} (y : List UInt8), c ∉ x → cut1 c (x ++ c :: y) = (x, y)
 | [], y, _ => by simp [cut1]
 | b :: x, y, h => by
  simp only [List.mem_cons, not_or] at h
  rw [List.cons_append, cut1, if_neg (Ne.symm h.1), cut1_append y h.2]
def unm (l : List UInt8) : List UInt8 := match l with | [] => [] | b :: r => if b = 45 then r else l
theorem trim_minus (l : List UInt8) : trimPrefix l [45] = unm l := by
 cases l with
 | nil => rfl
 | cons b r =>
  by_cases h : b = 45
  ·subst h; simp [trimPrefix, hasPrefix, unm]
  ·have h' : (45 : UInt8) ≠ b := Ne.symm h
   simp [trimPrefix, hasPrefix, unm, h, h']
end Go.TX
/- What the library's variables hold while a call runs; numbers in decimal and back. -/
set_option linter.unusedVariables false
set_option linter.unusedSimpArgs false
namespace Go.Proofs.YtogpbandlpjccaaGreatDoor.TX
open Go.RowKit Go.Shelf Go.TX Go.Lib
structure Ok_ (b : Bool) (w : World) : Prop where
 tab : Lib.TabBelow Tryz.prog w.heap.size w "internal/strconv.uint64pow10" .u64 Lib.pow10Tab
 pos : 3 ≤ w.heap.size
 ml : ∃ m, w.cell? ⟨1, 0, none⟩ = some (.int .i64 m)
 es : b = true → (∃ tp p, w.var? Tryz.prog "strconv.ErrSyntax" = some #[.iface tp p]) ∧ ∃ tp p, w.var? Tryz.prog "strconv.ErrRange" = some #[.iface tp p]
theorem var_below {w w' : World} (hb : Below w.heap.size w w') {x : String} {v : Array Value} (h : w.var? Tryz.prog x = some v) : w'.var? Tryz.prog x = some v := by
 unfold World.var? at *
 cases hg : Tryz.prog.globalNamed x with
 | none => simp [hg] at h
 | some g =>
  simp only [hg, Option.bind_some] at h ⊢
  have hlt : g < w.heap.size := by
   rcases Nat.lt_or_ge g w.heap.size with h' | h'
   ·exact h'
   ·rw [Array.getElem?_eq_none h'] at h; simp at h
  rw [hb.block g hlt]
  exact h
theorem okd_ {b : Bool} {w w' : World} (h : Ok_ b w) (hb : Below w.heap.size w w') : Ok_ b w' :=
 ⟨fun w2 h2 => h.tab w2 (hb.trans (h2.mono hb.size)), Nat.le_trans h.pos hb.size, by
  obtain ⟨m, hm⟩ := h.ml
  exact ⟨m, by rw [hb.cell (show (⟨1, 0, none⟩ : Addr).block < w.heap.size from by have := h.pos; show 1 < _; omega)]; exact hm⟩, fun hx => by
  obtain ⟨⟨tp, p, h1⟩, tp2, p2, h2⟩ := h.es hx
  exact ⟨⟨tp, p, var_below hb h1⟩, tp2, p2, var_below hb h2⟩⟩
theorem formatInt_ {b : Bool} (a0 : Int) (r : ByteArray) (h0 : -9223372036854775808 ≤ a0) (h1 : a0 ≤ 9223372036854775807) (w : World) (hO : Ok_ b w) (h : (⟨(Lib.itoa a0).toArray⟩ : ByteArray) = r) :
  Calls Tryz.prog 197 #[.int .i64 a0, .int .i64 10] w fun e w' => e = .returned (.string r) ∧ Below w.heap.size w w' := by
 subst h
 refine (Tryz.strconv_FormatInt_10 a0 h0 h1 w hO.tab.here).mono ?_
 rintro e w' ⟨rfl, k, os, rfl⟩
 exact ⟨rfl, Lib.below_grow _ _ (Nat.le_refl _) _ _⟩
theorem below_drewN_ (n : Nat) (w : World) : Below w.heap.size w (w.drewN n) := ⟨rfl, rfl, rfl, Nat.le_refl _, fun _ _ => rfl⟩
theorem cut_ {b : Bool} (a0 a1 : ByteArray) (h : a0.size < 4294967281) (w : World) (hO : Ok_ b w) :
  Calls Tryz.prog 74 #[.string a0, .string a1] w fun e w' => e = .returned (.tuple #[.string ⟨(Lib.cut a0.data.toList a1.data.toList).1.toArray⟩, .string ⟨(Lib.cut a0.data.toList a1.data.toList).2.1.toArray⟩, .bool (Lib.cut a0.data.toList a1.data.toList).2.2]) ∧ Below w.heap.size w w' := by
 obtain ⟨m, hm⟩ := hO.ml
 refine (Tryz.strings_Cut a0 a1 m w h hm).mono ?_
 rintro e w' ⟨rfl, n, rfl⟩
 exact ⟨rfl, below_drewN_ _ _⟩
theorem trimPrefix_ (a0 a1 : ByteArray) (w : World) :
  Calls Tryz.prog 80 #[.string a0, .string a1] w fun e w' => e = .returned (.string ⟨(Lib.trimPrefix a0.data.toList a1.data.toList).toArray⟩) ∧ Below w.heap.size w w' := by
 refine (Tryz.strings_TrimPrefix a0 a1 w).mono ?_
 rintro e w' ⟨rfl, rfl⟩
 exact ⟨rfl, Below.refl _ _⟩
theorem val_ge (acc : Nat) (l : List UInt8) : acc ≤ val acc l := by
 induction l generalizing acc with
 | nil => exact Nat.le_refl _
 | cons b l ih => rw [val_cons]; exact Nat.le_trans (by omega) (ih _)
theorem isD_iff (b : UInt8) : isD b = true ↔ 48 ≤ b.toNat ∧ b.toNat ≤ 57 := by simp [isD]
theorem parseM_val (M : Nat) (hM : 1000000000000000000 ≤ M) : ∀ (l : List UInt8) (acc : Nat), l.all isD = true → val acc l < 1000000000000000000 → parseUintM M acc l = .ok (val acc l)
 | [], acc, _, _ => rfl
 | b :: l, acc, hd, hv => by
  simp only [List.all_cons, Bool.and_eq_true] at hd
  have h1 := (isD_iff b).1 hd.1
  rw [val_cons] at hv ⊢
  have h2 := val_ge (10 * acc + dv b) l
  have e : acc * 10 + (b.toNat - 48) = 10 * acc + dv b := by unfold dv; omega
  rw [parseUintM, if_pos h1, if_neg (by omega), e, if_neg (by omega)]
  exact parseM_val M hM l _ hd.2 hv
theorem dec_cons (n : Nat) : ∃ b r, decDigits n = b :: r ∧ isD b = true := by
 have h := dec_isD n
 have h0 := dec_length_pos n
 cases hd : decDigits n with
 | nil => rw [hd] at h0; simp at h0
 | cons b r =>
  rw [hd] at h
  simp only [List.all_cons, Bool.and_eq_true] at h
  exact ⟨b, r, rfl, h.1⟩
theorem unm_itoa (v : Int) : unm (itoa v) = decDigits v.natAbs := by
 rw [itoa_sgn]
 unfold sgn
 by_cases h : v < 0
 ·rw [if_pos h]; simp [unm]
 ·rw [if_neg h, List.nil_append]
  obtain ⟨b, r, e, hb⟩ := dec_cons v.natAbs
  rw [e]
  have : b ≠ 45 := by intro h; subst h; simp [isD] at hb
  simp [unm, this]
theorem parse_itoa (v : Int) (h : v.natAbs < 1000000000000000000) : parseIntB 64 (itoa v) = .ok v := by
 have hv := val_dec v.natAbs
 have hp := parseM_val 18446744073709551615 (by omega) (decDigits v.natAbs) 0 (dec_isD _) (by rw [hv]; exact h)
 rw [hv] at hp
 have hu : parseUintB 64 (decDigits v.natAbs) = .ok v.natAbs := by
  unfold parseUintB
  rw [if_neg (by intro h0; have := dec_length_pos v.natAbs; rw [h0] at this; simp at this)]
  exact hp
 rw [itoa_sgn]
 unfold sgn
 by_cases hn : v < 0
 ·rw [if_pos hn]
  unfold parseIntB
  simp only [List.cons_append, List.nil_append]
  rw [if_pos (by right; rfl), hu]
  simp only
  rw [if_neg (by simp), if_neg (by have : (2 : Nat) ^ 63 = 9223372036854775808 := rfl; simp only [show 64 - 1 = 63 from rfl]; omega), if_pos (by rfl)]
  congr 1; omega
 ·rw [if_neg hn, List.nil_append]
  obtain ⟨b, r, e, hb⟩ := dec_cons v.natAbs
  have hb' := (isD_iff b).1 hb
  have h45 : ¬ b.toNat = 45 := by omega
  have h43 : ¬ (b.toNat = 43 ∨ b.toNat = 45) := by omega
  rw [e] at hu ⊢
  unfold parseIntB
  simp only
  rw [if_neg h43, hu]
  simp only [h45, not_false_eq_true, true_and, false_and, if_false]
  rw [if_neg (by have : (2 : Nat) ^ 63 = 9223372036854775808 := rfl; simp only [show 64 - 1 = 63 from rfl]; omega)]
  congr 1; omega
theorem itoa_nn {v : Int} (h : 0 ≤ v) : itoa v = decDigits v.natAbs := by
 rw [itoa_sgn]; unfold sgn; rw [if_neg (by omega), List.nil_append]
def isNum (l : List UInt8) : Bool := match parseIntB 64 l with
 | .ok v => decide (0 ≤ v ∧ v < 1000000000000000000 ∧ itoa v = l)
 | _ => false
def numOf (l : List UInt8) : Int := match parseIntB 64 l with
 | .ok v => v
 | _ => 0
theorem num_itoa {v : Int} (h : 0 ≤ v ∧ v < 1000000000000000000) : isNum (itoa v) = true ∧ numOf (itoa v) = v := by
 unfold isNum numOf
 rw [parse_itoa v (by omega)]
 exact ⟨decide_eq_true ⟨h.1, h.2, rfl⟩, rfl⟩
theorem decimal_ {b : Bool} (a0 : Int) (h0 : -9223372036854775808 ≤ a0) (h1 : a0 ≤ 9223372036854775807) (w : World) (hO : Ok_ b w) :
  Calls Tryz.prog 141 #[.int .i64 a0] w fun e w' => e = .returned (.string ⟨(Lib.itoa a0).toArray⟩) ∧ Below w.heap.size w w' := by
 have hc := formatInt_ a0 _ h0 h1 w hO rfl
 generalize (⟨(Lib.itoa a0).toArray⟩ : ByteArray) = t at hc ⊢
 go_enter Tryz.func141, Tryz.ntmps141
 go_wp2_with (go_at_call 197; refine hc.mono ?_; rintro e w' ⟨rfl, hB⟩)
 go_ret
 exact ⟨rfl, hB⟩
theorem readNum_ {b : Bool} (a0 : ByteArray) (h : isNum a0.data.toList = true) (w : World) (hO : Ok_ b w) :
  Calls Tryz.prog 116 #[.string a0] w fun e w' => e = .returned (.tuple #[.int .i64 (numOf a0.data.toList), .bool true]) ∧ Below w.heap.size w w' := by
 obtain ⟨v, hp, h0, h1, c1⟩ : ∃ v, Lib.parseIntB 64 a0.data.toList = .ok v ∧ 0 ≤ v ∧ v < 1000000000000000000 ∧ itoa v = a0.data.toList := by
  unfold isNum at h
  cases hp : parseIntB 64 a0.data.toList with
  | ok v => rw [hp] at h; exact ⟨v, rfl, of_decide_eq_true h⟩
  | _ => rw [hp] at h; cases h
 have e0 : numOf a0.data.toList = v := by unfold numOf; rw [hp]
 rw [e0]
 have hlen : a0.data.toList.length ≤ 18 := by
  rw [← c1, itoa_nn h0]; exact dec_length_le _ 18 (by omega) (by omega)
 have hs : a0.size ≤ 18 := by rw [Array.length_toList] at hlen; exact hlen
 have hc : Calls Tryz.prog 175 #[.string a0, .int .i64 10, .int .i64 64] w fun e w' => e = .returned (.tuple #[.int .i64 v, .nilIface]) ∧ Below w.heap.size w w' :=
  Calls.mono (R := fun e w' => e = .returned (.tuple #[.int .i64 v, .nilIface]) ∧ (w' = w ∨ ∃ t, w' = Lib.bytesWorld w 5 t)) (Any.strconv_ParseInt_10_at64_ok Tryz.laysC174 a0 (by omega) v hp w) (by
   rintro e w' ⟨rfl, rfl | ⟨t, rfl⟩⟩
   ·exact ⟨rfl, Below.refl _ _⟩
   ·exact ⟨rfl, Lib.bytesWorld_below _ _ _⟩)
 have hT := trimPrefix_ a0 ⟨#[45]⟩
 have e1 : (Lib.trimPrefix a0.data.toList [45]) = Go.TX.unm a0.data.toList := Go.TX.trim_minus _
 have hT2 : ∀ w, Calls Tryz.prog 80 #[.string a0, .string ⟨#[45]⟩] w fun e w' => e = .returned (.string ⟨(Go.TX.unm a0.data.toList).toArray⟩) ∧ Below w.heap.size w w' := by
  intro w
  rw [← e1]
  exact hT w
 clear hT
 have hul : (⟨(Go.TX.unm a0.data.toList).toArray⟩ : ByteArray).size ≤ 18 := by
  have : (Go.TX.unm a0.data.toList).length ≤ 18 := by
   rw [← c1, unm_itoa]; exact dec_length_le _ 18 (by omega) (by omega)
  simpa [ByteArray.size] using this
 generalize (⟨(Go.TX.unm a0.data.toList).toArray⟩ : ByteArray) = u at hT2 hul
 have hD : ∀ w, Ok_ b w → Calls Tryz.prog 141 #[.int .i64 v] w fun e w' => e = .returned (.string ⟨(Lib.itoa v).toArray⟩) ∧ Below w.heap.size w w' := fun w hO => decimal_ v (by omega) (by omega) w hO
 have htl : (⟨(Lib.itoa v).toArray⟩ : ByteArray).toList = Lib.itoa v := by simp
 have hal : a0.toList = a0.data.toList := ByteArray.toList_eq a0
 generalize (⟨(Lib.itoa v).toArray⟩ : ByteArray) = t at hD htl
 have f1 : (t.toList == a0.toList) = true := beq_iff_eq.2 (by rw [htl, hal, c1])
 have f2 : decide (18 < (u.size : Int)) = false := decide_eq_false (by omega)
 clear hul htl hal c1 hp e1 e0 hlen hs h
 go_enter Tryz.func116, Tryz.ntmps116
 go_wp2_with (first | (go_at_call 175; refine hc.mono ?_; rintro e w1 ⟨rfl, hB1⟩) | (go_at_call 141; refine (hD _ (okd_ hO (by assumption))).mono ?_; rintro e w2 ⟨rfl, hB2⟩) | (go_at_call 80; refine (hT2 _).mono ?_; rintro e w3 ⟨rfl, hB3⟩))
 go_ret2
 exact ⟨rfl, (hB1.trans (hB2.mono hB1.size)).trans (hB3.mono (Nat.le_trans hB1.size hB2.size))⟩
end Go.Proofs.YtogpbandlpjccaaGreatDoor.TX
/- The machine walks these functions as the plain functions say; written by a program of this session out of the translation, with contracts of some functions of our own. -/
namespace Go.Proofs.YtogpbandlpjccaaGreatDoor.TE
open Go.RowKit Go.Proofs.YtogpbandlpjccaaGreatDoor.TX Go.Proofs.YtogpbandlpjccaaGreatDoorW.PrintWords Go.Proofs.YtogpbandlpjccaaGreatDoorW.PrintLast Go.Proofs.YtogpbandlpjccaaGreatDoorW.PrintMore
attribute [local go_sem] max2_int min2_int max_two min_two max_three min_three max_four min_four   -- for this text's walks alone
set_option linter.unusedVariables false
set_option linter.unusedSimpArgs false
def errW : Option Int → Value
 | none => .nilIface
 | some c => .iface 0 (.int .i64 c)
theorem errW_none : errW none = .nilIface := rfl
theorem errW_some (c : Int) : errW (some c) = .iface 0 (.int .i64 c) := rfl
end Go.Proofs.YtogpbandlpjccaaGreatDoor.TE
/- The machine walks these functions as the plain functions say; written by a program of this session out of the translation, with contracts of some functions of our own. -/
namespace Go.Proofs.YtogpbandlpjccaaGreatDoor.TE
open Go.RowKit Go.Proofs.YtogpbandlpjccaaGreatDoor.TX Go.Proofs.YtogpbandlpjccaaGreatDoorW.PrintWords Go.Proofs.YtogpbandlpjccaaGreatDoorW.PrintLast Go.Proofs.YtogpbandlpjccaaGreatDoorW.PrintMore
attribute [local go_sem] max2_int min2_int max_two min_two max_three min_three max_four min_four   -- for this text's walks alone
set_option linter.unusedVariables false
set_option linter.unusedSimpArgs false
def impl_within.f (a0 : Int) (a1 : Int) (a2 : Int) : Option (Bool) := if a0 ≥ a1 then (some (decide (a0 ≤ a2))) else (some false)
set_option maxHeartbeats 8000000 in
set_option maxRecDepth 100000 in
theorem impl_within.calls (a0 : Int) (a1 : Int) (a2 : Int) (r : Bool) (w : World) (h : impl_within.f a0 a1 a2 = some r) :
  Calls Tryz.prog 78 #[.int .i64 a0, .int .i64 a1, .int .i64 a2] w fun e w' => e = .returned (.bool r) ∧ Drawn0 w w' := by
 have H : (if a0 ≥ a1 then (some (decide (a0 ≤ a2))) else (some false)) = some r := h
 clear h
 by_cases c4 : a0 ≥ a1
 ·rw [if_pos c4] at H
  have c4b0 : decide (a1 ≤ a0) = true := decide_eq_true c4
  clear c4
  obtain rfl := Option.some.inj H
  go_enter Tryz.func78, Tryz.ntmps78
  go_wp2
  go_ret
  exact ⟨by first | rfl | (simp; done) | (simp [*]; done), by repeat (first | exact Drawn0.refl _ | apply Drawn0.step)⟩
 ·rw [if_neg c4] at H
  have c4b0 : decide (a1 ≤ a0) = false := decide_eq_false c4
  clear c4
  obtain rfl := Option.some.inj H
  go_enter Tryz.func78, Tryz.ntmps78
  go_wp2
  go_ret
  exact ⟨by first | rfl | (simp; done) | (simp [*]; done), by repeat (first | exact Drawn0.refl _ | apply Drawn0.step)⟩
def impl_ValidEllipsoid.f (a0_0 : Int) (a0_1 : Int) (a0_2 : Int) : Option (Bool) := (impl_within.f a0_0 1000 100000000000).bind fun t102 => (if t102 = true then ((impl_within.f a0_2 1 1000000000000).bind fun t103 => (if t103 = true then ((impl_within.f a0_1 0 (wrap64 (Int.tdiv a0_2 100))).bind fun t104 => (some t104)) else (some false))) else (some false))
set_option maxHeartbeats 8000000 in
set_option maxRecDepth 100000 in
theorem impl_ValidEllipsoid.calls (a0_0 : Int) (a0_1 : Int) (a0_2 : Int) (r : Bool) (w : World) (h : impl_ValidEllipsoid.f a0_0 a0_1 a0_2 = some r) :
  Calls Tryz.prog 68 #[.agg #[.int .i64 a0_0, .int .i64 a0_1, .int .i64 a0_2]] w fun e w' => e = .returned (.bool r) ∧ Below w.heap.size w w' := by
 have hu25 := Tryz.underlying25
 have HB := Aside0.mk (Below.refl w.heap.size w)
 have H : ((impl_within.f a0_0 1000 100000000000).bind fun t102 => (if t102 = true then ((impl_within.f a0_2 1 1000000000000).bind fun t103 => (if t103 = true then ((impl_within.f a0_1 0 (wrap64 (Int.tdiv a0_2 100))).bind fun t104 => (some t104)) else (some false))) else (some false))) = some r := h
 clear h
 replace H := Option.bind_eq_some_iff.mp H
 obtain ⟨t102, A20, H⟩ := H
 replace H : (if t102 = true then ((impl_within.f a0_2 1 1000000000000).bind fun t103 => (if t103 = true then ((impl_within.f a0_1 0 (wrap64 (Int.tdiv a0_2 100))).bind fun t104 => (some t104)) else (some false))) else (some false)) = some r := H
 have A2 := Aside0.mk A20
 clear A20
 by_cases c3 : t102 = true
 ·subst c3
  have H1 : ((impl_within.f a0_2 1 1000000000000).bind fun t103 => (if t103 = true then ((impl_within.f a0_1 0 (wrap64 (Int.tdiv a0_2 100))).bind fun t104 => (some t104)) else (some false))) = some r := by rw [if_pos rfl] at H; exact H
  clear H
  have H := H1
  clear H1
  replace H := Option.bind_eq_some_iff.mp H
  obtain ⟨t103, A40, H⟩ := H
  replace H : (if t103 = true then ((impl_within.f a0_1 0 (wrap64 (Int.tdiv a0_2 100))).bind fun t104 => (some t104)) else (some false)) = some r := H
  have A4 := Aside0.mk A40
  clear A40
  by_cases c5 : t103 = true
  ·subst c5
   have H1 : ((impl_within.f a0_1 0 (wrap64 (Int.tdiv a0_2 100))).bind fun t104 => (some t104)) = some r := by rw [if_pos rfl] at H; exact H
   clear H
   have H := H1
   clear H1
   replace H := Option.bind_eq_some_iff.mp H
   obtain ⟨t104, A60, H⟩ := H
   replace H : (some t104) = some r := H
   have A6 := Aside0.mk A60
   clear A60
   obtain rfl := Option.some.inj H
   go_enter Tryz.func68, Tryz.ntmps68
   go_wp2_with (first | ((with_reducible refine gate_dst (N := 1) rfl ?_); refine box_event ?hg (N := 1) ?hd (cs := #[.int .i64 a0_0, .int .i64 a0_1, .int .i64 a0_2]) (t := 25) ?hr ?_; (case hd => rfl); (case hg => rfl); (case hr => first | (go_simp; done) | (go_simp; rfl)); intro gb101 hg w7 hbox hb; have BK101 := Aside0.mk (hbox); have GW101 := Aside0.mk ((by rw [hg]; exact (below_size (b0 HB.out)) : w.heap.size ≤ gb101)); have GE101 := Aside0.mk ((by rw [hg]; exact (below_size (b0 HB.out)) : w.heap.size ≤ gb101)); replace HB := Aside0.mk (below_step (b0 HB.out) hb); clear hb hbox hg; have hcz8_0 : w7.cell? ⟨gb101, 0, none⟩ = some (.int .i64 a0_0) := (blk_cell BK101.out 0).trans rfl; have hcz8_1 : w7.cell? ⟨gb101, 1, none⟩ = some (.int .i64 a0_1) := (blk_cell BK101.out 1).trans rfl; have hcz8_2 : w7.cell? ⟨gb101, 2, none⟩ = some (.int .i64 a0_2) := (blk_cell BK101.out 2).trans rfl; have hfz8_0 := blk_frozen BK101.out 0; have hfz8_1 := blk_frozen BK101.out 1; have hfz8_2 := blk_frozen BK101.out 2) | ((with_reducible refine gate_callee (f := 78) rfl ?_); refine goesL_ (some 5) rfl rfl Tryz.func78 (by kernel_rfl) rfl #[.int .i64 a0_0, .int .i64 1000, .int .i64 100000000000] rfl (by (try simp only [List.map_toArray, List.map_cons, List.map_nil]); first | done | rfl | (simp only [List.length_drop, List.length_take]; rfl)) ?_; (with_reducible refine (impl_within.calls a0_0 1000 100000000000 true _ A2.out).mono ?_); rintro e w' ⟨rfl, ⟨nd, rfl⟩⟩; refine ⟨_, rfl, ?_⟩) | (go_at_call 78; (with_reducible refine (impl_within.calls a0_2 1 1000000000000 true _ A4.out).mono ?_); rintro e w' ⟨rfl, ⟨nd, rfl⟩⟩) | (go_at_call 78; (with_reducible refine (impl_within.calls a0_1 0 (wrap64 (Int.tdiv a0_2 100)) t104 _ A6.out).mono ?_); rintro e w' ⟨rfl, ⟨nd, rfl⟩⟩))
   go_ret
   exact ⟨by first | rfl | (simp [errW_none, errW_some] <;> rfl) | (simp [*, errW_none, errW_some] <;> rfl), bq HB.out (.c GE101.out .n)⟩
  ·replace c5 := Bool.eq_false_iff.mpr c5
   subst c5
   have H1 : (some false) = some r := by rw [if_neg (show ¬ (false = true) by decide)] at H; exact H
   clear H
   have H := H1
   clear H1
   obtain rfl := Option.some.inj H
   go_enter Tryz.func68, Tryz.ntmps68
   go_wp2_with (first | ((with_reducible refine gate_dst (N := 1) rfl ?_); refine box_event ?hg (N := 1) ?hd (cs := #[.int .i64 a0_0, .int .i64 a0_1, .int .i64 a0_2]) (t := 25) ?hr ?_; (case hd => rfl); (case hg => rfl); (case hr => first | (go_simp; done) | (go_simp; rfl)); intro gb101 hg w9 hbox hb; have BK101 := Aside0.mk (hbox); have GW101 := Aside0.mk ((by rw [hg]; exact (below_size (b0 HB.out)) : w.heap.size ≤ gb101)); have GE101 := Aside0.mk ((by rw [hg]; exact (below_size (b0 HB.out)) : w.heap.size ≤ gb101)); replace HB := Aside0.mk (below_step (b0 HB.out) hb); clear hb hbox hg; have hcz10_0 : w9.cell? ⟨gb101, 0, none⟩ = some (.int .i64 a0_0) := (blk_cell BK101.out 0).trans rfl; have hcz10_1 : w9.cell? ⟨gb101, 1, none⟩ = some (.int .i64 a0_1) := (blk_cell BK101.out 1).trans rfl; have hcz10_2 : w9.cell? ⟨gb101, 2, none⟩ = some (.int .i64 a0_2) := (blk_cell BK101.out 2).trans rfl; have hfz10_0 := blk_frozen BK101.out 0; have hfz10_1 := blk_frozen BK101.out 1; have hfz10_2 := blk_frozen BK101.out 2) | ((with_reducible refine gate_callee (f := 78) rfl ?_); refine goesL_ (some 5) rfl rfl Tryz.func78 (by kernel_rfl) rfl #[.int .i64 a0_0, .int .i64 1000, .int .i64 100000000000] rfl (by (try simp only [List.map_toArray, List.map_cons, List.map_nil]); first | done | rfl | (simp only [List.length_drop, List.length_take]; rfl)) ?_; (with_reducible refine (impl_within.calls a0_0 1000 100000000000 true _ A2.out).mono ?_); rintro e w' ⟨rfl, ⟨nd, rfl⟩⟩; refine ⟨_, rfl, ?_⟩) | (go_at_call 78; (with_reducible refine (impl_within.calls a0_2 1 1000000000000 false _ A4.out).mono ?_); rintro e w' ⟨rfl, ⟨nd, rfl⟩⟩))
   go_ret
   exact ⟨by first | rfl | (simp [errW_none, errW_some] <;> rfl) | (simp [*, errW_none, errW_some] <;> rfl), bq HB.out (.c GE101.out .n)⟩
 ·replace c3 := Bool.eq_false_iff.mpr c3
  subst c3
  have H1 : (some false) = some r := by rw [if_neg (show ¬ (false = true) by decide)] at H; exact H
  clear H
  have H := H1
  clear H1
  obtain rfl := Option.some.inj H
  go_enter Tryz.func68, Tryz.ntmps68
  go_wp2_with (first | ((with_reducible refine gate_dst (N := 1) rfl ?_); refine box_event ?hg (N := 1) ?hd (cs := #[.int .i64 a0_0, .int .i64 a0_1, .int .i64 a0_2]) (t := 25) ?hr ?_; (case hd => rfl); (case hg => rfl); (case hr => first | (go_simp; done) | (go_simp; rfl)); intro gb101 hg w11 hbox hb; have BK101 := Aside0.mk (hbox); have GW101 := Aside0.mk ((by rw [hg]; exact (below_size (b0 HB.out)) : w.heap.size ≤ gb101)); have GE101 := Aside0.mk ((by rw [hg]; exact (below_size (b0 HB.out)) : w.heap.size ≤ gb101)); replace HB := Aside0.mk (below_step (b0 HB.out) hb); clear hb hbox hg; have hcz12_0 : w11.cell? ⟨gb101, 0, none⟩ = some (.int .i64 a0_0) := (blk_cell BK101.out 0).trans rfl; have hcz12_1 : w11.cell? ⟨gb101, 1, none⟩ = some (.int .i64 a0_1) := (blk_cell BK101.out 1).trans rfl; have hcz12_2 : w11.cell? ⟨gb101, 2, none⟩ = some (.int .i64 a0_2) := (blk_cell BK101.out 2).trans rfl; have hfz12_0 := blk_frozen BK101.out 0; have hfz12_1 := blk_frozen BK101.out 1; have hfz12_2 := blk_frozen BK101.out 2) | ((with_reducible refine gate_callee (f := 78) rfl ?_); refine goesL_ (some 5) rfl rfl Tryz.func78 (by kernel_rfl) rfl #[.int .i64 a0_0, .int .i64 1000, .int .i64 100000000000] rfl (by (try simp only [List.map_toArray, List.map_cons, List.map_nil]); first | done | rfl | (simp only [List.length_drop, List.length_take]; rfl)) ?_; (with_reducible refine (impl_within.calls a0_0 1000 100000000000 false _ A2.out).mono ?_); rintro e w' ⟨rfl, ⟨nd, rfl⟩⟩; refine ⟨_, rfl, ?_⟩))
  go_ret
  exact ⟨by first | rfl | (simp [errW_none, errW_some] <;> rfl) | (simp [*, errW_none, errW_some] <;> rfl), bq HB.out (.c GE101.out .n)⟩
def strconv_FormatInt_197.f (a0 : Int) (a1 : Int) : Option ByteArray := if a1 = 10 then (if -9223372036854775808 ≤ a0 ∧ a0 ≤ 9223372036854775807 then some ⟨(Lib.itoa a0).toArray⟩ else none) else none
theorem strconv_FormatInt_197.calls {b_ : Bool} (a0 : Int) (a1 : Int) (r : ByteArray) (w : World) (hO_ : Ok_ b_ w) (h : strconv_FormatInt_197.f a0 a1 = some r) :
  Calls Tryz.prog 197 #[.int .i64 a0, .int .i64 a1] w fun e w' => e = .returned (.string r) ∧ Below w.heap.size w w' := by
 unfold strconv_FormatInt_197.f at h
 by_cases h1 : a1 = 10
 ·rw [if_pos h1] at h
  by_cases h2 : -9223372036854775808 ≤ a0 ∧ a0 ≤ 9223372036854775807
  ·rw [if_pos h2] at h
   subst h1
   exact formatInt_ a0 r h2.1 h2.2 w hO_ (Option.some.inj h)
  ·rw [if_neg h2] at h; cases h
 ·rw [if_neg h1] at h; cases h
def impl_Decimal.f (a0 : Int) : Option (ByteArray) := (strconv_FormatInt_197.f a0 10).bind fun t105 => (some t105)
set_option maxHeartbeats 8000000 in
set_option maxRecDepth 100000 in
theorem impl_Decimal.calls {b_ : Bool} (a0 : Int) (r : ByteArray) (w : World) (hO_ : Ok_ b_ w) (h : impl_Decimal.f a0 = some r) :
  Calls Tryz.prog 141 #[.int .i64 a0] w fun e w' => e = .returned (.string r) ∧ Below w.heap.size w w' := by
 have HB := Aside0.mk (Below.refl w.heap.size w)
 have H : ((strconv_FormatInt_197.f a0 10).bind fun t105 => (some t105)) = some r := h
 clear h
 replace H := Option.bind_eq_some_iff.mp H
 obtain ⟨t105, A20, H⟩ := H
 replace H : (some t105) = some r := H
 have A2 := Aside0.mk A20
 clear A20
 obtain rfl := Option.some.inj H
 go_enter Tryz.func141, Tryz.ntmps141
 go_wp2_with (first | ((with_reducible refine gate_callee (f := 197) rfl ?_); refine goesL_ (some 4) rfl rfl Tryz.func197 (by kernel_rfl) rfl #[.int .i64 a0, .int .i64 10] rfl (by (try simp only [List.map_toArray, List.map_cons, List.map_nil]); first | done | rfl | (simp only [List.length_drop, List.length_take]; rfl)) ?_; (with_reducible refine (strconv_FormatInt_197.calls a0 10 t105 _ (okd_ hO_ (b0 HB.out)) A2.out).mono ?_); rintro e w3 ⟨rfl, hb⟩; refine ⟨_, rfl, ?_⟩; replace HB := Aside0.mk (below_step (b0 HB.out) hb); (try clear hb); (try clear hb2); (try clear hk); (try clear hi)))
 go_ret
 exact ⟨by first | rfl | (simp [errW_none, errW_some] <;> rfl) | (simp [*, errW_none, errW_some] <;> rfl), b0 HB.out⟩
def impl_ellipsoidText.f (a0_0 : Int) (a0_1 : Int) (a0_2 : Int) : Option (ByteArray) := (impl_Decimal.f a0_0).bind fun t107 => (if t107.size + 1 ≤ 9223372036854775807 then ((impl_Decimal.f a0_1).bind fun t108 => (if (t107 ++ (⟨#[32]⟩ : ByteArray)).size + t108.size ≤ 9223372036854775807 then (if ((t107 ++ (⟨#[32]⟩ : ByteArray)) ++ t108).size + 1 ≤ 9223372036854775807 then ((impl_Decimal.f a0_2).bind fun t109 => (if (((t107 ++ (⟨#[32]⟩ : ByteArray)) ++ t108) ++ (⟨#[47]⟩ : ByteArray)).size + t109.size ≤ 9223372036854775807 then (some ((((t107 ++ (⟨#[32]⟩ : ByteArray)) ++ t108) ++ (⟨#[47]⟩ : ByteArray)) ++ t109)) else (none))) else (none)) else (none))) else (none))
def impl_ellipsoidText.T1 : Bool × List (List Nat × List Nat) := (true, [([], []), ([0], [0]), ([1], [1]), ([2], [2]), ([], []), ([4], [4]), ([5, 2], [5]), ([3, 6], [3, 6]), ([7], [7]), ([], []), ([9], [9]), ([10, 6], [10]), ([8, 11], [8, 11]), ([12, 11, 0, 1, 2, 3, 4, 5, 6, 7, 8, 9, 10, 11, 12], [12])])
def impl_ellipsoidText.B1 : List Nat := [0, 1, 3, 7, 0, 16, 55, 127, 255, 0, 512, 1655, 4095, 8191]
theorem impl_ellipsoidText.tab1 : rtab .any (opsOf Tryz.f117 1) = impl_ellipsoidText.T1 := by kernel_rfl
theorem impl_ellipsoidText.bits1 : waitsOk impl_ellipsoidText.T1.2 impl_ellipsoidText.B1 = true := by kernel_rfl
set_option maxHeartbeats 8000000 in
set_option maxRecDepth 100000 in
theorem impl_ellipsoidText.calls {b_ : Bool} (a0_0 : Int) (a0_1 : Int) (a0_2 : Int) (r : ByteArray) (w : World) (hO_ : Ok_ b_ w) (h : impl_ellipsoidText.f a0_0 a0_1 a0_2 = some r) :
  Calls Tryz.prog 117 #[.agg #[.int .i64 a0_0, .int .i64 a0_1, .int .i64 a0_2]] w fun e w' => e = .returned (.string r) ∧ Below w.heap.size w w' := by
 have hu25 := Tryz.underlying25
 have HB := Aside0.mk (Below.refl w.heap.size w)
 have H : ((impl_Decimal.f a0_0).bind fun t107 => (if t107.size + 1 ≤ 9223372036854775807 then ((impl_Decimal.f a0_1).bind fun t108 => (if (t107 ++ (⟨#[32]⟩ : ByteArray)).size + t108.size ≤ 9223372036854775807 then (if ((t107 ++ (⟨#[32]⟩ : ByteArray)) ++ t108).size + 1 ≤ 9223372036854775807 then ((impl_Decimal.f a0_2).bind fun t109 => (if (((t107 ++ (⟨#[32]⟩ : ByteArray)) ++ t108) ++ (⟨#[47]⟩ : ByteArray)).size + t109.size ≤ 9223372036854775807 then (some ((((t107 ++ (⟨#[32]⟩ : ByteArray)) ++ t108) ++ (⟨#[47]⟩ : ByteArray)) ++ t109)) else (none))) else (none)) else (none))) else (none))) = some r := h
 clear h
 replace H := Option.bind_eq_some_iff.mp H
 obtain ⟨t107, A20, H⟩ := H
 replace H : (if t107.size + 1 ≤ 9223372036854775807 then ((impl_Decimal.f a0_1).bind fun t108 => (if (t107 ++ (⟨#[32]⟩ : ByteArray)).size + t108.size ≤ 9223372036854775807 then (if ((t107 ++ (⟨#[32]⟩ : ByteArray)) ++ t108).size + 1 ≤ 9223372036854775807 then ((impl_Decimal.f a0_2).bind fun t109 => (if (((t107 ++ (⟨#[32]⟩ : ByteArray)) ++ t108) ++ (⟨#[47]⟩ : ByteArray)).size + t109.size ≤ 9223372036854775807 then (some ((((t107 ++ (⟨#[32]⟩ : ByteArray)) ++ t108) ++ (⟨#[47]⟩ : ByteArray)) ++ t109)) else (none))) else (none)) else (none))) else (none)) = some r := H
 have A2 := Aside0.mk A20
 clear A20
 by_cases c3 : t107.size + 1 ≤ 9223372036854775807
 ·rw [if_pos c3] at H
  have c3b0 := eq_true c3
  have c3b1 : decide (t107.size + 1 ≤ 9223372036854775807) = true := decide_eq_true c3
  try have c3b2 : (9223372036854775807 < t107.size + 1) = False := eq_false (Nat.not_lt.2 c3)
  replace H := Option.bind_eq_some_iff.mp H
  obtain ⟨t108, A40, H⟩ := H
  replace H : (if (t107 ++ (⟨#[32]⟩ : ByteArray)).size + t108.size ≤ 9223372036854775807 then (if ((t107 ++ (⟨#[32]⟩ : ByteArray)) ++ t108).size + 1 ≤ 9223372036854775807 then ((impl_Decimal.f a0_2).bind fun t109 => (if (((t107 ++ (⟨#[32]⟩ : ByteArray)) ++ t108) ++ (⟨#[47]⟩ : ByteArray)).size + t109.size ≤ 9223372036854775807 then (some ((((t107 ++ (⟨#[32]⟩ : ByteArray)) ++ t108) ++ (⟨#[47]⟩ : ByteArray)) ++ t109)) else (none))) else (none)) else (none)) = some r := H
  have A4 := Aside0.mk A40
  clear A40
  by_cases c5 : (t107 ++ (⟨#[32]⟩ : ByteArray)).size + t108.size ≤ 9223372036854775807
  ·rw [if_pos c5] at H
   have c5b0 := eq_true c5
   have c5b1 : decide ((t107 ++ (⟨#[32]⟩ : ByteArray)).size + t108.size ≤ 9223372036854775807) = true := decide_eq_true c5
   try have c5b2 : (9223372036854775807 < (t107 ++ (⟨#[32]⟩ : ByteArray)).size + t108.size) = False := eq_false (Nat.not_lt.2 c5)
   have c5z := c5
   try simp only [ByteArray.size_append, show (⟨#[32]⟩ : ByteArray).size = 1 from rfl] at c5z
   try have c5b3 := eq_false (Nat.not_lt.2 c5z)
   try have c5b4 := eq_true c5z
   by_cases c6 : ((t107 ++ (⟨#[32]⟩ : ByteArray)) ++ t108).size + 1 ≤ 9223372036854775807
   ·rw [if_pos c6] at H
    have c6b0 := eq_true c6
    have c6b1 : decide (((t107 ++ (⟨#[32]⟩ : ByteArray)) ++ t108).size + 1 ≤ 9223372036854775807) = true := decide_eq_true c6
    try have c6b2 : (9223372036854775807 < ((t107 ++ (⟨#[32]⟩ : ByteArray)) ++ t108).size + 1) = False := eq_false (Nat.not_lt.2 c6)
    have c6z := c6
    try simp only [ByteArray.size_append, show (⟨#[32]⟩ : ByteArray).size = 1 from rfl] at c6z
    try have c6b3 := eq_false (Nat.not_lt.2 c6z)
    try have c6b4 := eq_true c6z
    replace H := Option.bind_eq_some_iff.mp H
    obtain ⟨t109, A70, H⟩ := H
    replace H : (if (((t107 ++ (⟨#[32]⟩ : ByteArray)) ++ t108) ++ (⟨#[47]⟩ : ByteArray)).size + t109.size ≤ 9223372036854775807 then (some ((((t107 ++ (⟨#[32]⟩ : ByteArray)) ++ t108) ++ (⟨#[47]⟩ : ByteArray)) ++ t109)) else (none)) = some r := H
    have A7 := Aside0.mk A70
    clear A70
    by_cases c8 : (((t107 ++ (⟨#[32]⟩ : ByteArray)) ++ t108) ++ (⟨#[47]⟩ : ByteArray)).size + t109.size ≤ 9223372036854775807
    ·rw [if_pos c8] at H
     have c8b0 := eq_true c8
     have c8b1 : decide ((((t107 ++ (⟨#[32]⟩ : ByteArray)) ++ t108) ++ (⟨#[47]⟩ : ByteArray)).size + t109.size ≤ 9223372036854775807) = true := decide_eq_true c8
     try have c8b2 : (9223372036854775807 < (((t107 ++ (⟨#[32]⟩ : ByteArray)) ++ t108) ++ (⟨#[47]⟩ : ByteArray)).size + t109.size) = False := eq_false (Nat.not_lt.2 c8)
     have c8z := c8
     try simp only [ByteArray.size_append, show (⟨#[32]⟩ : ByteArray).size = 1 from rfl, show (⟨#[47]⟩ : ByteArray).size = 1 from rfl] at c8z
     try have c8b3 := eq_false (Nat.not_lt.2 c8z)
     try have c8b4 := eq_true c8z
     obtain rfl := Option.some.inj H
     go_enter Tryz.func117, Tryz.ntmps117
     try go_wp2_with (first | ((with_reducible refine gate_dst (N := 1) rfl ?_); refine box_event ?hg (N := 1) ?hd (cs := #[.int .i64 a0_0, .int .i64 a0_1, .int .i64 a0_2]) (t := 25) ?hr ?_; (case hd => rfl); (case hg => rfl); (case hr => first | (go_simp; done) | (go_simp; rfl)); intro gb106 hg w9 hbox hb; have BK106 := Aside0.mk (hbox); have GW106 := Aside0.mk ((by rw [hg]; exact (below_size (b0 HB.out)) : w.heap.size ≤ gb106)); have GE106 := Aside0.mk ((by rw [hg]; exact (below_size (b0 HB.out)) : w.heap.size ≤ gb106)); replace HB := Aside0.mk (below_step (b0 HB.out) hb); clear hb hbox hg))
     replace BK106 := Aside0.mk (blk_drew BK106.out)
     replace HB := Aside0.mk (below_drew1 HB.out)
     refine start_ (n := 14) (S := fun w' => w'.cell? ⟨gb106, 0, none⟩ = some (.int .i64 a0_0) ∧ w'.cell? ⟨gb106, 1, none⟩ = some (.int .i64 a0_1) ∧ w'.cell? ⟨gb106, 2, none⟩ = some (.int .i64 a0_2)) (ds := []) #[false, false, false, false, false, false, false, false, false, false, false, false, false, false] (by kernel_rfl) rfl rfl ⟨(blk_cell BK106.out 0).trans rfl, (blk_cell BK106.out 1).trans rfl, (blk_cell BK106.out 2).trans rfl⟩ (fun hHeld => ?_); refine with_tabW impl_ellipsoidText.tab1 impl_ellipsoidText.bits1 (fun HT_ HW_ => ?_)
     generalize w9.drew = w10 at BK106 HB hHeld ⊢
     refine pA 0 (some 3) HT_ ?_
     refine pA 4 (some 7) HT_ ?_
     refine pA 9 (some 12) HT_ ?_
     refine tA 1 (some 4) HT_ HW_ hHeld ?_
     refine tA 5 (some 8) HT_ HW_ hHeld ?_
     refine tA 10 (some 13) HT_ HW_ hHeld ?_
     refine oA 2 (some 5) HT_ fun K hK => ?_
     refine gs Tryz.func141 #[.int .i64 a0_0] rfl ?_
     with_reducible refine (impl_Decimal.calls a0_0 t107 _ (okd_ hO_ (bq HB.out (.c GE106.out .n))) A2.out).mono ?_
     rintro e w11 ⟨rfl, hb⟩
     refine ⟨_, rfl, ?_⟩
     replace BK106 := Aside0.mk (blk_below (h0 BK106.out) hb)
     replace HB := Aside0.mk (below_step (bq HB.out (.c GE106.out .n)) hb)
     (try clear hb)
     (try clear hb2)
     (try clear hk)
     (try clear hi)
     refine hK.out _ _ ⟨(blk_cell BK106.out 0).trans rfl, (blk_cell BK106.out 1).trans rfl, (blk_cell BK106.out 2).trans rfl⟩ (fun hHeld => ?_)
     clear hK K
     refine nA (some 5) ?_
     refine pA 3 (some 6) HT_ ?_
     refine oA 6 (some 9) HT_ fun K hK => ?_
     refine gs Tryz.func141 #[.int .i64 a0_1] rfl ?_
     with_reducible refine (impl_Decimal.calls a0_1 t108 _ (okd_ hO_ (bq HB.out (.c GE106.out .n))) A4.out).mono ?_
     rintro e w12 ⟨rfl, hb⟩
     refine ⟨_, rfl, ?_⟩
     replace BK106 := Aside0.mk (blk_below (h0 BK106.out) hb)
     replace HB := Aside0.mk (below_step (bq HB.out (.c GE106.out .n)) hb)
     (try clear hb)
     (try clear hb2)
     (try clear hk)
     (try clear hi)
     refine hK.out _ _ ⟨(blk_cell BK106.out 0).trans rfl, (blk_cell BK106.out 1).trans rfl, (blk_cell BK106.out 2).trans rfl⟩ (fun hHeld => ?_)
     clear hK K
     refine nA (some 9) ?_
     refine pA 7 (some 10) HT_ ?_
     refine pA 8 (some 11) HT_ ?_
     refine oA 11 (some 14) HT_ fun K hK => ?_
     refine gs Tryz.func141 #[.int .i64 a0_2] rfl ?_
     with_reducible refine (impl_Decimal.calls a0_2 t109 _ (okd_ hO_ (bq HB.out (.c GE106.out .n))) A7.out).mono ?_
     rintro e w13 ⟨rfl, hb⟩
     refine ⟨_, rfl, ?_⟩
     replace BK106 := Aside0.mk (blk_below (h0 BK106.out) hb)
     replace HB := Aside0.mk (below_step (bq HB.out (.c GE106.out .n)) hb)
     (try clear hb)
     (try clear hb2)
     (try clear hk)
     (try clear hi)
     refine hK.out _ _ ⟨(blk_cell BK106.out 0).trans rfl, (blk_cell BK106.out 1).trans rfl, (blk_cell BK106.out 2).trans rfl⟩ (fun hHeld => ?_)
     clear hK K
     refine nA (some 14) ?_
     refine pA 12 (some 15) HT_ ?_
     refine pA 13 (some 2) HT_ ?_
     refine done_ (done_of HT_.out (by kernel_rfl)) ?_
     try go_wp2
     go_ret
     exact ⟨by first | rfl | (simp [errW_none, errW_some] <;> rfl) | (simp [*, errW_none, errW_some] <;> rfl), bq HB.out (.c GE106.out .n)⟩
    ·rw [if_neg c8] at H
     exact absurd H (by simp)
   ·rw [if_neg c6] at H
    exact absurd H (by simp)
  ·rw [if_neg c5] at H
   exact absurd H (by simp)
 ·rw [if_neg c3] at H
  exact absurd H (by simp)
def impl_EllipsoidText.f (a0_0 : Int) (a0_1 : Int) (a0_2 : Int) : Option (ByteArray) := (impl_ValidEllipsoid.f a0_0 a0_1 a0_2).bind fun t111 => (if t111 = true then ((impl_ellipsoidText.f a0_0 a0_1 a0_2).bind fun t112 => (some t112)) else (some (⟨#[]⟩ : ByteArray)))
set_option maxHeartbeats 8000000 in
set_option maxRecDepth 100000 in
theorem impl_EllipsoidText.calls {b_ : Bool} (a0_0 : Int) (a0_1 : Int) (a0_2 : Int) (r : ByteArray) (w : World) (hO_ : Ok_ b_ w) (h : impl_EllipsoidText.f a0_0 a0_1 a0_2 = some r) :
  Calls Tryz.prog 52 #[.agg #[.int .i64 a0_0, .int .i64 a0_1, .int .i64 a0_2]] w fun e w' => e = .returned (.string r) ∧ Below w.heap.size w w' := by
 have hu25 := Tryz.underlying25
 have HB := Aside0.mk (Below.refl w.heap.size w)
 have H : ((impl_ValidEllipsoid.f a0_0 a0_1 a0_2).bind fun t111 => (if t111 = true then ((impl_ellipsoidText.f a0_0 a0_1 a0_2).bind fun t112 => (some t112)) else (some (⟨#[]⟩ : ByteArray)))) = some r := h
 clear h
 replace H := Option.bind_eq_some_iff.mp H
 obtain ⟨t111, A20, H⟩ := H
 replace H : (if t111 = true then ((impl_ellipsoidText.f a0_0 a0_1 a0_2).bind fun t112 => (some t112)) else (some (⟨#[]⟩ : ByteArray))) = some r := H
 have A2 := Aside0.mk A20
 clear A20
 by_cases c3 : t111 = true
 ·subst c3
  have H1 : ((impl_ellipsoidText.f a0_0 a0_1 a0_2).bind fun t112 => (some t112)) = some r := by rw [if_pos rfl] at H; exact H
  clear H
  have H := H1
  clear H1
  replace H := Option.bind_eq_some_iff.mp H
  obtain ⟨t112, A40, H⟩ := H
  replace H : (some t112) = some r := H
  have A4 := Aside0.mk A40
  clear A40
  obtain rfl := Option.some.inj H
  go_enter Tryz.func52, Tryz.ntmps52
  go_wp2_with (first | ((with_reducible refine gate_dst (N := 1) rfl ?_); refine box_event ?hg (N := 1) ?hd (cs := #[.int .i64 a0_0, .int .i64 a0_1, .int .i64 a0_2]) (t := 25) ?hr ?_; (case hd => rfl); (case hg => rfl); (case hr => first | (go_simp; done) | (go_simp; rfl)); intro gb110 hg w5 hbox hb; have BK110 := Aside0.mk (hbox); have GW110 := Aside0.mk ((by rw [hg]; exact (below_size (b0 HB.out)) : w.heap.size ≤ gb110)); have GE110 := Aside0.mk ((by rw [hg]; exact (below_size (b0 HB.out)) : w.heap.size ≤ gb110)); replace HB := Aside0.mk (below_step (b0 HB.out) hb); clear hb hbox hg; have hcz6_0 : w5.cell? ⟨gb110, 0, none⟩ = some (.int .i64 a0_0) := (blk_cell BK110.out 0).trans rfl; have hcz6_1 : w5.cell? ⟨gb110, 1, none⟩ = some (.int .i64 a0_1) := (blk_cell BK110.out 1).trans rfl; have hcz6_2 : w5.cell? ⟨gb110, 2, none⟩ = some (.int .i64 a0_2) := (blk_cell BK110.out 2).trans rfl; have hfz6_0 := blk_frozen BK110.out 0; have hfz6_1 := blk_frozen BK110.out 1; have hfz6_2 := blk_frozen BK110.out 2) | ((with_reducible refine gate_callee (f := 68) rfl ?_); refine goesL_ (some 4) rfl rfl Tryz.func68 (by kernel_rfl) rfl #[.agg #[.int .i64 a0_0, .int .i64 a0_1, .int .i64 a0_2]] rfl (by (try simp only [List.map_toArray, List.map_cons, List.map_nil]); first | done | rfl | (simp only [List.length_drop, List.length_take]; rfl)) ?_; (with_reducible refine (impl_ValidEllipsoid.calls a0_0 a0_1 a0_2 true _ A2.out).mono ?_); rintro e w7 ⟨rfl, hb⟩; refine ⟨_, rfl, ?_⟩; replace BK110 := Aside0.mk (blk_below (h0 BK110.out) hb); replace HB := Aside0.mk (below_step (bq HB.out (.c GE110.out .n)) hb); (try clear hb); (try clear hb2); (try clear hk); (try clear hi); have hcz8_0 : w7.cell? ⟨gb110, 0, none⟩ = some (.int .i64 a0_0) := (blk_cell BK110.out 0).trans rfl; have hcz8_1 : w7.cell? ⟨gb110, 1, none⟩ = some (.int .i64 a0_1) := (blk_cell BK110.out 1).trans rfl; have hcz8_2 : w7.cell? ⟨gb110, 2, none⟩ = some (.int .i64 a0_2) := (blk_cell BK110.out 2).trans rfl; have hfz8_0 := blk_frozen BK110.out 0; have hfz8_1 := blk_frozen BK110.out 1; have hfz8_2 := blk_frozen BK110.out 2) | ((with_reducible refine gate_callee (f := 117) rfl ?_); refine goesL_ (some 7) rfl rfl Tryz.func117 (by kernel_rfl) rfl #[.agg #[.int .i64 a0_0, .int .i64 a0_1, .int .i64 a0_2]] rfl (by (try simp only [List.map_toArray, List.map_cons, List.map_nil]); first | done | rfl | (simp only [List.length_drop, List.length_take]; rfl)) ?_; (with_reducible refine (impl_ellipsoidText.calls a0_0 a0_1 a0_2 t112 _ (okd_ hO_ (bq HB.out (.c GE110.out .n))) A4.out).mono ?_); rintro e w9 ⟨rfl, hb⟩; refine ⟨_, rfl, ?_⟩; replace BK110 := Aside0.mk (blk_below (h0 BK110.out) hb); replace HB := Aside0.mk (below_step (bq HB.out (.c GE110.out .n)) hb); (try clear hb); (try clear hb2); (try clear hk); (try clear hi)))
  go_ret
  exact ⟨by first | rfl | (simp [errW_none, errW_some] <;> rfl) | (simp [*, errW_none, errW_some] <;> rfl), bq HB.out (.c GE110.out .n)⟩
 ·replace c3 := Bool.eq_false_iff.mpr c3
  subst c3
  have H1 : (some (⟨#[]⟩ : ByteArray)) = some r := by rw [if_neg (show ¬ (false = true) by decide)] at H; exact H
  clear H
  have H := H1
  clear H1
  obtain rfl := Option.some.inj H
  go_enter Tryz.func52, Tryz.ntmps52
  go_wp2_with (first | ((with_reducible refine gate_dst (N := 1) rfl ?_); refine box_event ?hg (N := 1) ?hd (cs := #[.int .i64 a0_0, .int .i64 a0_1, .int .i64 a0_2]) (t := 25) ?hr ?_; (case hd => rfl); (case hg => rfl); (case hr => first | (go_simp; done) | (go_simp; rfl)); intro gb110 hg w10 hbox hb; have BK110 := Aside0.mk (hbox); have GW110 := Aside0.mk ((by rw [hg]; exact (below_size (b0 HB.out)) : w.heap.size ≤ gb110)); have GE110 := Aside0.mk ((by rw [hg]; exact (below_size (b0 HB.out)) : w.heap.size ≤ gb110)); replace HB := Aside0.mk (below_step (b0 HB.out) hb); clear hb hbox hg; have hcz11_0 : w10.cell? ⟨gb110, 0, none⟩ = some (.int .i64 a0_0) := (blk_cell BK110.out 0).trans rfl; have hcz11_1 : w10.cell? ⟨gb110, 1, none⟩ = some (.int .i64 a0_1) := (blk_cell BK110.out 1).trans rfl; have hcz11_2 : w10.cell? ⟨gb110, 2, none⟩ = some (.int .i64 a0_2) := (blk_cell BK110.out 2).trans rfl; have hfz11_0 := blk_frozen BK110.out 0; have hfz11_1 := blk_frozen BK110.out 1; have hfz11_2 := blk_frozen BK110.out 2) | ((with_reducible refine gate_callee (f := 68) rfl ?_); refine goesL_ (some 4) rfl rfl Tryz.func68 (by kernel_rfl) rfl #[.agg #[.int .i64 a0_0, .int .i64 a0_1, .int .i64 a0_2]] rfl (by (try simp only [List.map_toArray, List.map_cons, List.map_nil]); first | done | rfl | (simp only [List.length_drop, List.length_take]; rfl)) ?_; (with_reducible refine (impl_ValidEllipsoid.calls a0_0 a0_1 a0_2 false _ A2.out).mono ?_); rintro e w12 ⟨rfl, hb⟩; refine ⟨_, rfl, ?_⟩; replace BK110 := Aside0.mk (blk_below (h0 BK110.out) hb); replace HB := Aside0.mk (below_step (bq HB.out (.c GE110.out .n)) hb); (try clear hb); (try clear hb2); (try clear hk); (try clear hi)))
  go_ret
  exact ⟨by first | rfl | (simp [errW_none, errW_some] <;> rfl) | (simp [*, errW_none, errW_some] <;> rfl), bq HB.out (.c GE110.out .n)⟩
def strings_Cut.f (a0 : ByteArray) (a1 : ByteArray) : Option (ByteArray × ByteArray × Bool) := if a0.size < 4294967281 then some (⟨(Lib.cut a0.data.toList a1.data.toList).1.toArray⟩, ⟨(Lib.cut a0.data.toList a1.data.toList).2.1.toArray⟩, (Lib.cut a0.data.toList a1.data.toList).2.2) else none
theorem strings_Cut.calls {b_ : Bool} (a0 : ByteArray) (a1 : ByteArray) (r1 : ByteArray) (r2 : ByteArray) (r3 : Bool) (w : World) (hO_ : Ok_ b_ w) (h : strings_Cut.f a0 a1 = some (r1, r2, r3)) :
  Calls Tryz.prog 74 #[.string a0, .string a1] w fun e w' => e = .returned (.tuple #[.string r1, .string r2, .bool r3]) ∧ Below w.heap.size w w' := by
 unfold strings_Cut.f at h
 by_cases h2 : a0.size < 4294967281
 ·rw [if_pos h2] at h
  simp only [Option.some.injEq, Prod.mk.injEq] at h
  obtain ⟨rfl, rfl, rfl⟩ := h
  exact cut_ a0 a1 h2 w hO_
 ·rw [if_neg h2] at h; cases h
def impl_ReadDecimal.f (a0 : ByteArray) : Option (Int × Bool) := if isNum a0.data.toList = true then some (numOf a0.data.toList, true) else none
theorem impl_ReadDecimal.calls {b_ : Bool} (a0 : ByteArray) (r1 : Int) (r2 : Bool) (w : World) (hO_ : Ok_ b_ w) (h : impl_ReadDecimal.f a0 = some (r1, r2)) :
  Calls Tryz.prog 116 #[.string a0] w fun e w' => e = .returned (.tuple #[.int .i64 r1, .bool r2]) ∧ Below w.heap.size w w' := by
 unfold impl_ReadDecimal.f at h
 by_cases h2 : isNum a0.data.toList = true
 ·rw [if_pos h2] at h
  cases h
  exact readNum_ a0 h2 w hO_
 ·rw [if_neg h2] at h; cases h
def impl_ReadEllipsoid.f (a0 : ByteArray) : Option (Int × Int × Int × Bool) := (strings_Cut.f a0 (⟨#[32]⟩ : ByteArray)).bind fun bt114 => ((strings_Cut.f bt114.2.1 (⟨#[47]⟩ : ByteArray)).bind fun bt117 => ((impl_ReadDecimal.f bt114.1).bind fun bt120 => ((impl_ReadDecimal.f bt117.1).bind fun bt122 => ((impl_ReadDecimal.f bt117.2.1).bind fun bt124 => (if bt120.2 = true then (if bt122.2 = true then (if bt124.2 = true then ((impl_ValidEllipsoid.f bt120.1 bt122.1 bt124.1).bind fun t127 => (if t127 = true then (some (bt120.1, bt122.1, bt124.1, true)) else (some (0, 0, 0, false)))) else (some (0, 0, 0, false))) else (some (0, 0, 0, false))) else (some (0, 0, 0, false)))))))
set_option maxHeartbeats 8000000 in
set_option maxRecDepth 100000 in
theorem impl_ReadEllipsoid.calls {b_ : Bool} (a0 : ByteArray) (r1 : Int) (r2 : Int) (r3 : Int) (w : World) (hO_ : Ok_ b_ w) (h : impl_ReadEllipsoid.f a0 = some (r1, r2, r3, true)) :
  Calls Tryz.prog 51 #[.string a0] w fun e w' => e = .returned (.tuple #[.agg #[.int .i64 r1, .int .i64 r2, .int .i64 r3], .bool true]) ∧ Below w.heap.size w w' := by
 have hu25 := Tryz.underlying25
 have HB := Aside0.mk (Below.refl w.heap.size w)
 have H : ((strings_Cut.f a0 (⟨#[32]⟩ : ByteArray)).bind fun bt114 => ((strings_Cut.f bt114.2.1 (⟨#[47]⟩ : ByteArray)).bind fun bt117 => ((impl_ReadDecimal.f bt114.1).bind fun bt120 => ((impl_ReadDecimal.f bt117.1).bind fun bt122 => ((impl_ReadDecimal.f bt117.2.1).bind fun bt124 => (if bt120.2 = true then (if bt122.2 = true then (if bt124.2 = true then ((impl_ValidEllipsoid.f bt120.1 bt122.1 bt124.1).bind fun t127 => (if t127 = true then (some (bt120.1, bt122.1, bt124.1, true)) else (some (0, 0, 0, false)))) else (some (0, 0, 0, false))) else (some (0, 0, 0, false))) else (some (0, 0, 0, false)))))))) = some (r1, r2, r3, true) := h
 clear h
 replace H := Option.bind_eq_some_iff.mp H
 obtain ⟨⟨t114, t115, t116⟩, A20, H⟩ := H
 replace H : ((strings_Cut.f t115 (⟨#[47]⟩ : ByteArray)).bind fun bt117 => ((impl_ReadDecimal.f t114).bind fun bt120 => ((impl_ReadDecimal.f bt117.1).bind fun bt122 => ((impl_ReadDecimal.f bt117.2.1).bind fun bt124 => (if bt120.2 = true then (if bt122.2 = true then (if bt124.2 = true then ((impl_ValidEllipsoid.f bt120.1 bt122.1 bt124.1).bind fun t127 => (if t127 = true then (some (bt120.1, bt122.1, bt124.1, true)) else (some (0, 0, 0, false)))) else (some (0, 0, 0, false))) else (some (0, 0, 0, false))) else (some (0, 0, 0, false))))))) = some (r1, r2, r3, true) := H
 have A2 := Aside0.mk A20
 clear A20
 replace H := Option.bind_eq_some_iff.mp H
 obtain ⟨⟨t117, t118, t119⟩, A30, H⟩ := H
 replace H : ((impl_ReadDecimal.f t114).bind fun bt120 => ((impl_ReadDecimal.f t117).bind fun bt122 => ((impl_ReadDecimal.f t118).bind fun bt124 => (if bt120.2 = true then (if bt122.2 = true then (if bt124.2 = true then ((impl_ValidEllipsoid.f bt120.1 bt122.1 bt124.1).bind fun t127 => (if t127 = true then (some (bt120.1, bt122.1, bt124.1, true)) else (some (0, 0, 0, false)))) else (some (0, 0, 0, false))) else (some (0, 0, 0, false))) else (some (0, 0, 0, false)))))) = some (r1, r2, r3, true) := H
 have A3 := Aside0.mk A30
 clear A30
 replace H := Option.bind_eq_some_iff.mp H
 obtain ⟨⟨t120, t121⟩, A40, H⟩ := H
 replace H : ((impl_ReadDecimal.f t117).bind fun bt122 => ((impl_ReadDecimal.f t118).bind fun bt124 => (if t121 = true then (if bt122.2 = true then (if bt124.2 = true then ((impl_ValidEllipsoid.f t120 bt122.1 bt124.1).bind fun t127 => (if t127 = true then (some (t120, bt122.1, bt124.1, true)) else (some (0, 0, 0, false)))) else (some (0, 0, 0, false))) else (some (0, 0, 0, false))) else (some (0, 0, 0, false))))) = some (r1, r2, r3, true) := H
 have A4 := Aside0.mk A40
 clear A40
 replace H := Option.bind_eq_some_iff.mp H
 obtain ⟨⟨t122, t123⟩, A50, H⟩ := H
 replace H : ((impl_ReadDecimal.f t118).bind fun bt124 => (if t121 = true then (if t123 = true then (if bt124.2 = true then ((impl_ValidEllipsoid.f t120 t122 bt124.1).bind fun t127 => (if t127 = true then (some (t120, t122, bt124.1, true)) else (some (0, 0, 0, false)))) else (some (0, 0, 0, false))) else (some (0, 0, 0, false))) else (some (0, 0, 0, false)))) = some (r1, r2, r3, true) := H
 have A5 := Aside0.mk A50
 clear A50
 replace H := Option.bind_eq_some_iff.mp H
 obtain ⟨⟨t124, t125⟩, A60, H⟩ := H
 replace H : (if t121 = true then (if t123 = true then (if t125 = true then ((impl_ValidEllipsoid.f t120 t122 t124).bind fun t127 => (if t127 = true then (some (t120, t122, t124, true)) else (some (0, 0, 0, false)))) else (some (0, 0, 0, false))) else (some (0, 0, 0, false))) else (some (0, 0, 0, false))) = some (r1, r2, r3, true) := H
 have A6 := Aside0.mk A60
 clear A60
 by_cases c7 : t121 = true
 ·subst c7
  have H1 : (if t123 = true then (if t125 = true then ((impl_ValidEllipsoid.f t120 t122 t124).bind fun t127 => (if t127 = true then (some (t120, t122, t124, true)) else (some (0, 0, 0, false)))) else (some (0, 0, 0, false))) else (some (0, 0, 0, false))) = some (r1, r2, r3, true) := by rw [if_pos rfl] at H; exact H
  clear H
  have H := H1
  clear H1
  by_cases c8 : t123 = true
  ·subst c8
   have H1 : (if t125 = true then ((impl_ValidEllipsoid.f t120 t122 t124).bind fun t127 => (if t127 = true then (some (t120, t122, t124, true)) else (some (0, 0, 0, false)))) else (some (0, 0, 0, false))) = some (r1, r2, r3, true) := by rw [if_pos rfl] at H; exact H
   clear H
   have H := H1
   clear H1
   by_cases c9 : t125 = true
   ·subst c9
    have H1 : ((impl_ValidEllipsoid.f t120 t122 t124).bind fun t127 => (if t127 = true then (some (t120, t122, t124, true)) else (some (0, 0, 0, false)))) = some (r1, r2, r3, true) := by rw [if_pos rfl] at H; exact H
    clear H
    have H := H1
    clear H1
    replace H := Option.bind_eq_some_iff.mp H
    obtain ⟨t127, A100, H⟩ := H
    replace H : (if t127 = true then (some (t120, t122, t124, true)) else (some (0, 0, 0, false))) = some (r1, r2, r3, true) := H
    have A10 := Aside0.mk A100
    clear A100
    by_cases c11 : t127 = true
    ·subst c11
     have H1 : (some (t120, t122, t124, true)) = some (r1, r2, r3, true) := by rw [if_pos rfl] at H; exact H
     clear H
     have H := H1
     clear H1
     simp only [Option.some.injEq, Prod.mk.injEq] at H
     obtain ⟨rfl, rfl, rfl, _⟩ := H
     go_enter Tryz.func51, Tryz.ntmps51
     go_wp2_with (first | ((with_reducible refine gate_dst (N := 2) rfl ?_); refine box_event ?hg (N := 2) ?hd (cs := #[.int .i64 0, .int .i64 0, .int .i64 0]) (t := 25) ?hr ?_; (case hd => rfl); (case hg => rfl); (case hr => first | (go_simp; done) | (go_simp; rfl)); intro gb113 hg w12 hbox hb; have BK113 := Aside0.mk (hbox); have GW113 := Aside0.mk ((by rw [hg]; exact (below_size (b0 HB.out)) : w.heap.size ≤ gb113)); have GE113 := Aside0.mk ((by rw [hg]; exact (below_size (b0 HB.out)) : w.heap.size ≤ gb113)); replace HB := Aside0.mk (below_step (b0 HB.out) hb); clear hb hbox hg) | ((with_reducible refine gate_callee (f := 74) rfl ?_); refine goesL_ (some 19) rfl rfl Tryz.func74 (by kernel_rfl) rfl #[.string a0, .string (⟨#[32]⟩ : ByteArray)] rfl (by (try simp only [List.map_toArray, List.map_cons, List.map_nil]); first | done | rfl | (simp only [List.length_drop, List.length_take]; rfl)) ?_; (with_reducible refine (strings_Cut.calls a0 (⟨#[32]⟩ : ByteArray) t114 t115 t116 _ (okd_ hO_ (bq HB.out (.c GE113.out .n))) A2.out).mono ?_); rintro e w13 ⟨rfl, hb⟩; refine ⟨_, rfl, ?_⟩; replace BK113 := Aside0.mk (blk_below (h0 BK113.out) hb); replace HB := Aside0.mk (below_step (bq HB.out (.c GE113.out .n)) hb); (try clear hb); (try clear hb2); (try clear hk); (try clear hi)) | ((with_reducible refine gate_callee (f := 74) rfl ?_); refine goesL_ (some 25) rfl rfl Tryz.func74 (by kernel_rfl) rfl #[.string t115, .string (⟨#[47]⟩ : ByteArray)] rfl (by (try simp only [List.map_toArray, List.map_cons, List.map_nil]); first | done | rfl | (simp only [List.length_drop, List.length_take]; rfl)) ?_; (with_reducible refine (strings_Cut.calls t115 (⟨#[47]⟩ : ByteArray) t117 t118 t119 _ (okd_ hO_ (bq HB.out (.c GE113.out .n))) A3.out).mono ?_); rintro e w14 ⟨rfl, hb⟩; refine ⟨_, rfl, ?_⟩; replace BK113 := Aside0.mk (blk_below (h0 BK113.out) hb); replace HB := Aside0.mk (below_step (bq HB.out (.c GE113.out .n)) hb); (try clear hb); (try clear hb2); (try clear hk); (try clear hi)) | ((with_reducible refine gate_callee (f := 116) rfl ?_); refine goesL_ (some 31) rfl rfl Tryz.func116 (by kernel_rfl) rfl #[.string t114] rfl (by (try simp only [List.map_toArray, List.map_cons, List.map_nil]); first | done | rfl | (simp only [List.length_drop, List.length_take]; rfl)) ?_; (with_reducible refine (impl_ReadDecimal.calls t114 t120 true _ (okd_ hO_ (bq HB.out (.c GE113.out .n))) A4.out).mono ?_); rintro e w15 ⟨rfl, hb⟩; refine ⟨_, rfl, ?_⟩; replace BK113 := Aside0.mk (blk_below (h0 BK113.out) hb); replace HB := Aside0.mk (below_step (bq HB.out (.c GE113.out .n)) hb); (try clear hb); (try clear hb2); (try clear hk); (try clear hi)) | ((with_reducible refine gate_callee (f := 116) rfl ?_); refine goesL_ (some 36) rfl rfl Tryz.func116 (by kernel_rfl) rfl #[.string t117] rfl (by (try simp only [List.map_toArray, List.map_cons, List.map_nil]); first | done | rfl | (simp only [List.length_drop, List.length_take]; rfl)) ?_; (with_reducible refine (impl_ReadDecimal.calls t117 t122 true _ (okd_ hO_ (bq HB.out (.c GE113.out .n))) A5.out).mono ?_); rintro e w16 ⟨rfl, hb⟩; refine ⟨_, rfl, ?_⟩; replace BK113 := Aside0.mk (blk_below (h0 BK113.out) hb); replace HB := Aside0.mk (below_step (bq HB.out (.c GE113.out .n)) hb); (try clear hb); (try clear hb2); (try clear hk); (try clear hi)) | ((with_reducible refine gate_callee (f := 116) rfl ?_); refine goesL_ (some 41) rfl rfl Tryz.func116 (by kernel_rfl) rfl #[.string t118] rfl (by (try simp only [List.map_toArray, List.map_cons, List.map_nil]); first | done | rfl | (simp only [List.length_drop, List.length_take]; rfl)) ?_; (with_reducible refine (impl_ReadDecimal.calls t118 t124 true _ (okd_ hO_ (bq HB.out (.c GE113.out .n))) A6.out).mono ?_); rintro e w17 ⟨rfl, hb⟩; refine ⟨_, rfl, ?_⟩; replace BK113 := Aside0.mk (blk_below (h0 BK113.out) hb); replace HB := Aside0.mk (below_step (bq HB.out (.c GE113.out .n)) hb); (try clear hb); (try clear hb2); (try clear hk); (try clear hi)) | ((with_reducible refine gate_dst (N := 16) rfl ?_); refine box_event ?hg (N := 16) ?hd (cs := #[.int .i64 0, .int .i64 0, .int .i64 0]) (t := 25) ?hr ?_; (case hd => rfl); (case hg => rfl); (case hr => first | (go_simp; done) | (go_simp; rfl)); intro gb126 hg w18 hbox hb; have BK126 := Aside0.mk (hbox); have GW126 := Aside0.mk ((by rw [hg]; exact (below_size (bq HB.out (.c GE113.out .n))) : w.heap.size ≤ gb126)); have GE126 := Aside0.mk ((by rw [hg]; exact (below_size (bq HB.out (.c GE113.out .n))) : w.heap.size ≤ gb126)); replace HB := Aside0.mk (below_step (bq HB.out (.c GE113.out .n)) hb); have NB113_126 := Aside0.mk ((by rw [hg]; exact Nat.ne_of_lt (blk_lt (g := gb113) (o := .cells #[.int .i64 0, .int .i64 0, .int .i64 0] 25 (0, 0)) (h0 BK113.out)) : gb113 ≠ gb126)); have NB126_113 := Aside0.mk ((by rw [hg]; exact Nat.ne_of_gt (blk_lt (g := gb113) (o := .cells #[.int .i64 0, .int .i64 0, .int .i64 0] 25 (0, 0)) (h0 BK113.out)) : gb126 ≠ gb113)); replace BK113 := Aside0.mk (blk_below (h0 BK113.out) hb); clear hb hbox hg; have hnb19 := NB126_113.out; have hnc19 := NB113_126.out; have hcz20_0 : w18.cell? ⟨gb126, 0, none⟩ = some (.int .i64 0) := (blk_cell BK126.out 0).trans rfl; have hcz20_1 : w18.cell? ⟨gb126, 1, none⟩ = some (.int .i64 0) := (blk_cell BK126.out 1).trans rfl; have hcz20_2 : w18.cell? ⟨gb126, 2, none⟩ = some (.int .i64 0) := (blk_cell BK126.out 2).trans rfl; have hfz20_0 := blk_frozen BK126.out 0; have hfz20_1 := blk_frozen BK126.out 1; have hfz20_2 := blk_frozen BK126.out 2) | (go_at_call 68; (with_reducible refine (impl_ValidEllipsoid.calls t120 t122 t124 true _ A10.out).mono ?_); rintro e w21 ⟨rfl, hb⟩; replace BK113 := Aside0.mk (blk_below (g := gb113) (o := .cells #[.int .i64 0, .int .i64 0, .int .i64 0] 25 (0, 0)) (hq BK113.out (.c NB113_126.out .n)) hb); replace BK126 := Aside0.mk (blk_below (g := gb126) (o := .cells #[.int .i64 t120, .int .i64 t122, .int .i64 t124] 25 (0, 0)) (by refine hp ?_; refine blk_put (cs := #[.int .i64 t120, .int .i64 t122, .int .i64 0]) ?_ 2 _ rfl; refine hp ?_; refine blk_put (cs := #[.int .i64 t120, .int .i64 0, .int .i64 0]) ?_ 1 _ rfl; refine hp ?_; refine blk_put (cs := #[.int .i64 0, .int .i64 0, .int .i64 0]) ?_ 0 _ rfl; exact h0 BK126.out) hb); replace HB := Aside0.mk (below_step (bq HB.out (.c GE113.out (.c GE126.out .n))) hb); (try clear hb); (try clear hb2); (try clear hk); (try clear hi); have hcz22_0 : w21.cell? ⟨gb126, 0, none⟩ = some (.int .i64 t120) := (blk_cell BK126.out 0).trans rfl; have hcz22_1 : w21.cell? ⟨gb126, 1, none⟩ = some (.int .i64 t122) := (blk_cell BK126.out 1).trans rfl; have hcz22_2 : w21.cell? ⟨gb126, 2, none⟩ = some (.int .i64 t124) := (blk_cell BK126.out 2).trans rfl; have hfz22_0 := blk_frozen BK126.out 0; have hfz22_1 := blk_frozen BK126.out 1; have hfz22_2 := blk_frozen BK126.out 2; have hcz23_0 : w21.cell? ⟨gb113, 0, none⟩ = some (.int .i64 0) := (blk_cell BK113.out 0).trans rfl; have hcz23_1 : w21.cell? ⟨gb113, 1, none⟩ = some (.int .i64 0) := (blk_cell BK113.out 1).trans rfl; have hcz23_2 : w21.cell? ⟨gb113, 2, none⟩ = some (.int .i64 0) := (blk_cell BK113.out 2).trans rfl; have hfz23_0 := blk_frozen BK113.out 0; have hfz23_1 := blk_frozen BK113.out 1; have hfz23_2 := blk_frozen BK113.out 2))
     refine bodyPost_ret (results_ct rfl _ _ gb113 25 #[.int .i64 t120, .int .i64 t122, .int .i64 t124] (0, 0) _ rfl (by refine hp ?_; refine blk_put (cs := #[.int .i64 t120, .int .i64 t122, .int .i64 0]) ?_ 2 _ rfl; refine hp ?_; refine blk_put (cs := #[.int .i64 t120, .int .i64 0, .int .i64 0]) ?_ 1 _ rfl; refine hp ?_; refine blk_put (cs := #[.int .i64 0, .int .i64 0, .int .i64 0]) ?_ 0 _ rfl; exact h0 BK113.out) Tryz.underlying25 rfl (by kernel_rfl)) rfl ?_
     exact ⟨by first | rfl | (simp [errW_none, errW_some] <;> rfl) | (simp [*, errW_none, errW_some] <;> rfl), bq HB.out (.c GE113.out (.c GE126.out .n))⟩
    ·rw [if_neg c11] at H; cases H
   ·rw [if_neg c9] at H; cases H
  ·rw [if_neg c8] at H; cases H
 ·rw [if_neg c7] at H; cases H
end Go.Proofs.YtogpbandlpjccaaGreatDoor.TE
