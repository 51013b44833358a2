/- Part TxAU of the proofs about the benches of the accordion maker: see the last text of the claim for what is proved. -/
import Derived.Shelf.Strings.Trim
import Derived.Shelf.LaysM
import Derived.Shelf.Strconv.Itoa3
import Derived.Shelf.LaysC
import Derived.Shelf.Strconv.AtoiAll
import Derived.Shelf.Strings.Split
import Derived.Test.YthljpccegkmdnaaGreatDoorProg
import Derived.Lib.SplitLaws
import Derived.Test.YthljpccegkmdnaaGreatDoorTxAQ
set_option linter.unusedVariables false
set_option linter.unusedSimpArgs false
set_option linter.unnecessarySimpa false
set_option linter.constructorNameAsVariable false

namespace Go.Proofs.YthljpccegkmdnaaGreatDoor
open Go.Shelf
open Go.RowKit in
open Go.RowKit in
def Tryz.lays160_ren : Go.Shelf.Ren := ⟨fun | 160 => 143 | 232 => 168 | 231 => 167 | 227 => 169 | 234 => 171 | 233 => 170 | 236 => 173 | 235 => 172 | 228 => 200 | 271 => 202 | 151 => 201 | 197 => 191 | 120 => 223 | 152 => 222 | 260 => 214 | 137 => 231 | 119 => 232 | 224 => 217 | 225 => 216 | 217 => 215 | 266 => 227 | n => n, fun | 9 => 9 | 4 => 4 | 3 => 3 | 5 => 5 | 117 => 262 | 116 => 261 | 0 => 0 | 124 => 265 | 21 => 21 | 105 => 287 | 46 => 152 | 119 => 327 | 139 => 330 | 138 => 329 | n => n, fun | 3 => 5 | 4 => 6 | n => n⟩
theorem Tryz.lays160 : Go.Proofs.Lays.n160 Tryz.prog Tryz.lays160_ren := {
 mixed := by kernel_rfl
 f119 := Tryz.func232.trans (congrArg some (by kernel_rfl))
 f120 := Tryz.func223.trans (congrArg some (by kernel_rfl))
 f137 := Tryz.func231.trans (congrArg some (by kernel_rfl))
 f151 := Tryz.func201.trans (congrArg some (by kernel_rfl))
 f152 := Tryz.func222.trans (congrArg some (by kernel_rfl))
 f160 := Tryz.func143.trans (congrArg some (by kernel_rfl))
 f197 := Tryz.func191.trans (congrArg some (by kernel_rfl))
 f217 := Tryz.func215.trans (congrArg some (by kernel_rfl))
 f224 := Tryz.func217.trans (congrArg some (by kernel_rfl))
 f225 := Tryz.func216.trans (congrArg some (by kernel_rfl))
 f227 := Tryz.func169.trans (congrArg some (by kernel_rfl))
 f228 := Tryz.func200.trans (congrArg some (by kernel_rfl))
 f231 := Tryz.func167.trans (congrArg some (by kernel_rfl))
 f232 := Tryz.func168.trans (congrArg some (by kernel_rfl))
 f233 := Tryz.func170.trans (congrArg some (by kernel_rfl))
 f234 := Tryz.func171.trans (congrArg some (by kernel_rfl))
 f235 := Tryz.func172.trans (congrArg some (by kernel_rfl))
 f236 := Tryz.func173.trans (congrArg some (by kernel_rfl))
 f260 := Tryz.func214.trans (congrArg some (by kernel_rfl))
 f266 := Tryz.func227.trans (congrArg some (by kernel_rfl))
 f271 := Tryz.func202.trans (congrArg some (by kernel_rfl))
 t0 := Tryz.underlying0
 a0 := Tryz.isAgg0
 z0 := Tryz.sizeOf0
 v0 := Tryz.zeroValue0
 t3 := Tryz.underlying3
 a3 := Tryz.isAgg3
 z3 := Tryz.sizeOf3
 v3 := Tryz.zeroValue3
 t4 := Tryz.underlying4
 a4 := Tryz.isAgg4
 z4 := Tryz.sizeOf4
 v4 := Tryz.zeroValue4
 t5 := Tryz.underlying5
 a5 := Tryz.isAgg5
 z5 := Tryz.sizeOf5
 v5 := Tryz.zeroValue5
 t9 := Tryz.underlying9
 a9 := Tryz.isAgg9
 z9 := Tryz.sizeOf9
 v9 := Tryz.zeroValue9
 t21 := Tryz.underlying21
 a21 := Tryz.isAgg21
 z21 := Tryz.sizeOf21
 v21 := Tryz.zeroValue21
 t46 := Tryz.underlying152
 a46 := Tryz.isAgg152
 z46 := Tryz.sizeOf152
 v46 := Tryz.zeroValue152
 t105 := Tryz.underlying287
 a105 := Tryz.isAgg287
 z105 := Tryz.sizeOf287
 v105 := Tryz.zeroValue287
 t116 := Tryz.underlying261
 a116 := Tryz.isAgg261
 z116 := Tryz.sizeOf261
 t117 := Tryz.underlying262
 a117 := Tryz.isAgg262
 z117 := Tryz.sizeOf262
 v117 := Tryz.zeroValue262
 t119 := Tryz.underlying327
 a119 := Tryz.isAgg327
 z119 := Tryz.sizeOf327
 t124 := Tryz.underlying265
 a124 := Tryz.isAgg265
 z124 := Tryz.sizeOf265
 v124 := Tryz.zeroValue265
 t138 := Tryz.underlying329
 a138 := Tryz.isAgg329
 z138 := Tryz.sizeOf329
 v138 := Tryz.zeroValue329
 t139 := Tryz.underlying330
 a139 := Tryz.isAgg330
 z139 := Tryz.sizeOf330
 v139 := Tryz.zeroValue330
 g3 := by kernel_rfl
 g4 := by kernel_rfl }
open Go.RowKit in
open Go.RowKit Go.Sort Go.Lib in
open Go.RowKit Go.Sort Go.Lib in
open Go.RowKit Go.Sort Go.Lib in
open Go.RowKit Go.Sort Go.Lib in
def Tryz.laysM171_ren : Go.Shelf.Ren := ⟨fun | 171 => 79 | 243 => 121 | 246 => 156 | 283 => 185 | 284 => 186 | 285 => 187 | 286 => 188 | 129 => 208 | 317 => 207 | 318 => 209 | 319 => 210 | 320 => 211 | 337 => 224 | 338 => 225 | n => n, fun | 3 => 3 | 9 => 9 | 2 => 2 | 4 => 4 | 171 => 280 | 0 => 0 | 53 => 149 | 37 => 154 | 5 => 5 | 173 => 283 | 212 => 313 | 51 => 314 | 20 => 20 | 213 => 315 | 46 => 152 | 232 => 340 | 233 => 341 | n => n, fun | 17 => 1 | 18 => 7 | 19 => 8 | n => n⟩
theorem Tryz.laysM171 : Go.Proofs.LaysM.n171 Tryz.prog Tryz.laysM171_ren := {
 mixed := by kernel_rfl
 f129 := Tryz.func208.trans (congrArg some (by kernel_rfl))
 f171 := Tryz.func79.trans (congrArg some (by kernel_rfl))
 f243 := Tryz.func121.trans (congrArg some (by kernel_rfl))
 f246 := Tryz.func156.trans (congrArg some (by kernel_rfl))
 f283 := Tryz.func185.trans (congrArg some (by kernel_rfl))
 f284 := Tryz.func186.trans (congrArg some (by kernel_rfl))
 f285 := Tryz.func187.trans (congrArg some (by kernel_rfl))
 f286 := Tryz.func188.trans (congrArg some (by kernel_rfl))
 f317 := Tryz.func207.trans (congrArg some (by kernel_rfl))
 f318 := Tryz.func209.trans (congrArg some (by kernel_rfl))
 f319 := Tryz.func210.trans (congrArg some (by kernel_rfl))
 f320 := Tryz.func211.trans (congrArg some (by kernel_rfl))
 f337 := Tryz.func224.trans (congrArg some (by kernel_rfl))
 f338 := Tryz.func225.trans (congrArg some (by kernel_rfl))
 t0 := Tryz.underlying0
 a0 := Tryz.isAgg0
 z0 := Tryz.sizeOf0
 v0 := Tryz.zeroValue0
 t2 := Tryz.underlying2
 a2 := Tryz.isAgg2
 z2 := Tryz.sizeOf2
 v2 := Tryz.zeroValue2
 t3 := Tryz.underlying3
 a3 := Tryz.isAgg3
 z3 := Tryz.sizeOf3
 v3 := Tryz.zeroValue3
 t4 := Tryz.underlying4
 a4 := Tryz.isAgg4
 z4 := Tryz.sizeOf4
 v4 := Tryz.zeroValue4
 t5 := Tryz.underlying5
 a5 := Tryz.isAgg5
 z5 := Tryz.sizeOf5
 v5 := Tryz.zeroValue5
 t9 := Tryz.underlying9
 a9 := Tryz.isAgg9
 z9 := Tryz.sizeOf9
 v9 := Tryz.zeroValue9
 t20 := Tryz.underlying20
 a20 := Tryz.isAgg20
 z20 := Tryz.sizeOf20
 v20 := Tryz.zeroValue20
 t37 := Tryz.underlying154
 a37 := Tryz.isAgg154
 z37 := Tryz.sizeOf154
 v37 := Tryz.zeroValue154
 t46 := Tryz.underlying152
 a46 := Tryz.isAgg152
 z46 := Tryz.sizeOf152
 v46 := Tryz.zeroValue152
 t51 := Tryz.underlying314
 a51 := Tryz.isAgg314
 z51 := Tryz.sizeOf314
 v51 := Tryz.zeroValue314
 t53 := Tryz.underlying149
 a53 := Tryz.isAgg149
 z53 := Tryz.sizeOf149
 v53 := Tryz.zeroValue149
 t171 := Tryz.underlying280
 a171 := Tryz.isAgg280
 z171 := Tryz.sizeOf280
 v171 := Tryz.zeroValue280
 t173 := Tryz.underlying283
 a173 := Tryz.isAgg283
 z173 := Tryz.sizeOf283
 v173 := Tryz.zeroValue283
 t212 := Tryz.underlying313
 a212 := Tryz.isAgg313
 z212 := Tryz.sizeOf313
 v212 := Tryz.zeroValue313
 t213 := Tryz.underlying315
 a213 := Tryz.isAgg315
 z213 := Tryz.sizeOf315
 t232 := Tryz.underlying340
 a232 := Tryz.isAgg340
 z232 := Tryz.sizeOf340
 v232 := Tryz.zeroValue340
 t233 := Tryz.underlying341
 a233 := Tryz.isAgg341
 z233 := Tryz.sizeOf341
 v233 := Tryz.zeroValue341
 g17 := by kernel_rfl
 g18 := by kernel_rfl
 g19 := by kernel_rfl
 i0 := by kernel_rfl
 i2 := by kernel_rfl
 i3 := by kernel_rfl
 i4 := by kernel_rfl
 i5 := by kernel_rfl
 i9 := by kernel_rfl
 i20 := by kernel_rfl
 i37 := by kernel_rfl
 i46 := by kernel_rfl
 i51 := by kernel_rfl
 i53 := by kernel_rfl
 i171 := by kernel_rfl
 i173 := by kernel_rfl
 i212 := by kernel_rfl
 i232 := by kernel_rfl
 i233 := by kernel_rfl
 m17 := by kernel_rfl
 m18 := by kernel_rfl
 m19 := by kernel_rfl }
open Go.RowKit Go.Sort Go.Lib in
theorem Tryz.strconv_Itoa (n : Int) (h0 : -9223372036854775808 <= n) (h1 : n <= 9223372036854775807) (w : World) (htab : Lib.TabIs Tryz.prog w "internal/strconv.uint64pow10" .u64 Lib.pow10Tab) :
  Calls Tryz.prog 79 #[.int .i64 n] w fun e w' => e = .returned (.string ⟨(Lib.itoa n).toArray⟩) /\ ∃ k os, w' = grow (w.drewN k) os := Any.strconv_Itoa Tryz.laysM171 n h0 h1 w htab
open Go.RowKit Go.Sort Go.Lib in
def Tryz.laysC172_ren : Go.Shelf.Ren := ⟨fun | 172 => 138 | 244 => 164 | 245 => 165 | 247 => 194 | 279 => 195 | 280 => 196 | 281 => 197 | 282 => 198 | 287 => 219 | 316 => 220 | 171 => 79 | 205 => 221 | 321 => 229 | 322 => 230 | 243 => 121 | 246 => 156 | 283 => 185 | 284 => 186 | 285 => 187 | 286 => 188 | 129 => 208 | 317 => 207 | 318 => 209 | 319 => 210 | 320 => 211 | 337 => 224 | 338 => 225 | n => n, fun | 9 => 9 | 3 => 3 | 75 => 207 | 76 => 208 | 4 => 4 | 5 => 5 | 167 => 290 | 37 => 154 | 0 => 0 | 85 => 291 | 2 => 2 | 168 => 293 | 53 => 149 | 175 => 319 | 46 => 152 | 210 => 323 | 127 => 335 | 145 => 338 | 143 => 336 | 21 => 21 | 171 => 280 | 173 => 283 | 212 => 313 | 51 => 314 | 20 => 20 | 213 => 315 | 232 => 340 | 233 => 341 | 80 => 342 | n => n, fun | 15 => 3 | 16 => 4 | 17 => 1 | 18 => 7 | 19 => 8 | n => n⟩
theorem Tryz.laysC172 : Go.Proofs.LaysC.n172 Tryz.prog Tryz.laysC172_ren := {
 mixed := by kernel_rfl
 f129 := Tryz.func208.trans (congrArg some (by kernel_rfl))
 f171 := Tryz.func79.trans (congrArg some (by kernel_rfl))
 f172 := Tryz.func138.trans (congrArg some (by kernel_rfl))
 f205 := Tryz.func221.trans (congrArg some (by kernel_rfl))
 f243 := Tryz.func121.trans (congrArg some (by kernel_rfl))
 f244 := Tryz.func164.trans (congrArg some (by kernel_rfl))
 f245 := Tryz.func165.trans (congrArg some (by kernel_rfl))
 f246 := Tryz.func156.trans (congrArg some (by kernel_rfl))
 f247 := Tryz.func194.trans (congrArg some (by kernel_rfl))
 f279 := Tryz.func195.trans (congrArg some (by kernel_rfl))
 f280 := Tryz.func196.trans (congrArg some (by kernel_rfl))
 f281 := Tryz.func197.trans (congrArg some (by kernel_rfl))
 f282 := Tryz.func198.trans (congrArg some (by kernel_rfl))
 f283 := Tryz.func185.trans (congrArg some (by kernel_rfl))
 f284 := Tryz.func186.trans (congrArg some (by kernel_rfl))
 f285 := Tryz.func187.trans (congrArg some (by kernel_rfl))
 f286 := Tryz.func188.trans (congrArg some (by kernel_rfl))
 f287 := Tryz.func219.trans (congrArg some (by kernel_rfl))
 f316 := Tryz.func220.trans (congrArg some (by kernel_rfl))
 f317 := Tryz.func207.trans (congrArg some (by kernel_rfl))
 f318 := Tryz.func209.trans (congrArg some (by kernel_rfl))
 f319 := Tryz.func210.trans (congrArg some (by kernel_rfl))
 f320 := Tryz.func211.trans (congrArg some (by kernel_rfl))
 f321 := Tryz.func229.trans (congrArg some (by kernel_rfl))
 f322 := Tryz.func230.trans (congrArg some (by kernel_rfl))
 f337 := Tryz.func224.trans (congrArg some (by kernel_rfl))
 f338 := Tryz.func225.trans (congrArg some (by kernel_rfl))
 t0 := Tryz.underlying0
 a0 := Tryz.isAgg0
 z0 := Tryz.sizeOf0
 v0 := Tryz.zeroValue0
 t2 := Tryz.underlying2
 a2 := Tryz.isAgg2
 z2 := Tryz.sizeOf2
 v2 := Tryz.zeroValue2
 t3 := Tryz.underlying3
 a3 := Tryz.isAgg3
 z3 := Tryz.sizeOf3
 v3 := Tryz.zeroValue3
 t4 := Tryz.underlying4
 a4 := Tryz.isAgg4
 z4 := Tryz.sizeOf4
 v4 := Tryz.zeroValue4
 t5 := Tryz.underlying5
 a5 := Tryz.isAgg5
 z5 := Tryz.sizeOf5
 v5 := Tryz.zeroValue5
 t9 := Tryz.underlying9
 a9 := Tryz.isAgg9
 z9 := Tryz.sizeOf9
 v9 := Tryz.zeroValue9
 t20 := Tryz.underlying20
 a20 := Tryz.isAgg20
 z20 := Tryz.sizeOf20
 v20 := Tryz.zeroValue20
 t21 := Tryz.underlying21
 a21 := Tryz.isAgg21
 z21 := Tryz.sizeOf21
 v21 := Tryz.zeroValue21
 t37 := Tryz.underlying154
 a37 := Tryz.isAgg154
 z37 := Tryz.sizeOf154
 v37 := Tryz.zeroValue154
 t46 := Tryz.underlying152
 a46 := Tryz.isAgg152
 z46 := Tryz.sizeOf152
 v46 := Tryz.zeroValue152
 t51 := Tryz.underlying314
 a51 := Tryz.isAgg314
 z51 := Tryz.sizeOf314
 v51 := Tryz.zeroValue314
 t53 := Tryz.underlying149
 a53 := Tryz.isAgg149
 z53 := Tryz.sizeOf149
 v53 := Tryz.zeroValue149
 t75 := Tryz.underlying207
 a75 := Tryz.isAgg207
 z75 := Tryz.sizeOf207
 v75 := Tryz.zeroValue207
 t76 := Tryz.underlying208
 a76 := Tryz.isAgg208
 z76 := Tryz.sizeOf208
 v76 := Tryz.zeroValue208
 t85 := Tryz.underlying291
 a85 := Tryz.isAgg291
 z85 := Tryz.sizeOf291
 v85 := Tryz.zeroValue291
 t127 := Tryz.underlying335
 a127 := Tryz.isAgg335
 z127 := Tryz.sizeOf335
 v127 := Tryz.zeroValue335
 t143 := Tryz.underlying336
 a143 := Tryz.isAgg336
 z143 := Tryz.sizeOf336
 v143 := Tryz.zeroValue336
 t145 := Tryz.underlying338
 a145 := Tryz.isAgg338
 z145 := Tryz.sizeOf338
 v145 := Tryz.zeroValue338
 t167 := Tryz.underlying290
 a167 := Tryz.isAgg290
 z167 := Tryz.sizeOf290
 v167 := Tryz.zeroValue290
 t168 := Tryz.underlying293
 a168 := Tryz.isAgg293
 z168 := Tryz.sizeOf293
 v168 := Tryz.zeroValue293
 t171 := Tryz.underlying280
 a171 := Tryz.isAgg280
 z171 := Tryz.sizeOf280
 v171 := Tryz.zeroValue280
 t173 := Tryz.underlying283
 a173 := Tryz.isAgg283
 z173 := Tryz.sizeOf283
 v173 := Tryz.zeroValue283
 t175 := Tryz.underlying319
 a175 := Tryz.isAgg319
 z175 := Tryz.sizeOf319
 v175 := Tryz.zeroValue319
 t210 := Tryz.underlying323
 a210 := Tryz.isAgg323
 z210 := Tryz.sizeOf323
 v210 := Tryz.zeroValue323
 t212 := Tryz.underlying313
 a212 := Tryz.isAgg313
 z212 := Tryz.sizeOf313
 v212 := Tryz.zeroValue313
 t213 := Tryz.underlying315
 a213 := Tryz.isAgg315
 z213 := Tryz.sizeOf315
 t232 := Tryz.underlying340
 a232 := Tryz.isAgg340
 z232 := Tryz.sizeOf340
 v232 := Tryz.zeroValue340
 t233 := Tryz.underlying341
 a233 := Tryz.isAgg341
 z233 := Tryz.sizeOf341
 v233 := Tryz.zeroValue341
 g15 := by kernel_rfl
 g16 := by kernel_rfl
 g17 := by kernel_rfl
 g18 := by kernel_rfl
 g19 := by kernel_rfl
 t80 := Tryz.underlying342
 a80 := Tryz.isAgg342
 z80 := Tryz.sizeOf342
 v80 := Tryz.zeroValue342
 i0 := by kernel_rfl
 i2 := by kernel_rfl
 i3 := by kernel_rfl
 i4 := by kernel_rfl
 i5 := by kernel_rfl
 i9 := by kernel_rfl
 i20 := by kernel_rfl
 i21 := by kernel_rfl
 i37 := by kernel_rfl
 i46 := by kernel_rfl
 i51 := by kernel_rfl
 i53 := by kernel_rfl
 i75 := by kernel_rfl
 i76 := by kernel_rfl
 i80 := by kernel_rfl
 i85 := by kernel_rfl
 i127 := by kernel_rfl
 i143 := by kernel_rfl
 i145 := by kernel_rfl
 i167 := by kernel_rfl
 i168 := by kernel_rfl
 i171 := by kernel_rfl
 i173 := by kernel_rfl
 i175 := by kernel_rfl
 i210 := by kernel_rfl
 i212 := by kernel_rfl
 i232 := by kernel_rfl
 i233 := by kernel_rfl
 m15 := by kernel_rfl
 m16 := by kernel_rfl
 m17 := by kernel_rfl
 m18 := by kernel_rfl
 m19 := by kernel_rfl
 c0 := by kernel_rfl
 c2 := by kernel_rfl
 c3 := by kernel_rfl
 c4 := by kernel_rfl
 c5 := by kernel_rfl
 c9 := by kernel_rfl
 c20 := by kernel_rfl
 c21 := by kernel_rfl
 c37 := by kernel_rfl
 c46 := by kernel_rfl
 c51 := by kernel_rfl
 c53 := by kernel_rfl
 c75 := by kernel_rfl
 c76 := by kernel_rfl
 c80 := by kernel_rfl
 c85 := by kernel_rfl
 c127 := by kernel_rfl
 c143 := by kernel_rfl
 c145 := by kernel_rfl
 c167 := by kernel_rfl
 c168 := by kernel_rfl
 c171 := by kernel_rfl
 c173 := by kernel_rfl
 c175 := by kernel_rfl
 c210 := by kernel_rfl
 c212 := by kernel_rfl
 c213 := by kernel_rfl
 c232 := by kernel_rfl
 c233 := by kernel_rfl }
open Go.RowKit in
theorem Tryz.strconv_Atoi_ok (s : ByteArray) (hmax : s.size <= 9223372036854775806) (v : Int) (h : Lib.atoiAll s.data.toList = .ok v) (w : World) :
  Calls Tryz.prog 138 #[.string s] w fun e w' => e = .returned (.tuple #[.int .i64 v, .nilIface]) /\ (w' = w ∨ ∃ t, w' = Lib.bytesWorld w 5 t) := Any.strconv_Atoi_ok Tryz.laysC172 s hmax v h w
open Go.RowKit in
theorem Tryz.strconv_Atoi_syntax (s : ByteArray) (hlim : s.size <= 281474976710656) (h : Lib.atoiAll s.data.toList = Lib.atoiAll []) (ev : Value) (w : World) (hv : w.cell? ⟨3, 0, none⟩ = some ev) (hev : ev = .nilIface ∨ ∃ te pe, ev = .iface te pe) :
  Calls Tryz.prog 138 #[.string s] w fun e w' => ∃ N, e = .returned (.tuple #[.int .i64 (0), .iface 293 (.pointer (some ⟨N, 0, none⟩))]) /\ w.heap.size <= N /\ w'.heap[N]? = some (.cells #[.string ⟨#[65, 116, 111, 105]⟩, .string s, ev] 323 (0, 0)) /\ Below w.heap.size w w' := Any.strconv_Atoi_syntax Tryz.laysC172 s hlim h ev w hv hev
open Go.RowKit in
theorem Tryz.strconv_Atoi_range (s : ByteArray) (hlim : s.size <= 281474976710656) (h : Lib.atoiAll s.data.toList = .range) (ev : Value) (w : World) (hv : w.cell? ⟨4, 0, none⟩ = some ev) (hev : ev = .nilIface ∨ ∃ te pe, ev = .iface te pe) :
  Calls Tryz.prog 138 #[.string s] w fun e w' => ∃ N, e = .returned (.tuple #[.int .i64 (Lib.atoiSat s.data.toList), .iface 293 (.pointer (some ⟨N, 0, none⟩))]) /\ w.heap.size <= N /\ w'.heap[N]? = some (.cells #[.string ⟨#[65, 116, 111, 105]⟩, .string s, ev] 323 (0, 0)) /\ Below w.heap.size w w' := Any.strconv_Atoi_range Tryz.laysC172 s hlim h ev w hv hev
open Go.RowKit Go.Lib in
open Go.RowKit Go.Lib in
def Tryz.lays146_ren : Go.Shelf.Ren := ⟨fun | 146 => 96 | 221 => 137 | 268 => 161 | 138 => 162 | 143 => 163 | 195 => 190 | 197 => 191 | 218 => 192 | 219 => 193 | 260 => 214 | 217 => 215 | 225 => 216 | 224 => 217 | 267 => 218 | 266 => 227 | 314 => 228 | n => n, fun | 9 => 9 | 31 => 74 | 3 => 3 | 4 => 4 | 0 => 0 | 105 => 287 | 21 => 21 | 5 => 5 | 46 => 152 | 119 => 327 | 139 => 330 | 138 => 329 | 146 => 331 | 51 => 314 | n => n, fun | 1 => 2 | 3 => 5 | 4 => 6 | n => n⟩
theorem Tryz.lays146 : Go.Proofs.Lays.n146 Tryz.prog Tryz.lays146_ren := {
 mixed := by kernel_rfl
 f138 := Tryz.func162.trans (congrArg some (by kernel_rfl))
 f143 := Tryz.func163.trans (congrArg some (by kernel_rfl))
 f146 := Tryz.func96.trans (congrArg some (by kernel_rfl))
 f195 := Tryz.func190.trans (congrArg some (by kernel_rfl))
 f197 := Tryz.func191.trans (congrArg some (by kernel_rfl))
 f217 := Tryz.func215.trans (congrArg some (by kernel_rfl))
 f218 := Tryz.func192.trans (congrArg some (by kernel_rfl))
 f219 := Tryz.func193.trans (congrArg some (by kernel_rfl))
 f221 := Tryz.func137.trans (congrArg some (by kernel_rfl))
 f224 := Tryz.func217.trans (congrArg some (by kernel_rfl))
 f225 := Tryz.func216.trans (congrArg some (by kernel_rfl))
 f260 := Tryz.func214.trans (congrArg some (by kernel_rfl))
 f266 := Tryz.func227.trans (congrArg some (by kernel_rfl))
 f267 := Tryz.func218.trans (congrArg some (by kernel_rfl))
 f268 := Tryz.func161.trans (congrArg some (by kernel_rfl))
 f314 := Tryz.func228.trans (congrArg some (by kernel_rfl))
 t0 := Tryz.underlying0
 a0 := Tryz.isAgg0
 z0 := Tryz.sizeOf0
 v0 := Tryz.zeroValue0
 t3 := Tryz.underlying3
 a3 := Tryz.isAgg3
 z3 := Tryz.sizeOf3
 v3 := Tryz.zeroValue3
 t4 := Tryz.underlying4
 a4 := Tryz.isAgg4
 z4 := Tryz.sizeOf4
 v4 := Tryz.zeroValue4
 t5 := Tryz.underlying5
 a5 := Tryz.isAgg5
 z5 := Tryz.sizeOf5
 v5 := Tryz.zeroValue5
 t9 := Tryz.underlying9
 a9 := Tryz.isAgg9
 z9 := Tryz.sizeOf9
 v9 := Tryz.zeroValue9
 t21 := Tryz.underlying21
 a21 := Tryz.isAgg21
 z21 := Tryz.sizeOf21
 v21 := Tryz.zeroValue21
 t31 := Tryz.underlying74
 a31 := Tryz.isAgg74
 z31 := Tryz.sizeOf74
 v31 := Tryz.zeroValue74
 t46 := Tryz.underlying152
 a46 := Tryz.isAgg152
 z46 := Tryz.sizeOf152
 v46 := Tryz.zeroValue152
 t51 := Tryz.underlying314
 a51 := Tryz.isAgg314
 z51 := Tryz.sizeOf314
 v51 := Tryz.zeroValue314
 t105 := Tryz.underlying287
 a105 := Tryz.isAgg287
 z105 := Tryz.sizeOf287
 v105 := Tryz.zeroValue287
 t119 := Tryz.underlying327
 a119 := Tryz.isAgg327
 z119 := Tryz.sizeOf327
 t138 := Tryz.underlying329
 a138 := Tryz.isAgg329
 z138 := Tryz.sizeOf329
 v138 := Tryz.zeroValue329
 t139 := Tryz.underlying330
 a139 := Tryz.isAgg330
 z139 := Tryz.sizeOf330
 v139 := Tryz.zeroValue330
 t146 := Tryz.underlying331
 a146 := Tryz.isAgg331
 z146 := Tryz.sizeOf331
 v146 := Tryz.zeroValue331
 g1 := by kernel_rfl
 g3 := by kernel_rfl
 g4 := by kernel_rfl }
open Go.RowKit Go.Lib in
theorem Tryz.strings_Split (s sep : ByteArray) (m : Int) (w : World) (hs : s.size < 4294967281) (hm : w.cell? ⟨2, 0, none⟩ = some (.int .i64 m)) (h1 : 1 <= sep.size) :
  Calls Tryz.prog 96 #[.string s, .string sep] w fun e w' =>
   e = .returned (.slice (some ⟨w.heap.size, 0, none⟩) (Lib.countB s sep + 1) (Lib.countB s sep + 1)) /\ w' = w.alloc (.cells ((Lib.splitB sep 0 (Lib.countB s sep) s).map Value.string).toArray 9) := Any.strings_Split Tryz.lays146 (by kernel_rfl) s sep m w hs hm h1
end Go.Proofs.YthljpccegkmdnaaGreatDoor

namespace Go.Proofs.YthljpccegkmdnaaGreatDoor
open Go Go.Abs Go.Proofs
theorem Z1ik {F : Fz} {μ : Mu} {H : List Blk} {w w' : World} (h : HR F μ H w) (hsz : w.heap.size <= w'.heap.size) (hold : ∀ b, b < w.heap.size -> w'.heap[b]? = w.heap[b]?) (e1 : w'.tape = w.tape) (e2 : w'.os = w.os) (e3 : w'.output = w.output) : HR F μ H w' /\ Post F μ H w F μ H w' := by
 have := Z5e (μ' := μ) (H' := H) (w' := w') (fun _ => False) h (Nat.le_refl _) (fun _ _ => rfl) (fun _ _ => rfl) (fun _ _ _ => Iff.rfl) (fun _ h => h.elim) hsz e1 e2 e3
  (fun b hb _ => hold b hb) (fun _ _ h => h.elim) (fun _ _ _ h => h.elim) (fun _ h => h.elim) (fun _ _ _ _ h => h.elim) (fun _ _ h => h.elim) (fun _ _ _ h => h.elim) (fun _ h => h.elim) (fun _ _ h => h.elim)
 exact ⟨this.1, this.2.1⟩
theorem Z1j7 {w : World} {os : Array Obj} {k b : Nat} (h : b < w.heap.size) : (Sort.grow (w.drewN k) os).heap[b]? = w.heap[b]? := by
 show (w.heap ++ os)[b]? = _;rw [Array.getElem?_append_left h]
theorem Z1jq {F : Fz} {μ : Mu} {H : List Blk} {w : World} (h : HR F μ H w) : Lib.TabIs Tryz.prog w "internal/strconv.uint64pow10" .u64 Lib.pow10Tab := by
 obtain ⟨⟨o, ho, t, fr, rfl⟩, -⟩ := h.kb 1 _ rfl;have hg : Tryz.prog.globalNamed "internal/strconv.uint64pow10" = some 1 := by kernel_rfl
 unfold Lib.TabIs World.var?;rw [hg];simp only [Option.bind_some, ho];rfl
theorem Z1il {vs : Array Value} {d : D} (hl : [d].length = vs.size) : ∃ x, vs = #[x] := by
 have h1 : vs.size = 1 := hl.symm;obtain ⟨x, e⟩ : ∃ x, vs[0]? = some x := ⟨_, Array.getElem?_eq_getElem (by omega)⟩;refine ⟨x, Array.ext_getElem? fun i => ?_⟩
 match i with
 | 0 => rw [e]; rfl
 | i + 1 => rw [Array.getElem?_eq_none (by omega), Array.getElem?_eq_none (by simp)]
theorem Z1k3 (n : Int) (h0 : -9223372036854775808 <= n) (h1 : n <= 9223372036854775807) (Q) (hq : Q (RA.ret (.v (.string ⟨(Lib.itoa n).toArray⟩))) []) : CallA Tryz.prog 79 [I n] [] Q := by
 refine ⟨⟨_, Tryz.func79, by kernel_rfl, by kernel_rfl⟩, fun F μ vs w hr hl hv => ?_⟩;obtain ⟨x, rfl⟩ := Z1il hl;have hx := VR.v_inv (hv 0 _ x rfl rfl);subst hx;have hcall := Tryz.strconv_Itoa n h0 h1 w (Z1jq hr);refine CallsIn.mono (callsIn_wide.2 hcall) fun e w' he => ?_;obtain ⟨rfl, k, os, rfl⟩ := he;obtain ⟨r1, p1⟩ := Z1ik (w' := Sort.grow (w.drewN k) os) hr (by show _ <= (w.heap ++ os).size; rw [Array.size_append]; omega) (fun b hb => Z1j7 hb) rfl rfl rfl;exact ⟨F, μ, [], _, ⟨p1, r1, Nat.le_refl _, fun _ _ => rfl, fun k hk => by simp [Z13] at hk⟩, .cl _ _ (.v _ rfl), hq⟩
end Go.Proofs.YthljpccegkmdnaaGreatDoor

namespace Go.Proofs.YthljpccegkmdnaaGreatDoor
open Go Go.Abs Go.Proofs Go.RowKit
theorem Z1hd {F : Fz} {μ : Mu} {H : List Blk} {w w' : World} (h : HR F μ H w) (b : Below w.heap.size w w') : HR F μ H w' /\ Post F μ H w F μ H w' :=
 Z1ik h b.size b.block b.tape b.os b.output
theorem Z1i5 {F : Fz} {μ : Mu} {H : List Blk} {w : World} (h : HR F μ H w) (g : Nat) (hg : g = 3 ∨ g = 4) : ∃ ev, w.cell? ⟨g, 0, none⟩ = some ev /\ (ev = .nilIface ∨ ∃ te pe, ev = .iface te pe) := by
 rcases hg with rfl | rfl
 ·obtain ⟨⟨o, ho, te, pe, t, fr, rfl⟩, -⟩ := h.kb 3 _ rfl;exact ⟨.iface te pe, by simp [World.cell?, ho], .inr ⟨te, pe, rfl⟩⟩
 ·obtain ⟨⟨o, ho, te, pe, t, fr, rfl⟩, -⟩ := h.kb 4 _ rfl;exact ⟨.iface te pe, by simp [World.cell?, ho], .inr ⟨te, pe, rfl⟩⟩
theorem Z1jr {F : Fz} {μ : Mu} {H : List Blk} {w : World} (h : HR F μ H w) : ∃ m, w.cell? ⟨2, 0, none⟩ = some (.int .i64 m) := by
 obtain ⟨⟨o, ho, m, t, fr, rfl⟩, -⟩ := h.kb 2 _ rfl;exact ⟨m, by simp [World.cell?, ho]⟩
theorem Z1i2 (F : Fz) (x y : D) (vx vy : Value) (hx : CR F x vx) (hy : CR F y vy) : CR F (.tup [x, y]) (.tuple #[vx, vy]) := by
 refine .tup _ _ rfl fun i c v h1 h2 => ?_
 match i, h1, h2 with
 | 0, h1, h2 => simp at h1 h2; subst h1 h2; exact hx
 | 1, h1, h2 => simp at h1 h2; subst h1 h2; exact hy
 | i + 2, h1, h2 => simp at h1
theorem Z1k4 (s : ByteArray) (hs : s.size <= 281474976710656) (Q) (hok : ∀ n, Lib.atoiAll s.data.toList = .ok n -> Q (RA.ret (.tup [I n, .v .nilIface])) [])
  (her : ∀ n, (∀ m, Lib.atoiAll s.data.toList ≠ .ok m) -> Q (RA.ret (.tup [I n, .ifc 293 .any])) []) : CallA Tryz.prog 138 [.v (.string s)] [] Q := by
 refine ⟨⟨_, Tryz.func138, by kernel_rfl, by kernel_rfl⟩, fun F μ vs w hr hl hv => ?_⟩;obtain ⟨x, rfl⟩ := Z1il hl;have hx := VR.v_inv (hv 0 _ x rfl rfl);subst hx
 cases h : Lib.atoiAll s.data.toList with
 | ok n =>
  refine CallsIn.mono (callsIn_wide.2 (Tryz.strconv_Atoi_ok s (by omega) n h w)) fun e w' he => ?_;obtain ⟨rfl, hw⟩ := he;have hb : Below w.heap.size w w' := by
   rcases hw with rfl | ⟨t, rfl⟩
   ·exact Below.refl _ _
   ·exact Lib.bytesWorld_below _ _ _
  obtain ⟨r1, p1⟩ := Z1hd hr hb;exact ⟨F, μ, [], _, ⟨p1, r1, Nat.le_refl _, fun _ _ => rfl, fun k hk => by simp [Z13] at hk⟩, .cl _ _ (Z1i2 F _ _ _ _ (.v _ rfl) (.v _ rfl)), hok n h⟩
 | range =>
  obtain ⟨ev, hv1, hv2⟩ := Z1i5 hr 4 (.inr rfl);refine CallsIn.mono (callsIn_wide.2 (Tryz.strconv_Atoi_range s hs h ev w hv1 hv2)) fun e w' he => ?_;obtain ⟨N, rfl, -, -, hb⟩ := he;obtain ⟨r1, p1⟩ := Z1hd hr hb;exact ⟨F, μ, [], _, ⟨p1, r1, Nat.le_refl _, fun _ _ => rfl, fun k hk => by simp [Z13] at hk⟩, .cl _ _ (Z1i2 F _ _ _ _ (.v _ rfl) (.ifc _ _ _ (.any _))), her _ (fun m hm => by rw [h] at hm; cases hm)⟩
 | _ =>
  obtain ⟨ev, hv1, hv2⟩ := Z1i5 hr 3 (.inl rfl);refine CallsIn.mono (callsIn_wide.2 (Tryz.strconv_Atoi_syntax s hs h ev w hv1 hv2)) fun e w' he => ?_;obtain ⟨N, rfl, -, -, hb⟩ := he;obtain ⟨r1, p1⟩ := Z1hd hr hb;exact ⟨F, μ, [], _, ⟨p1, r1, Nat.le_refl _, fun _ _ => rfl, fun k hk => by simp [Z13] at hk⟩, .cl _ _ (Z1i2 F _ _ _ _ (.v _ rfl) (.ifc _ _ _ (.any _))), her _ (fun m hm => by rw [h] at hm; cases hm)⟩
end Go.Proofs.YthljpccegkmdnaaGreatDoor

namespace Go.Proofs.YthljpccegkmdnaaGreatDoor
open Go Go.Abs Go.Proofs Go.RowKit
theorem Z1i6 {vs : Array Value} {d d2 : D} (hl : [d, d2].length = vs.size) : ∃ x y, vs = #[x, y] := by
 have h1 : vs.size = 2 := hl.symm;obtain ⟨x, e⟩ : ∃ x, vs[0]? = some x := ⟨_, Array.getElem?_eq_getElem (by omega)⟩;obtain ⟨y, e2⟩ : ∃ x, vs[1]? = some x := ⟨_, Array.getElem?_eq_getElem (by omega)⟩;refine ⟨x, y, Array.ext_getElem? fun i => ?_⟩
 match i with
 | 0 => rw [e]; rfl
 | 1 => rw [e2]; rfl
 | i + 2 => rw [Array.getElem?_eq_none (by omega), Array.getElem?_eq_none (by simp)]
def strD (s : ByteArray) : D := .v (.string s)
theorem Z1js (s sep : ByteArray) (hs : s.size < 4294967281) (h1 : 1 <= sep.size) (Q) (hq : ∀ L n, L = (Lib.splitB sep 0 (Lib.countB s sep) s).map strD -> L.length = n -> Q (RA.ret (.o 0 1 n)) [.els 1 L]) : CallA Tryz.prog 96 [strD s, strD sep] [] Q := by
 refine ⟨⟨_, Tryz.func96, by kernel_rfl, by kernel_rfl⟩, fun F μ vs w hr hl hv => ?_⟩;obtain ⟨x, y, rfl⟩ := Z1i6 hl;have hx := VR.v_inv (hv 0 _ x rfl rfl);have hy := VR.v_inv (hv 1 _ y rfl rfl);subst hx hy;obtain ⟨m, hm⟩ := Z1jr hr;obtain ⟨l, hL⟩ : ∃ l, l = Lib.splitB sep 0 (Lib.countB s sep) s := ⟨_, rfl⟩;have hlen : l.length = Lib.countB s sep + 1 := by rw [hL]; exact Lib.splitB_all sep h1 0 _ s rfl
 refine CallsIn.mono (callsIn_wide.2 (Tryz.strings_Split s sep m w hs hm h1)) fun e w' he => ?_;obtain ⟨rfl, rfl⟩ := he;rw [<- hL, <- hlen];have hsz : ((l.map Value.string).toArray).size = l.length := by simp
 obtain ⟨r1, p1, -⟩ := Zji (k := ([] : List Blk).length) (x := .els 1 (l.map strD)) (es := l.map strD) (sz := 1) (c := (l.map Value.string).toArray) hr (hr.dom 0 (Nat.zero_le _)) (Nat.le_refl _) (fun sz es h => by
   cases h
   refine ⟨fun d hd => ?_⟩
   obtain ⟨b, -, rfl⟩ := List.mem_map.1 hd
   rfl) rfl (fun i e he => by
   rw [List.getElem?_map] at he
   obtain ⟨b, hb, rfl⟩ := Option.map_eq_some_iff.1 he
   refine ⟨rfl, fun r d hd => ?_⟩
   match r, hd with
   | 0, hd =>
    simp [strD, D.cells] at hd; subst hd
    exact ⟨.string b, by simp [List.getElem?_map, hb], rfl, .cl _ _ (.v _ rfl)⟩
   | r + 1, hd => simp [strD, D.cells] at hd) (by simp) 9
 refine ⟨F, _, _, .o 0 1 l.length, ⟨p1, r1, Nat.zero_le _, fun j hj => absurd hj (Nat.not_lt_zero _), fun k hk => by simp [Z13] at hk⟩, .o 0 1 l.length w.heap.size l.length l.length ?_ (Nat.le_refl _) (by omega), ?_⟩
 ·rw [hsz]; exact Z6h _ _ _
 ·exact hq (l.map strD) l.length (by rw [hL]) (by simp)
end Go.Proofs.YthljpccegkmdnaaGreatDoor
