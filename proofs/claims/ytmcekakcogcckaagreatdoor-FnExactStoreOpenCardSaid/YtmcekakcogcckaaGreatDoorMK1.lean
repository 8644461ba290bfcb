/- The program's StoreOpen returns what the reference's returns, for every disk: no condition but the ones of the given statement. -/
import Derived.Test.YtmcekakcogcckaaGreatDoorProg
import Derived.Shelf.Strings.Builder1
import Derived.Shelf.Strings.BuilderK
import Derived.Shelf.Strconv.Itoa3
import Derived.Shelf.Strconv.AtoiAll
import Derived.Shelf.Strings.Split
import Derived.Lib.SmallJoins
namespace Go.Proofs
open Go.Shelf Go.RowKit
def laysItoa_ren : Go.Shelf.Ren := ⟨fun | 171 => 99 | 243 => 117 | 246 => 130 | 283 => 148 | 284 => 149 | 285 => 150 | 286 => 151 | 129 => 168 | 317 => 167 | 318 => 169 | 319 => 170 | 320 => 171 | 337 => 182 | 338 => 183 | n => n, fun | 3 => 3 | 9 => 9 | 2 => 2 | 4 => 4 | 171 => 182 | 0 => 0 | 53 => 183 | 37 => 110 | 5 => 5 | 173 => 186 | 212 => 202 | 51 => 203 | 20 => 20 | 213 => 204 | 46 => 151 | 232 => 229 | 233 => 230 | n => n, fun | 17 => 0 | 18 => 6 | 19 => 7 | n => n⟩
theorem laysItoa : Go.Proofs.LaysM.n171 Tryz.prog laysItoa_ren := {
  mixed := by kernel_rfl
  f129 := Tryz.func168.trans (congrArg some (by kernel_rfl))
  f171 := Tryz.func99.trans (congrArg some (by kernel_rfl))
  f243 := Tryz.func117.trans (congrArg some (by kernel_rfl))
  f246 := Tryz.func130.trans (congrArg some (by kernel_rfl))
  f283 := Tryz.func148.trans (congrArg some (by kernel_rfl))
  f284 := Tryz.func149.trans (congrArg some (by kernel_rfl))
  f285 := Tryz.func150.trans (congrArg some (by kernel_rfl))
  f286 := Tryz.func151.trans (congrArg some (by kernel_rfl))
  f317 := Tryz.func167.trans (congrArg some (by kernel_rfl))
  f318 := Tryz.func169.trans (congrArg some (by kernel_rfl))
  f319 := Tryz.func170.trans (congrArg some (by kernel_rfl))
  f320 := Tryz.func171.trans (congrArg some (by kernel_rfl))
  f337 := Tryz.func182.trans (congrArg some (by kernel_rfl))
  f338 := Tryz.func183.trans (congrArg some (by kernel_rfl))
  t0 := Tryz.underlying0
  a0 := Tryz.isAgg0
  z0 := Tryz.sizeOf0
  v0 := Tryz.zeroValue0
  t2 := Tryz.underlying2
  a2 := Tryz.isAgg2
  z2 := Tryz.sizeOf2
  v2 := Tryz.zeroValue2
  t3 := Tryz.underlying3
  a3 := Tryz.isAgg3
  z3 := Tryz.sizeOf3
  v3 := Tryz.zeroValue3
  t4 := Tryz.underlying4
  a4 := Tryz.isAgg4
  z4 := Tryz.sizeOf4
  v4 := Tryz.zeroValue4
  t5 := Tryz.underlying5
  a5 := Tryz.isAgg5
  z5 := Tryz.sizeOf5
  v5 := Tryz.zeroValue5
  t9 := Tryz.underlying9
  a9 := Tryz.isAgg9
  z9 := Tryz.sizeOf9
  v9 := Tryz.zeroValue9
  t20 := Tryz.underlying20
  a20 := Tryz.isAgg20
  z20 := Tryz.sizeOf20
  v20 := Tryz.zeroValue20
  t37 := Tryz.underlying110
  a37 := Tryz.isAgg110
  z37 := Tryz.sizeOf110
  v37 := Tryz.zeroValue110
  t46 := Tryz.underlying151
  a46 := Tryz.isAgg151
  z46 := Tryz.sizeOf151
  v46 := Tryz.zeroValue151
  t51 := Tryz.underlying203
  a51 := Tryz.isAgg203
  z51 := Tryz.sizeOf203
  v51 := Tryz.zeroValue203
  t53 := Tryz.underlying183
  a53 := Tryz.isAgg183
  z53 := Tryz.sizeOf183
  v53 := Tryz.zeroValue183
  t171 := Tryz.underlying182
  a171 := Tryz.isAgg182
  z171 := Tryz.sizeOf182
  v171 := Tryz.zeroValue182
  t173 := Tryz.underlying186
  a173 := Tryz.isAgg186
  z173 := Tryz.sizeOf186
  v173 := Tryz.zeroValue186
  t212 := Tryz.underlying202
  a212 := Tryz.isAgg202
  z212 := Tryz.sizeOf202
  v212 := Tryz.zeroValue202
  t213 := Tryz.underlying204
  a213 := Tryz.isAgg204
  z213 := Tryz.sizeOf204
  t232 := Tryz.underlying229
  a232 := Tryz.isAgg229
  z232 := Tryz.sizeOf229
  v232 := Tryz.zeroValue229
  t233 := Tryz.underlying230
  a233 := Tryz.isAgg230
  z233 := Tryz.sizeOf230
  v233 := Tryz.zeroValue230
  g17 := by kernel_rfl
  g18 := by kernel_rfl
  g19 := by kernel_rfl
  i0 := by kernel_rfl
  i2 := by kernel_rfl
  i3 := by kernel_rfl
  i4 := by kernel_rfl
  i5 := by kernel_rfl
  i9 := by kernel_rfl
  i20 := by kernel_rfl
  i37 := by kernel_rfl
  i46 := by kernel_rfl
  i51 := by kernel_rfl
  i53 := by kernel_rfl
  i171 := by kernel_rfl
  i173 := by kernel_rfl
  i212 := by kernel_rfl
  i232 := by kernel_rfl
  i233 := by kernel_rfl
  m17 := by kernel_rfl
  m18 := by kernel_rfl
  m19 := by kernel_rfl }
def laysAtoi_ren : Go.Shelf.Ren := ⟨fun | 172 => 126 | 244 => 139 | 245 => 140 | 247 => 156 | 279 => 157 | 280 => 158 | 281 => 159 | 282 => 160 | 287 => 173 | 316 => 174 | 171 => 99 | 205 => 175 | 321 => 185 | 322 => 186 | 243 => 117 | 246 => 130 | 283 => 148 | 284 => 149 | 285 => 150 | 286 => 151 | 129 => 168 | 317 => 167 | 318 => 169 | 319 => 170 | 320 => 171 | 337 => 182 | 338 => 183 | n => n, fun | 9 => 9 | 3 => 3 | 75 => 165 | 76 => 166 | 4 => 4 | 5 => 5 | 167 => 190 | 37 => 110 | 0 => 0 | 85 => 191 | 2 => 2 | 168 => 193 | 53 => 183 | 175 => 208 | 46 => 151 | 210 => 212 | 127 => 199 | 145 => 222 | 143 => 220 | 21 => 21 | 171 => 182 | 173 => 186 | 212 => 202 | 51 => 203 | 20 => 20 | 213 => 204 | 232 => 229 | 233 => 230 | 80 => 114 | n => n, fun | 15 => 1 | 16 => 2 | 17 => 0 | 18 => 6 | 19 => 7 | n => n⟩
theorem laysAtoi : Go.Proofs.LaysC.n172 Tryz.prog laysAtoi_ren := {
  mixed := by kernel_rfl
  f129 := Tryz.func168.trans (congrArg some (by kernel_rfl))
  f171 := Tryz.func99.trans (congrArg some (by kernel_rfl))
  f172 := Tryz.func126.trans (congrArg some (by kernel_rfl))
  f205 := Tryz.func175.trans (congrArg some (by kernel_rfl))
  f243 := Tryz.func117.trans (congrArg some (by kernel_rfl))
  f244 := Tryz.func139.trans (congrArg some (by kernel_rfl))
  f245 := Tryz.func140.trans (congrArg some (by kernel_rfl))
  f246 := Tryz.func130.trans (congrArg some (by kernel_rfl))
  f247 := Tryz.func156.trans (congrArg some (by kernel_rfl))
  f279 := Tryz.func157.trans (congrArg some (by kernel_rfl))
  f280 := Tryz.func158.trans (congrArg some (by kernel_rfl))
  f281 := Tryz.func159.trans (congrArg some (by kernel_rfl))
  f282 := Tryz.func160.trans (congrArg some (by kernel_rfl))
  f283 := Tryz.func148.trans (congrArg some (by kernel_rfl))
  f284 := Tryz.func149.trans (congrArg some (by kernel_rfl))
  f285 := Tryz.func150.trans (congrArg some (by kernel_rfl))
  f286 := Tryz.func151.trans (congrArg some (by kernel_rfl))
  f287 := Tryz.func173.trans (congrArg some (by kernel_rfl))
  f316 := Tryz.func174.trans (congrArg some (by kernel_rfl))
  f317 := Tryz.func167.trans (congrArg some (by kernel_rfl))
  f318 := Tryz.func169.trans (congrArg some (by kernel_rfl))
  f319 := Tryz.func170.trans (congrArg some (by kernel_rfl))
  f320 := Tryz.func171.trans (congrArg some (by kernel_rfl))
  f321 := Tryz.func185.trans (congrArg some (by kernel_rfl))
  f322 := Tryz.func186.trans (congrArg some (by kernel_rfl))
  f337 := Tryz.func182.trans (congrArg some (by kernel_rfl))
  f338 := Tryz.func183.trans (congrArg some (by kernel_rfl))
  t0 := Tryz.underlying0
  a0 := Tryz.isAgg0
  z0 := Tryz.sizeOf0
  v0 := Tryz.zeroValue0
  t2 := Tryz.underlying2
  a2 := Tryz.isAgg2
  z2 := Tryz.sizeOf2
  v2 := Tryz.zeroValue2
  t3 := Tryz.underlying3
  a3 := Tryz.isAgg3
  z3 := Tryz.sizeOf3
  v3 := Tryz.zeroValue3
  t4 := Tryz.underlying4
  a4 := Tryz.isAgg4
  z4 := Tryz.sizeOf4
  v4 := Tryz.zeroValue4
  t5 := Tryz.underlying5
  a5 := Tryz.isAgg5
  z5 := Tryz.sizeOf5
  v5 := Tryz.zeroValue5
  t9 := Tryz.underlying9
  a9 := Tryz.isAgg9
  z9 := Tryz.sizeOf9
  v9 := Tryz.zeroValue9
  t20 := Tryz.underlying20
  a20 := Tryz.isAgg20
  z20 := Tryz.sizeOf20
  v20 := Tryz.zeroValue20
  t21 := Tryz.underlying21
  a21 := Tryz.isAgg21
  z21 := Tryz.sizeOf21
  v21 := Tryz.zeroValue21
  t37 := Tryz.underlying110
  a37 := Tryz.isAgg110
  z37 := Tryz.sizeOf110
  v37 := Tryz.zeroValue110
  t46 := Tryz.underlying151
  a46 := Tryz.isAgg151
  z46 := Tryz.sizeOf151
  v46 := Tryz.zeroValue151
  t51 := Tryz.underlying203
  a51 := Tryz.isAgg203
  z51 := Tryz.sizeOf203
  v51 := Tryz.zeroValue203
  t53 := Tryz.underlying183
  a53 := Tryz.isAgg183
  z53 := Tryz.sizeOf183
  v53 := Tryz.zeroValue183
  t75 := Tryz.underlying165
  a75 := Tryz.isAgg165
  z75 := Tryz.sizeOf165
  v75 := Tryz.zeroValue165
  t76 := Tryz.underlying166
  a76 := Tryz.isAgg166
  z76 := Tryz.sizeOf166
  v76 := Tryz.zeroValue166
  t85 := Tryz.underlying191
  a85 := Tryz.isAgg191
  z85 := Tryz.sizeOf191
  v85 := Tryz.zeroValue191
  t127 := Tryz.underlying199
  a127 := Tryz.isAgg199
  z127 := Tryz.sizeOf199
  v127 := Tryz.zeroValue199
  t143 := Tryz.underlying220
  a143 := Tryz.isAgg220
  z143 := Tryz.sizeOf220
  v143 := Tryz.zeroValue220
  t145 := Tryz.underlying222
  a145 := Tryz.isAgg222
  z145 := Tryz.sizeOf222
  v145 := Tryz.zeroValue222
  t167 := Tryz.underlying190
  a167 := Tryz.isAgg190
  z167 := Tryz.sizeOf190
  v167 := Tryz.zeroValue190
  t168 := Tryz.underlying193
  a168 := Tryz.isAgg193
  z168 := Tryz.sizeOf193
  v168 := Tryz.zeroValue193
  t171 := Tryz.underlying182
  a171 := Tryz.isAgg182
  z171 := Tryz.sizeOf182
  v171 := Tryz.zeroValue182
  t173 := Tryz.underlying186
  a173 := Tryz.isAgg186
  z173 := Tryz.sizeOf186
  v173 := Tryz.zeroValue186
  t175 := Tryz.underlying208
  a175 := Tryz.isAgg208
  z175 := Tryz.sizeOf208
  v175 := Tryz.zeroValue208
  t210 := Tryz.underlying212
  a210 := Tryz.isAgg212
  z210 := Tryz.sizeOf212
  v210 := Tryz.zeroValue212
  t212 := Tryz.underlying202
  a212 := Tryz.isAgg202
  z212 := Tryz.sizeOf202
  v212 := Tryz.zeroValue202
  t213 := Tryz.underlying204
  a213 := Tryz.isAgg204
  z213 := Tryz.sizeOf204
  t232 := Tryz.underlying229
  a232 := Tryz.isAgg229
  z232 := Tryz.sizeOf229
  v232 := Tryz.zeroValue229
  t233 := Tryz.underlying230
  a233 := Tryz.isAgg230
  z233 := Tryz.sizeOf230
  v233 := Tryz.zeroValue230
  g15 := by kernel_rfl
  g16 := by kernel_rfl
  g17 := by kernel_rfl
  g18 := by kernel_rfl
  g19 := by kernel_rfl
  t80 := Tryz.underlying114
  a80 := Tryz.isAgg114
  z80 := Tryz.sizeOf114
  v80 := Tryz.zeroValue114
  i0 := by kernel_rfl
  i2 := by kernel_rfl
  i3 := by kernel_rfl
  i4 := by kernel_rfl
  i5 := by kernel_rfl
  i9 := by kernel_rfl
  i20 := by kernel_rfl
  i21 := by kernel_rfl
  i37 := by kernel_rfl
  i46 := by kernel_rfl
  i51 := by kernel_rfl
  i53 := by kernel_rfl
  i75 := by kernel_rfl
  i76 := by kernel_rfl
  i80 := by kernel_rfl
  i85 := by kernel_rfl
  i127 := by kernel_rfl
  i143 := by kernel_rfl
  i145 := by kernel_rfl
  i167 := by kernel_rfl
  i168 := by kernel_rfl
  i171 := by kernel_rfl
  i173 := by kernel_rfl
  i175 := by kernel_rfl
  i210 := by kernel_rfl
  i212 := by kernel_rfl
  i232 := by kernel_rfl
  i233 := by kernel_rfl
  m15 := by kernel_rfl
  m16 := by kernel_rfl
  m17 := by kernel_rfl
  m18 := by kernel_rfl
  m19 := by kernel_rfl
  c0 := by kernel_rfl
  c2 := by kernel_rfl
  c3 := by kernel_rfl
  c4 := by kernel_rfl
  c5 := by kernel_rfl
  c9 := by kernel_rfl
  c20 := by kernel_rfl
  c21 := by kernel_rfl
  c37 := by kernel_rfl
  c46 := by kernel_rfl
  c51 := by kernel_rfl
  c53 := by kernel_rfl
  c75 := by kernel_rfl
  c76 := by kernel_rfl
  c80 := by kernel_rfl
  c85 := by kernel_rfl
  c127 := by kernel_rfl
  c143 := by kernel_rfl
  c145 := by kernel_rfl
  c167 := by kernel_rfl
  c168 := by kernel_rfl
  c171 := by kernel_rfl
  c173 := by kernel_rfl
  c175 := by kernel_rfl
  c210 := by kernel_rfl
  c212 := by kernel_rfl
  c213 := by kernel_rfl
  c232 := by kernel_rfl
  c233 := by kernel_rfl }
def laysSplit_ren : Go.Shelf.Ren := ⟨fun | 146 => 114 | 221 => 127 | 268 => 141 | 138 => 142 | 143 => 143 | 195 => 161 | 197 => 162 | 218 => 163 | 219 => 164 | 260 => 176 | 217 => 177 | 225 => 178 | 224 => 179 | 267 => 180 | 266 => 187 | 314 => 188 | n => n, fun | 9 => 9 | 31 => 23 | 3 => 3 | 4 => 4 | 0 => 0 | 105 => 196 | 21 => 21 | 5 => 5 | 46 => 151 | 119 => 223 | 139 => 226 | 138 => 225 | 146 => 227 | 51 => 203 | n => n, fun | 1 => 3 | 3 => 4 | 4 => 5 | n => n⟩
theorem laysSplit : Go.Proofs.Lays.n146 Tryz.prog laysSplit_ren := {
  mixed := by kernel_rfl
  f138 := Tryz.func142.trans (congrArg some (by kernel_rfl))
  f143 := Tryz.func143.trans (congrArg some (by kernel_rfl))
  f146 := Tryz.func114.trans (congrArg some (by kernel_rfl))
  f195 := Tryz.func161.trans (congrArg some (by kernel_rfl))
  f197 := Tryz.func162.trans (congrArg some (by kernel_rfl))
  f217 := Tryz.func177.trans (congrArg some (by kernel_rfl))
  f218 := Tryz.func163.trans (congrArg some (by kernel_rfl))
  f219 := Tryz.func164.trans (congrArg some (by kernel_rfl))
  f221 := Tryz.func127.trans (congrArg some (by kernel_rfl))
  f224 := Tryz.func179.trans (congrArg some (by kernel_rfl))
  f225 := Tryz.func178.trans (congrArg some (by kernel_rfl))
  f260 := Tryz.func176.trans (congrArg some (by kernel_rfl))
  f266 := Tryz.func187.trans (congrArg some (by kernel_rfl))
  f267 := Tryz.func180.trans (congrArg some (by kernel_rfl))
  f268 := Tryz.func141.trans (congrArg some (by kernel_rfl))
  f314 := Tryz.func188.trans (congrArg some (by kernel_rfl))
  t0 := Tryz.underlying0
  a0 := Tryz.isAgg0
  z0 := Tryz.sizeOf0
  v0 := Tryz.zeroValue0
  t3 := Tryz.underlying3
  a3 := Tryz.isAgg3
  z3 := Tryz.sizeOf3
  v3 := Tryz.zeroValue3
  t4 := Tryz.underlying4
  a4 := Tryz.isAgg4
  z4 := Tryz.sizeOf4
  v4 := Tryz.zeroValue4
  t5 := Tryz.underlying5
  a5 := Tryz.isAgg5
  z5 := Tryz.sizeOf5
  v5 := Tryz.zeroValue5
  t9 := Tryz.underlying9
  a9 := Tryz.isAgg9
  z9 := Tryz.sizeOf9
  v9 := Tryz.zeroValue9
  t21 := Tryz.underlying21
  a21 := Tryz.isAgg21
  z21 := Tryz.sizeOf21
  v21 := Tryz.zeroValue21
  t31 := Tryz.underlying23
  a31 := Tryz.isAgg23
  z31 := Tryz.sizeOf23
  v31 := Tryz.zeroValue23
  t46 := Tryz.underlying151
  a46 := Tryz.isAgg151
  z46 := Tryz.sizeOf151
  v46 := Tryz.zeroValue151
  t51 := Tryz.underlying203
  a51 := Tryz.isAgg203
  z51 := Tryz.sizeOf203
  v51 := Tryz.zeroValue203
  t105 := Tryz.underlying196
  a105 := Tryz.isAgg196
  z105 := Tryz.sizeOf196
  v105 := Tryz.zeroValue196
  t119 := Tryz.underlying223
  a119 := Tryz.isAgg223
  z119 := Tryz.sizeOf223
  t138 := Tryz.underlying225
  a138 := Tryz.isAgg225
  z138 := Tryz.sizeOf225
  v138 := Tryz.zeroValue225
  t139 := Tryz.underlying226
  a139 := Tryz.isAgg226
  z139 := Tryz.sizeOf226
  v139 := Tryz.zeroValue226
  t146 := Tryz.underlying227
  a146 := Tryz.isAgg227
  z146 := Tryz.sizeOf227
  v146 := Tryz.zeroValue227
  g1 := by kernel_rfl
  g3 := by kernel_rfl
  g4 := by kernel_rfl }
def laysStr_ren : Go.Shelf.Ren := ⟨fun | 169 => 147 | n => n, fun | 70 => 178 | 9 => 9 | 0 => 0 | 72 => 180 | 37 => 110 | 127 => 199 | 3 => 3 | 5 => 5 | n => n, fun | n => n⟩
theorem laysStr : Go.Proofs.Lays.n169 Tryz.prog laysStr_ren := {
  mixed := by kernel_rfl
  f169 := Tryz.func147.trans (congrArg some (by kernel_rfl))
  t0 := Tryz.underlying0
  a0 := Tryz.isAgg0
  z0 := Tryz.sizeOf0
  v0 := Tryz.zeroValue0
  t3 := Tryz.underlying3
  a3 := Tryz.isAgg3
  z3 := Tryz.sizeOf3
  v3 := Tryz.zeroValue3
  t9 := Tryz.underlying9
  a9 := Tryz.isAgg9
  z9 := Tryz.sizeOf9
  v9 := Tryz.zeroValue9
  t37 := Tryz.underlying110
  a37 := Tryz.isAgg110
  z37 := Tryz.sizeOf110
  v37 := Tryz.zeroValue110
  t70 := Tryz.underlying178
  a70 := Tryz.isAgg178
  z70 := Tryz.sizeOf178
  v70 := Tryz.zeroValue178
  t72 := Tryz.underlying180
  a72 := Tryz.isAgg180
  z72 := Tryz.sizeOf180
  v72 := Tryz.zeroValue180
  t127 := Tryz.underlying199
  a127 := Tryz.isAgg199
  z127 := Tryz.sizeOf199
  v127 := Tryz.zeroValue199 }
def laysCheck_ren : Go.Shelf.Ren := ⟨fun | 240 => 166 | 276 => 181 | n => n, fun | 70 => 178 | 72 => 180 | 164 => 214 | 37 => 110 | 5 => 5 | n => n, fun | n => n⟩
theorem laysCheck : Go.Proofs.Lays.n240 Tryz.prog laysCheck_ren := {
  mixed := by kernel_rfl
  f240 := Tryz.func166.trans (congrArg some (by kernel_rfl))
  f276 := Tryz.func181.trans (congrArg some (by kernel_rfl))
  t0 := Tryz.underlying0
  a0 := Tryz.isAgg0
  z0 := Tryz.sizeOf0
  v0 := Tryz.zeroValue0
  t4 := Tryz.underlying4
  a4 := Tryz.isAgg4
  z4 := Tryz.sizeOf4
  v4 := Tryz.zeroValue4
  t9 := Tryz.underlying9
  a9 := Tryz.isAgg9
  z9 := Tryz.sizeOf9
  v9 := Tryz.zeroValue9
  t20 := Tryz.underlying20
  a20 := Tryz.isAgg20
  z20 := Tryz.sizeOf20
  v20 := Tryz.zeroValue20
  t70 := Tryz.underlying178
  a70 := Tryz.isAgg178
  z70 := Tryz.sizeOf178
  v70 := Tryz.zeroValue178
  t72 := Tryz.underlying180
  a72 := Tryz.isAgg180
  z72 := Tryz.sizeOf180
  v72 := Tryz.zeroValue180
  t164 := Tryz.underlying214
  a164 := Tryz.isAgg214
  z164 := Tryz.sizeOf214
  v164 := Tryz.zeroValue214 }
def laysWS_ren : Go.Shelf.Ren := ⟨fun | 166 => 145 | 240 => 166 | 276 => 181 | n => n, fun | 70 => 178 | 72 => 180 | 164 => 214 | 37 => 110 | 5 => 5 | 75 => 165 | 80 => 114 | n => n, fun | n => n⟩
theorem laysWS : Go.Proofs.Lays.n166 Tryz.prog laysWS_ren := {
  mixed := by kernel_rfl
  f166 := Tryz.func145.trans (congrArg some (by kernel_rfl))
  f240 := Tryz.func166.trans (congrArg some (by kernel_rfl))
  f276 := Tryz.func181.trans (congrArg some (by kernel_rfl))
  t0 := Tryz.underlying0
  a0 := Tryz.isAgg0
  z0 := Tryz.sizeOf0
  v0 := Tryz.zeroValue0
  t3 := Tryz.underlying3
  a3 := Tryz.isAgg3
  z3 := Tryz.sizeOf3
  v3 := Tryz.zeroValue3
  t4 := Tryz.underlying4
  a4 := Tryz.isAgg4
  z4 := Tryz.sizeOf4
  v4 := Tryz.zeroValue4
  t9 := Tryz.underlying9
  a9 := Tryz.isAgg9
  z9 := Tryz.sizeOf9
  v9 := Tryz.zeroValue9
  t20 := Tryz.underlying20
  a20 := Tryz.isAgg20
  z20 := Tryz.sizeOf20
  v20 := Tryz.zeroValue20
  t37 := Tryz.underlying110
  a37 := Tryz.isAgg110
  z37 := Tryz.sizeOf110
  v37 := Tryz.zeroValue110
  t70 := Tryz.underlying178
  a70 := Tryz.isAgg178
  z70 := Tryz.sizeOf178
  v70 := Tryz.zeroValue178
  t72 := Tryz.underlying180
  a72 := Tryz.isAgg180
  z72 := Tryz.sizeOf180
  v72 := Tryz.zeroValue180
  t75 := Tryz.underlying165
  a75 := Tryz.isAgg165
  z75 := Tryz.sizeOf165
  v75 := Tryz.zeroValue165
  t164 := Tryz.underlying214
  a164 := Tryz.isAgg214
  z164 := Tryz.sizeOf214
  v164 := Tryz.zeroValue214 }
theorem laysX72 : Builder.X72 Tryz.prog laysCheck_ren where
  sizeBuilder := by kernel_rfl
  liesBuilder := by kernel_rfl
theorem laysXWS : Builder.Extra Tryz.prog laysWS_ren where
  sizeBuilder := by kernel_rfl
  liesBuilder := by kernel_rfl
  t5 := Tryz.underlying5
  a5 := Tryz.isAgg5
  z5 := Tryz.sizeOf5
  v5 := Tryz.zeroValue5
  infoByte := by kernel_rfl
  cellsByte := by kernel_rfl
  sizeByte := by kernel_rfl
  neB5 := by decide
theorem laysXStr : Builder.Extra Tryz.prog laysStr_ren where
  sizeBuilder := by kernel_rfl
  liesBuilder := by kernel_rfl
  t5 := Tryz.underlying5
  a5 := Tryz.isAgg5
  z5 := Tryz.sizeOf5
  v5 := Tryz.zeroValue5
  infoByte := by kernel_rfl
  cellsByte := by kernel_rfl
  sizeByte := by kernel_rfl
  neB5 := by decide
def rnB (s : ByteArray) : Bool := match Lib.atoiAll s.data.toList with
  | .ok v => decide (Lib.itoa v = s.data.toList)
  | _ => false
def rnN (s : ByteArray) : Int := match Lib.atoiAll s.data.toList with
  | .ok v => v
  | .range => Lib.atoiSat s.data.toList
  | _ => 0
theorem atoi_in {l : List UInt8} {v : Int} (h : Lib.atoiAll l = .ok v) : -9223372036854775808 ≤ v ∧ v ≤ 9223372036854775807 := by
  unfold Lib.atoiAll at h
  split at h
  · cases h
  · simp only at h
    split at h
    · cases h
    · cases h
    · rename_i u hu
      split at h
      · cases h
      · split at h
        · cases h
        · injection h with h
          subst h
          split <;> omega
set_option maxHeartbeats 1000000 in
theorem readNum_kit (s : ByteArray) (hs : s.size ≤ 281474976710656) (w : World) (htab : Lib.TabIs Tryz.prog w "internal/strconv.uint64pow10" .u64 Lib.pow10Tab) (h1 : ∃ a b, w.cell? ⟨1, 0, none⟩ = some (.iface a b)) (h2 : ∃ a b, w.cell? ⟨2, 0, none⟩ = some (.iface a b)) :
    Calls Tryz.prog 113 #[.string s] w fun e w' => e = .returned (.tuple #[.int .i64 (rnN s), .bool (rnB s)]) ∧ Below w.heap.size w w' := by
  unfold rnN rnB
  cases h : Lib.atoiAll s.data.toList with
  | ok v =>
    simp only
    obtain ⟨hv1, hv2⟩ := atoi_in h
    go_enter Tryz.func113, Tryz.ntmps113
    go_wp2_with (go_at_call 126; refine (Any.strconv_Atoi_ok laysAtoi s (by omega) v h _).mono ?_)
    rintro e w' ⟨rfl, hw⟩
    have hb : Below w.heap.size w w' := by
      rcases hw with rfl | ⟨t, rfl⟩
      · exact Below.refl _ _
      · exact Joins.below_bytesWorld _ _ _ _ (Nat.le_refl _)
    have htab' : Lib.TabIs Tryz.prog w' "internal/strconv.uint64pow10" .u64 Lib.pow10Tab := Joins.tab_stays (g := 0) (by kernel_rfl) htab hb (Nat.le_refl _)
    go_wp2_with (go_at_call 99; refine (Any.strconv_Itoa laysItoa v hv1 hv2 _ htab').mono ?_)
    rintro e w2 ⟨rfl, k, os, rfl⟩
    go_wp2
    go_ret2
    refine ⟨?_, hb.trans ⟨rfl, rfl, rfl, by simp [Go.Sort.grow, World.drewN], fun j hj => ?_⟩⟩
    · have e : (Lib.itoa v == s.toList) = decide (Lib.itoa v = s.data.toList) := by
        rw [ByteArray.toList_eq]
        by_cases h : Lib.itoa v = s.data.toList <;> simp [h]
      rw [e]; rfl
    · have hj2 : j < w'.heap.size := Nat.lt_of_lt_of_le hj hb.size
      show (w'.heap ++ os)[j]? = _
      rw [Array.getElem?_append_left hj2]
  | range =>
    simp only
    obtain ⟨a, b, h2⟩ := h2
    go_enter Tryz.func113, Tryz.ntmps113
    go_wp2_with (go_at_call 126; refine (Any.strconv_Atoi_range laysAtoi s hs h _ _ h2 (.inr ⟨a, b, rfl⟩)).mono ?_; rintro e w' ⟨N, rfl, hN, hw, hb⟩)
    go_ret2
    exact ⟨rfl, hb⟩
  | _ =>
    simp only
    obtain ⟨a, b, h1⟩ := h1
    go_enter Tryz.func113, Tryz.ntmps113
    go_wp2_with (go_at_call 126; refine (Any.strconv_Atoi_syntax laysAtoi s hs h _ _ h1 (.inr ⟨a, b, rfl⟩)).mono ?_; rintro e w' ⟨N, rfl, hN, hw, hb⟩)
    go_ret2
    exact ⟨rfl, hb⟩
end Go.Proofs
namespace Go.Proofs
open Go.Shelf Go.RowKit
/-! The text of a plan: walked over the kit's contracts of strings.Builder. 'J' is what impl.joined makes. -/
structure KP where
  a : Int
  b : Int
  c : Int
  d : Int
def kLine (J : ByteArray → List Int → ByteArray) (x : KP) : ByteArray := J ⟨#[115, 101, 97, 108]⟩ [x.a, x.b, x.c, x.d] ++ ⟨#[10]⟩
def kText (J : ByteArray → List Int → ByteArray) : List KP → List UInt8
  | [] => []
  | x :: xs => (kLine J x).data.toList ++ kText J xs
def kEnd (J : ByteArray → List Int → ByteArray) (o f : Int) : ByteArray := J ⟨#[111, 112, 101, 110]⟩ [o, f] ++ ⟨#[10, 101, 110, 100, 10]⟩
theorem kText_snoc (J : ByteArray → List Int → ByteArray) (xs : List KP) (x : KP) : kText J (xs ++ [x]) = kText J xs ++ (kLine J x).data.toList := by
  induction xs with
  | nil => simp [kText]
  | cons y ys ih => simp [kText, ih, List.append_assoc]
theorem kLine_le (J : ByteArray → List Int → ByteArray) (hJs : ∀ s ns, (J s ns).size ≤ 1000) (x : KP) : (kLine J x).size ≤ 1001 := by
  have := hJs ⟨#[115, 101, 97, 108]⟩ [x.a, x.b, x.c, x.d]
  rw [kLine, ByteArray.size_append]
  show _ + 1 ≤ _
  omega
theorem kText_le (J : ByteArray → List Int → ByteArray) (hJs : ∀ s ns, (J s ns).size ≤ 1000) : ∀ xs : List KP, (kText J xs).length ≤ 1001 * xs.length
  | [] => Nat.le_refl _
  | x :: xs => by
    have h1 := kText_le J hJs xs
    have h2 := kLine_le J hJs x
    have h3 : (kLine J x).data.toList.length = (kLine J x).size := Array.length_toList
    rw [kText, List.length_append, List.length_cons, h3]; omega
theorem builder_below {T e : TypeId} {B b : Nat} {bs : List Value} {w w' : World} (h : Lib.IsBuilderF T e B b bs w) (hb : Below w.heap.size w w') : Lib.IsBuilderF T e B b bs w' := by
  have key : ∀ p, Lib.BuilderAtF T e B b p bs w → Lib.BuilderAtF T e B b p bs w' := by
    rintro p ⟨hB, v, h1, h2, h3⟩
    have hlt : b < w.heap.size := (Array.getElem?_eq_some_iff.1 h1).1
    refine ⟨hB, v, (hb.block b hlt).trans h1, ⟨h2.1, ?_⟩, h3⟩
    rcases h2.2 with h | ⟨g, cap, cur, fz, e1, e2, e3, r⟩
    · exact .inl h
    · exact .inr ⟨g, cap, cur, fz, e1, e2, (hb.block g (Array.getElem?_eq_some_iff.1 e3).1).trans e3, r⟩
  rcases h with h | h
  · exact .inl (key _ h)
  · exact .inr (key _ h)
theorem take_step {α : Type} {l : List α} {i : Nat} {x : α} (h : l[i]? = some x) : l.take (i + 1) = l.take i ++ [x] := by
  rw [List.take_add_one, h]; rfl
set_option maxHeartbeats 2000000 in
theorem planText_kit (J : ByteArray → List Int → ByteArray) (xs : List KP) (o f : Int) (ad : Option Addr) (cap : Nat) (w : World) (hl : xs.length ≤ 100000)
    (hJs : ∀ s ns, (J s ns).size ≤ 1000)
    (hx : ∀ k x, xs[k]? = some x → ∃ b off, ad = some ⟨b, off, none⟩ ∧ b < w.heap.size ∧ w.cell? ⟨b, off + k * 4, none⟩ = some (.int .i64 x.a) ∧ w.cell? ⟨b, off + k * 4 + 1, none⟩ = some (.int .i64 x.b) ∧ w.cell? ⟨b, off + k * 4 + 2, none⟩ = some (.int .i64 x.c) ∧ w.cell? ⟨b, off + k * 4 + 3, none⟩ = some (.int .i64 x.d))
    (hJ4 : ∀ x ∈ xs, ∀ (W : World) (g : Nat), Below w.heap.size w W → W.heap[g]? = some (.cells #[.int .i64 x.a, .int .i64 x.b, .int .i64 x.c, .int .i64 x.d] 3 (0, 0)) → Calls Tryz.prog 146 #[.string ⟨#[115, 101, 97, 108]⟩, .slice (some ⟨g, 0, none⟩) 4 4] W fun e W' => e = .returned (.string (J ⟨#[115, 101, 97, 108]⟩ [x.a, x.b, x.c, x.d])) ∧ Below W.heap.size W W')
    (hJ2 : ∀ (W : World) (g : Nat), Below w.heap.size w W → W.heap[g]? = some (.cells #[.int .i64 o, .int .i64 f] 3 (0, 0)) → Calls Tryz.prog 146 #[.string ⟨#[111, 112, 101, 110]⟩, .slice (some ⟨g, 0, none⟩) 2 2] W fun e W' => e = .returned (.string (J ⟨#[111, 112, 101, 110]⟩ [o, f])) ∧ Below W.heap.size W W') :
    Calls Tryz.prog 129 #[.agg #[.slice ad xs.length cap, .int .i64 o, .int .i64 f]] w fun e w' => e = .returned (.string ⟨(kText J xs ++ (kEnd J o f).data.toList).toArray⟩) ∧ Below w.heap.size w w' := by
  go_enter Tryz.func129, Tryz.ntmps129
  go_wp2
  go_loopw [9] (fun i wr => ∃ k : Nat, k ≤ xs.length ∧ i = .int .i64 k ∧ Lib.IsBuilderF 180 5 (w.heap.size + 1) (w.heap.size + 1) (Lib.byteCells (kText J (xs.take k))) wr ∧ Below (w.heap.size + 1) (w.alloc (.cells #[.slice ad xs.length cap, .int .i64 o, .int .i64 f] 47)) wr) (fun i _ => xs.length - (intOf i).toNat)
  case atStart =>
    refine ⟨0, Nat.zero_le _, rfl, ?_, (Below.refl _ _).alloc (by simp) _⟩
    have := Lib.IsBuilderF.of (Lib.fresh_isBuilder 180 5 (w.alloc (.cells #[.slice ad xs.length cap, .int .i64 o, .int .i64 f] 47)))
    simpa [kText, Lib.byteCells] using this
  case round =>
    obtain ⟨k, hk, rfl, hI, hbw⟩ := hrel
    have hbw0 : Below w.heap.size w wr := (((Below.refl _ w).alloc (Nat.le_refl _) _).trans (hbw.mono (by omega)))
    have hsz : w.heap.size + 1 ≤ wr.heap.size := by have := hbw.size; simpa using this
    by_cases hlt : k < xs.length
    · obtain ⟨x, hxk⟩ : ∃ x, xs[k]? = some x := ⟨_, List.getElem?_eq_getElem hlt⟩
      obtain ⟨b, off, rfl, hb, c0, c1, c2, c3⟩ := hx k x hxk
      have c0' : wr.cell? ⟨b, off + k * 4, none⟩ = some (.int .i64 x.a) := (hbw0.cell (p := ⟨b, off + k * 4, none⟩) hb).trans c0
      have c1' : wr.cell? ⟨b, off + k * 4 + 1, none⟩ = some (.int .i64 x.b) := (hbw0.cell (p := ⟨b, off + k * 4 + 1, none⟩) hb).trans c1
      have c2' : wr.cell? ⟨b, off + k * 4 + 2, none⟩ = some (.int .i64 x.c) := (hbw0.cell (p := ⟨b, off + k * 4 + 2, none⟩) hb).trans c2
      have c3' : wr.cell? ⟨b, off + k * 4 + 3, none⟩ = some (.int .i64 x.d) := (hbw0.cell (p := ⟨b, off + k * 4 + 3, none⟩) hb).trans c3
      clear c0 c1 c2 c3
      have hz := hJs ⟨#[115, 101, 97, 108]⟩ [x.a, x.b, x.c, x.d]
      have hz2 : (J ⟨#[115, 101, 97, 108]⟩ [x.a, x.b, x.c, x.d]).size + (⟨#[10]⟩ : ByteArray).size ≤ 9223372036854775807 := by show _ + 1 ≤ _; omega
      have hbo := ((Below.refl wr.heap.size wr).alloc (Nat.le_refl _) (.cells #[.int .i64 x.a, .int .i64 x.b, .int .i64 x.c, .int .i64 x.d] 76)).alloc (by simp) (.cells #[.int .i64 x.a, .int .i64 x.b, .int .i64 x.c, .int .i64 x.d] 3)
      have hJ := hJ4 x (List.mem_of_getElem? hxk) ((wr.alloc (.cells #[.int .i64 x.a, .int .i64 x.b, .int .i64 x.c, .int .i64 x.d] 76)).alloc (.cells #[.int .i64 x.a, .int .i64 x.b, .int .i64 x.c, .int .i64 x.d] 3)) (wr.heap.size + 1) (hbw0.trans (hbo.mono hbw0.size)) (by have := heap_alloc_new (wr.alloc (.cells #[.int .i64 x.a, .int .i64 x.b, .int .i64 x.c, .int .i64 x.d] 76)) (.cells #[.int .i64 x.a, .int .i64 x.b, .int .i64 x.c, .int .i64 x.d] 3); simpa using this)
      go_wp2_with (go_at_call 146; refine hJ.mono ?_)
      rintro e W1 ⟨rfl, hb1⟩
      have hI1 := builder_below hI (hbo.trans (hb1.mono hbo.size))
      have hkl := kText_le J hJs (xs.take k)
      have hkl2 : (xs.take k).length ≤ k := List.length_take_le _ _
      have hlin := kLine_le J hJs x
      have hs1 : w.heap.size + 1 ≤ W1.heap.size := Nat.le_trans hsz (Nat.le_trans hbo.size hb1.size)
      go_wp2_with (go_at_call 145; refine (Any.Builder_WriteString_k laysWS laysXWS (w.heap.size + 1) (w.heap.size + 1) _ (kLine J x) _ hI1 (by rw [Lib.byteCells_length]; omega) hs1).mono ?_)
      rintro e W2 ⟨rfl, h2, b2, _⟩
      go_wp2
      go_roundw
      case rel =>
        refine ⟨k + 1, by omega, by go_num, ?_, hbw.trans ((hbo.mono hsz).trans ((hb1.mono (Nat.le_trans hsz hbo.size)).trans b2))⟩
        rw [take_step hxk, kText_snoc, Lib.byteCells_append, ← Lib.strCells_eq]
        exact Or.inr h2
      case measure => simp [intOf]; omega
    · have hke : k = xs.length := by omega
      subst hke
      rw [List.take_length] at hI
      have hz := hJs ⟨#[111, 112, 101, 110]⟩ [o, f]
      have hz2 : (J ⟨#[111, 112, 101, 110]⟩ [o, f]).size + (⟨#[10, 101, 110, 100, 10]⟩ : ByteArray).size ≤ 9223372036854775807 := by show _ + 5 ≤ _; omega
      have p0 : wr.heap[w.heap.size]? = some (.cells #[.slice ad xs.length cap, .int .i64 o, .int .i64 f] 47 (0, 0)) := (hbw.block w.heap.size (Nat.lt_succ_self _)).trans (heap_alloc_new w _)
      have d1 : wr.cell? ⟨w.heap.size, 1, none⟩ = some (.int .i64 o) := by rw [Lib.cell_of_heap p0]; rfl
      have d2 : wr.cell? ⟨w.heap.size, 2, none⟩ = some (.int .i64 f) := by rw [Lib.cell_of_heap p0]; rfl
      have hbo := (Below.refl wr.heap.size wr).alloc (Nat.le_refl _) (.cells #[.int .i64 o, .int .i64 f] 3)
      have hJ := hJ2 (wr.alloc (.cells #[.int .i64 o, .int .i64 f] 3)) wr.heap.size (hbw0.trans (hbo.mono hbw0.size)) (heap_alloc_new wr _)
      go_wp2_with (go_at_call 146; refine hJ.mono ?_)
      rintro e W1 ⟨rfl, hb1⟩
      have hI1 := builder_below hI (hbo.trans (hb1.mono hbo.size))
      have hkl := kText_le J hJs xs
      have hs1 : w.heap.size + 1 ≤ W1.heap.size := Nat.le_trans hsz (Nat.le_trans hbo.size hb1.size)
      have hen : (kEnd J o f).size ≤ 1005 := by rw [kEnd, ByteArray.size_append]; show _ + 5 ≤ _; omega
      go_wp2_with (go_at_call 145; refine (Any.Builder_WriteString_k laysWS laysXWS (w.heap.size + 1) (w.heap.size + 1) _ (kEnd J o f) _ hI1 (by rw [Lib.byteCells_length]; omega) hs1).mono ?_)
      rintro e W2 ⟨rfl, h2, b2, _⟩
      rw [Lib.strCells_eq, ← Lib.byteCells_append] at h2
      go_wp2_with (go_at_call 147; refine (Any.Builder_String_any_k laysStr laysXStr (w.heap.size + 1) (w.heap.size + 1) _ _ (Or.inr h2) (Nat.le_trans hs1 b2.size)).mono ?_)
      rintro e W3 ⟨rfl, _, b3, _⟩
      go_wp2
      go_ret
      exact ⟨rfl, hbw0.trans ((hbo.mono hbw0.size).trans ((hb1.mono (Nat.le_trans hbw0.size hbo.size)).trans ((b2.mono (by omega)).trans (b3.mono (by omega)))))⟩
end Go.Proofs
