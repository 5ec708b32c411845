import Derived.Shelf.Strings.SplitShaped
import Derived.Shelf.Strings.Cut
import Derived.Shelf.Strings.Prefix
import Derived.Shelf.Strings.BuilderK
import Derived.Shelf.Strconv.Itoa3
import Derived.Shelf.Strconv.AtoiAll
import Derived.Shelf.Strconv.ErrVarAll
import Derived.Shelf.Small.Strs
import Derived.Shelf.LaysM
import Derived.Shelf.LaysC
import Derived.Lib.AppendIntMem
import Derived.Lib.AtoiErrMem
import Derived.Test.YtfdillpofciicaaGreatDoorTextPrintsJ2
import Derived.Handed
import Derived.Leaving
import Derived.Conc.LeavingOf
import Derived.Stop.LaidErr
import Derived.Lib.LaidTab
import Derived.Lay
import Derived.LaidMore
import Derived.SevenTiedAt
import Derived.Test.YtfdillpofciicaaGreatDoorCards
import Derived.Test.YtfdillpofciicaaGreatDoorTie
set_option linter.unusedVariables false
set_option linter.unusedSimpArgs false
/- A part of the proof that TextPrints returns true. -/
namespace Go.Proofs.YtfdillpofciicaaGreatDoor
open Go Go.RowKit Go.Shelf
def itoaL_ren : Go.Shelf.Ren:=⟨fun | 171 => 24 | 243 => 64 | 246 => 109 | 283 => 156 | 284 => 157 | 285 => 158 | 286 => 159 | 129 => 184 | 317 => 200 | 318 => 201 | 319 => 202 | 320 => 203 | 337 => 224 | 338 => 225 | n => n,fun | 3 => 3 | 9 => 9 | 2 => 2 | 4 => 4 | 171 => 238 | 0 => 0 | 53 => 239 | 37 => 63 | 5 => 5 | 173 => 242 | 212 => 272 | 51 => 260 | 20 => 20 | 213 => 273 | 46 => 225 | 232 => 328 | 233 => 329 | n => n,fun | 17 => 1 | 18 => 6 | 19 => 7 | n => n⟩
theorem itoaL : Go.Proofs.LaysM.n171 Tryz.prog itoaL_ren:={
 mixed:=by kernel_rfl,
 f129:=Tryz.func184.trans (congrArg some (by kernel_rfl)),
 f171:=Tryz.func24.trans (congrArg some (by kernel_rfl)),
 f243:=Tryz.func64.trans (congrArg some (by kernel_rfl)),
 f246:=Tryz.func109.trans (congrArg some (by kernel_rfl)),
 f283:=Tryz.func156.trans (congrArg some (by kernel_rfl)),
 f284:=Tryz.func157.trans (congrArg some (by kernel_rfl)),
 f285:=Tryz.func158.trans (congrArg some (by kernel_rfl)),
 f286:=Tryz.func159.trans (congrArg some (by kernel_rfl)),
 f317:=Tryz.func200.trans (congrArg some (by kernel_rfl)),
 f318:=Tryz.func201.trans (congrArg some (by kernel_rfl)),
 f319:=Tryz.func202.trans (congrArg some (by kernel_rfl)),
 f320:=Tryz.func203.trans (congrArg some (by kernel_rfl)),
 f337:=Tryz.func224.trans (congrArg some (by kernel_rfl)),
 f338:=Tryz.func225.trans (congrArg some (by kernel_rfl)),
 t0:=Tryz.underlying0,
 a0:=Tryz.isAgg0,
 z0:=Tryz.sizeOf0,
 v0:=Tryz.zeroValue0,
 t2:=Tryz.underlying2,
 a2:=Tryz.isAgg2,
 z2:=Tryz.sizeOf2,
 v2:=Tryz.zeroValue2,
 t3:=Tryz.underlying3,
 a3:=Tryz.isAgg3,
 z3:=Tryz.sizeOf3,
 v3:=Tryz.zeroValue3,
 t4:=Tryz.underlying4,
 a4:=Tryz.isAgg4,
 z4:=Tryz.sizeOf4,
 v4:=Tryz.zeroValue4,
 t5:=Tryz.underlying5,
 a5:=Tryz.isAgg5,
 z5:=Tryz.sizeOf5,
 v5:=Tryz.zeroValue5,
 t9:=Tryz.underlying9,
 a9:=Tryz.isAgg9,
 z9:=Tryz.sizeOf9,
 v9:=Tryz.zeroValue9,
 t20:=Tryz.underlying20,
 a20:=Tryz.isAgg20,
 z20:=Tryz.sizeOf20,
 v20:=Tryz.zeroValue20,
 t37:=Tryz.underlying63,
 a37:=Tryz.isAgg63,
 z37:=Tryz.sizeOf63,
 v37:=Tryz.zeroValue63,
 t46:=Tryz.underlying225,
 a46:=Tryz.isAgg225,
 z46:=Tryz.sizeOf225,
 v46:=Tryz.zeroValue225,
 t51:=Tryz.underlying260,
 a51:=Tryz.isAgg260,
 z51:=Tryz.sizeOf260,
 v51:=Tryz.zeroValue260,
 t53:=Tryz.underlying239,
 a53:=Tryz.isAgg239,
 z53:=Tryz.sizeOf239,
 v53:=Tryz.zeroValue239,
 t171:=Tryz.underlying238,
 a171:=Tryz.isAgg238,
 z171:=Tryz.sizeOf238,
 v171:=Tryz.zeroValue238,
 t173:=Tryz.underlying242,
 a173:=Tryz.isAgg242,
 z173:=Tryz.sizeOf242,
 v173:=Tryz.zeroValue242,
 t212:=Tryz.underlying272,
 a212:=Tryz.isAgg272,
 z212:=Tryz.sizeOf272,
 v212:=Tryz.zeroValue272,
 t213:=Tryz.underlying273,
 a213:=Tryz.isAgg273,
 z213:=Tryz.sizeOf273,
 t232:=Tryz.underlying328,
 a232:=Tryz.isAgg328,
 z232:=Tryz.sizeOf328,
 v232:=Tryz.zeroValue328,
 t233:=Tryz.underlying329,
 a233:=Tryz.isAgg329,
 z233:=Tryz.sizeOf329,
 v233:=Tryz.zeroValue329,
 g17:=by kernel_rfl,
 g18:=by kernel_rfl,
 g19:=by kernel_rfl,
 i0:=by kernel_rfl,
 i2:=by kernel_rfl,
 i3:=by kernel_rfl,
 i4:=by kernel_rfl,
 i5:=by kernel_rfl,
 i9:=by kernel_rfl,
 i20:=by kernel_rfl,
 i37:=by kernel_rfl,
 i46:=by kernel_rfl,
 i51:=by kernel_rfl,
 i53:=by kernel_rfl,
 i171:=by kernel_rfl,
 i173:=by kernel_rfl,
 i212:=by kernel_rfl,
 i232:=by kernel_rfl,
 i233:=by kernel_rfl,
 m17:=by kernel_rfl,
 m18:=by kernel_rfl,
 m19:=by kernel_rfl }
def atoiL_ren : Go.Shelf.Ren:=⟨fun | 172 => 121 | 244 => 164 | 245 => 165 | 247 => 205 | 279 => 206 | 280 => 207 | 281 => 208 | 282 => 209 | 287 => 226 | 316 => 227 | 171 => 24 | 205 => 228 | 321 => 253 | 322 => 254 | 243 => 64 | 246 => 109 | 283 => 156 | 284 => 157 | 285 => 158 | 286 => 159 | 129 => 184 | 317 => 200 | 318 => 201 | 319 => 202 | 320 => 203 | 337 => 224 | 338 => 225 | n => n,fun | 9 => 9 | 3 => 3 | 75 => 67 | 76 => 68 | 4 => 4 | 5 => 5 | 167 => 274 | 37 => 63 | 0 => 0 | 85 => 275 | 2 => 2 | 168 => 277 | 53 => 239 | 175 => 302 | 46 => 225 | 210 => 306 | 127 => 135 | 145 => 333 | 143 => 331 | 21 => 21 | 171 => 238 | 173 => 242 | 212 => 272 | 51 => 260 | 20 => 20 | 213 => 273 | 232 => 328 | 233 => 329 | 80 => 73 | n => n,fun | 15 => 2 | 16 => 3 | 17 => 1 | 18 => 6 | 19 => 7 | n => n⟩
theorem atoiL : Go.Proofs.LaysC.n172 Tryz.prog atoiL_ren:={
 mixed:=by kernel_rfl,
 f129:=Tryz.func184.trans (congrArg some (by kernel_rfl)),
 f171:=Tryz.func24.trans (congrArg some (by kernel_rfl)),
 f172:=Tryz.func121.trans (congrArg some (by kernel_rfl)),
 f205:=Tryz.func228.trans (congrArg some (by kernel_rfl)),
 f243:=Tryz.func64.trans (congrArg some (by kernel_rfl)),
 f244:=Tryz.func164.trans (congrArg some (by kernel_rfl)),
 f245:=Tryz.func165.trans (congrArg some (by kernel_rfl)),
 f246:=Tryz.func109.trans (congrArg some (by kernel_rfl)),
 f247:=Tryz.func205.trans (congrArg some (by kernel_rfl)),
 f279:=Tryz.func206.trans (congrArg some (by kernel_rfl)),
 f280:=Tryz.func207.trans (congrArg some (by kernel_rfl)),
 f281:=Tryz.func208.trans (congrArg some (by kernel_rfl)),
 f282:=Tryz.func209.trans (congrArg some (by kernel_rfl)),
 f283:=Tryz.func156.trans (congrArg some (by kernel_rfl)),
 f284:=Tryz.func157.trans (congrArg some (by kernel_rfl)),
 f285:=Tryz.func158.trans (congrArg some (by kernel_rfl)),
 f286:=Tryz.func159.trans (congrArg some (by kernel_rfl)),
 f287:=Tryz.func226.trans (congrArg some (by kernel_rfl)),
 f316:=Tryz.func227.trans (congrArg some (by kernel_rfl)),
 f317:=Tryz.func200.trans (congrArg some (by kernel_rfl)),
 f318:=Tryz.func201.trans (congrArg some (by kernel_rfl)),
 f319:=Tryz.func202.trans (congrArg some (by kernel_rfl)),
 f320:=Tryz.func203.trans (congrArg some (by kernel_rfl)),
 f321:=Tryz.func253.trans (congrArg some (by kernel_rfl)),
 f322:=Tryz.func254.trans (congrArg some (by kernel_rfl)),
 f337:=Tryz.func224.trans (congrArg some (by kernel_rfl)),
 f338:=Tryz.func225.trans (congrArg some (by kernel_rfl)),
 t0:=Tryz.underlying0,
 a0:=Tryz.isAgg0,
 z0:=Tryz.sizeOf0,
 v0:=Tryz.zeroValue0,
 t2:=Tryz.underlying2,
 a2:=Tryz.isAgg2,
 z2:=Tryz.sizeOf2,
 v2:=Tryz.zeroValue2,
 t3:=Tryz.underlying3,
 a3:=Tryz.isAgg3,
 z3:=Tryz.sizeOf3,
 v3:=Tryz.zeroValue3,
 t4:=Tryz.underlying4,
 a4:=Tryz.isAgg4,
 z4:=Tryz.sizeOf4,
 v4:=Tryz.zeroValue4,
 t5:=Tryz.underlying5,
 a5:=Tryz.isAgg5,
 z5:=Tryz.sizeOf5,
 v5:=Tryz.zeroValue5,
 t9:=Tryz.underlying9,
 a9:=Tryz.isAgg9,
 z9:=Tryz.sizeOf9,
 v9:=Tryz.zeroValue9,
 t20:=Tryz.underlying20,
 a20:=Tryz.isAgg20,
 z20:=Tryz.sizeOf20,
 v20:=Tryz.zeroValue20,
 t21:=Tryz.underlying21,
 a21:=Tryz.isAgg21,
 z21:=Tryz.sizeOf21,
 v21:=Tryz.zeroValue21,
 t37:=Tryz.underlying63,
 a37:=Tryz.isAgg63,
 z37:=Tryz.sizeOf63,
 v37:=Tryz.zeroValue63,
 t46:=Tryz.underlying225,
 a46:=Tryz.isAgg225,
 z46:=Tryz.sizeOf225,
 v46:=Tryz.zeroValue225,
 t51:=Tryz.underlying260,
 a51:=Tryz.isAgg260,
 z51:=Tryz.sizeOf260,
 v51:=Tryz.zeroValue260,
 t53:=Tryz.underlying239,
 a53:=Tryz.isAgg239,
 z53:=Tryz.sizeOf239,
 v53:=Tryz.zeroValue239,
 t75:=Tryz.underlying67,
 a75:=Tryz.isAgg67,
 z75:=Tryz.sizeOf67,
 v75:=Tryz.zeroValue67,
 t76:=Tryz.underlying68,
 a76:=Tryz.isAgg68,
 z76:=Tryz.sizeOf68,
 v76:=Tryz.zeroValue68,
 t85:=Tryz.underlying275,
 a85:=Tryz.isAgg275,
 z85:=Tryz.sizeOf275,
 v85:=Tryz.zeroValue275,
 t127:=Tryz.underlying135,
 a127:=Tryz.isAgg135,
 z127:=Tryz.sizeOf135,
 v127:=Tryz.zeroValue135,
 t143:=Tryz.underlying331,
 a143:=Tryz.isAgg331,
 z143:=Tryz.sizeOf331,
 v143:=Tryz.zeroValue331,
 t145:=Tryz.underlying333,
 a145:=Tryz.isAgg333,
 z145:=Tryz.sizeOf333,
 v145:=Tryz.zeroValue333,
 t167:=Tryz.underlying274,
 a167:=Tryz.isAgg274,
 z167:=Tryz.sizeOf274,
 v167:=Tryz.zeroValue274,
 t168:=Tryz.underlying277,
 a168:=Tryz.isAgg277,
 z168:=Tryz.sizeOf277,
 v168:=Tryz.zeroValue277,
 t171:=Tryz.underlying238,
 a171:=Tryz.isAgg238,
 z171:=Tryz.sizeOf238,
 v171:=Tryz.zeroValue238,
 t173:=Tryz.underlying242,
 a173:=Tryz.isAgg242,
 z173:=Tryz.sizeOf242,
 v173:=Tryz.zeroValue242,
 t175:=Tryz.underlying302,
 a175:=Tryz.isAgg302,
 z175:=Tryz.sizeOf302,
 v175:=Tryz.zeroValue302,
 t210:=Tryz.underlying306,
 a210:=Tryz.isAgg306,
 z210:=Tryz.sizeOf306,
 v210:=Tryz.zeroValue306,
 t212:=Tryz.underlying272,
 a212:=Tryz.isAgg272,
 z212:=Tryz.sizeOf272,
 v212:=Tryz.zeroValue272,
 t213:=Tryz.underlying273,
 a213:=Tryz.isAgg273,
 z213:=Tryz.sizeOf273,
 t232:=Tryz.underlying328,
 a232:=Tryz.isAgg328,
 z232:=Tryz.sizeOf328,
 v232:=Tryz.zeroValue328,
 t233:=Tryz.underlying329,
 a233:=Tryz.isAgg329,
 z233:=Tryz.sizeOf329,
 v233:=Tryz.zeroValue329,
 g15:=by kernel_rfl,
 g16:=by kernel_rfl,
 g17:=by kernel_rfl,
 g18:=by kernel_rfl,
 g19:=by kernel_rfl,
 t80:=Tryz.underlying73,
 a80:=Tryz.isAgg73,
 z80:=Tryz.sizeOf73,
 v80:=Tryz.zeroValue73,
 i0:=by kernel_rfl,
 i2:=by kernel_rfl,
 i3:=by kernel_rfl,
 i4:=by kernel_rfl,
 i5:=by kernel_rfl,
 i9:=by kernel_rfl,
 i20:=by kernel_rfl,
 i21:=by kernel_rfl,
 i37:=by kernel_rfl,
 i46:=by kernel_rfl,
 i51:=by kernel_rfl,
 i53:=by kernel_rfl,
 i75:=by kernel_rfl,
 i76:=by kernel_rfl,
 i80:=by kernel_rfl,
 i85:=by kernel_rfl,
 i127:=by kernel_rfl,
 i143:=by kernel_rfl,
 i145:=by kernel_rfl,
 i167:=by kernel_rfl,
 i168:=by kernel_rfl,
 i171:=by kernel_rfl,
 i173:=by kernel_rfl,
 i175:=by kernel_rfl,
 i210:=by kernel_rfl,
 i212:=by kernel_rfl,
 i232:=by kernel_rfl,
 i233:=by kernel_rfl,
 m15:=by kernel_rfl,
 m16:=by kernel_rfl,
 m17:=by kernel_rfl,
 m18:=by kernel_rfl,
 m19:=by kernel_rfl,
 c0:=by kernel_rfl,
 c2:=by kernel_rfl,
 c3:=by kernel_rfl,
 c4:=by kernel_rfl,
 c5:=by kernel_rfl,
 c9:=by kernel_rfl,
 c20:=by kernel_rfl,
 c21:=by kernel_rfl,
 c37:=by kernel_rfl,
 c46:=by kernel_rfl,
 c51:=by kernel_rfl,
 c53:=by kernel_rfl,
 c75:=by kernel_rfl,
 c76:=by kernel_rfl,
 c80:=by kernel_rfl,
 c85:=by kernel_rfl,
 c127:=by kernel_rfl,
 c143:=by kernel_rfl,
 c145:=by kernel_rfl,
 c167:=by kernel_rfl,
 c168:=by kernel_rfl,
 c171:=by kernel_rfl,
 c173:=by kernel_rfl,
 c175:=by kernel_rfl,
 c210:=by kernel_rfl,
 c212:=by kernel_rfl,
 c213:=by kernel_rfl,
 c232:=by kernel_rfl,
 c233:=by kernel_rfl }
def cutL_ren : Go.Shelf.Ren:=⟨fun | 145 => 36 | 220 => 74 | 219 => 125 | 217 => 163 | 225 => 169 | 224 => 170 | 267 => 171 | 266 => 204 | 314 => 211 | n => n,fun | 9 => 9 | 4 => 4 | 59 => 90 | 3 => 3 | 5 => 5 | 46 => 225 | 146 => 280 | 51 => 260 | n => n,fun | 1 => 0 | n => n⟩
theorem cutL : Go.Proofs.Lays.n145 Tryz.prog cutL_ren:={
 mixed:=by kernel_rfl,
 f145:=Tryz.func36.trans (congrArg some (by kernel_rfl)),
 f217:=Tryz.func163.trans (congrArg some (by kernel_rfl)),
 f219:=Tryz.func125.trans (congrArg some (by kernel_rfl)),
 f220:=Tryz.func74.trans (congrArg some (by kernel_rfl)),
 f224:=Tryz.func170.trans (congrArg some (by kernel_rfl)),
 f225:=Tryz.func169.trans (congrArg some (by kernel_rfl)),
 f266:=Tryz.func204.trans (congrArg some (by kernel_rfl)),
 f267:=Tryz.func171.trans (congrArg some (by kernel_rfl)),
 f314:=Tryz.func211.trans (congrArg some (by kernel_rfl)),
 t3:=Tryz.underlying3,
 a3:=Tryz.isAgg3,
 z3:=Tryz.sizeOf3,
 v3:=Tryz.zeroValue3,
 t4:=Tryz.underlying4,
 a4:=Tryz.isAgg4,
 z4:=Tryz.sizeOf4,
 v4:=Tryz.zeroValue4,
 t5:=Tryz.underlying5,
 a5:=Tryz.isAgg5,
 z5:=Tryz.sizeOf5,
 v5:=Tryz.zeroValue5,
 t9:=Tryz.underlying9,
 a9:=Tryz.isAgg9,
 z9:=Tryz.sizeOf9,
 v9:=Tryz.zeroValue9,
 t46:=Tryz.underlying225,
 a46:=Tryz.isAgg225,
 z46:=Tryz.sizeOf225,
 v46:=Tryz.zeroValue225,
 t51:=Tryz.underlying260,
 a51:=Tryz.isAgg260,
 z51:=Tryz.sizeOf260,
 v51:=Tryz.zeroValue260,
 t59:=Tryz.underlying90,
 a59:=Tryz.isAgg90,
 z59:=Tryz.sizeOf90,
 v59:=Tryz.zeroValue90,
 t146:=Tryz.underlying280,
 a146:=Tryz.isAgg280,
 z146:=Tryz.sizeOf280,
 v146:=Tryz.zeroValue280,
 g1:=by kernel_rfl }
def splitL_ren : Go.Shelf.Ren:=⟨fun | 146 => 35 | 221 => 73 | 268 => 122 | 138 => 123 | 143 => 124 | 195 => 166 | 197 => 167 | 218 => 168 | 219 => 125 | 260 => 210 | 217 => 163 | 225 => 169 | 224 => 170 | 267 => 171 | 266 => 204 | 314 => 211 | n => n,fun | 9 => 9 | 31 => 88 | 3 => 3 | 4 => 4 | 0 => 0 | 105 => 246 | 21 => 21 | 5 => 5 | 46 => 225 | 119 => 308 | 139 => 311 | 138 => 310 | 146 => 280 | 51 => 260 | n => n,fun | 1 => 0 | 3 => 4 | 4 => 5 | n => n⟩
theorem splitL : Go.Proofs.LaysM.n146 Tryz.prog splitL_ren:={
 mixed:=by kernel_rfl,
 f138:=Tryz.func123.trans (congrArg some (by kernel_rfl)),
 f143:=Tryz.func124.trans (congrArg some (by kernel_rfl)),
 f146:=Tryz.func35.trans (congrArg some (by kernel_rfl)),
 f195:=Tryz.func166.trans (congrArg some (by kernel_rfl)),
 f197:=Tryz.func167.trans (congrArg some (by kernel_rfl)),
 f217:=Tryz.func163.trans (congrArg some (by kernel_rfl)),
 f218:=Tryz.func168.trans (congrArg some (by kernel_rfl)),
 f219:=Tryz.func125.trans (congrArg some (by kernel_rfl)),
 f221:=Tryz.func73.trans (congrArg some (by kernel_rfl)),
 f224:=Tryz.func170.trans (congrArg some (by kernel_rfl)),
 f225:=Tryz.func169.trans (congrArg some (by kernel_rfl)),
 f260:=Tryz.func210.trans (congrArg some (by kernel_rfl)),
 f266:=Tryz.func204.trans (congrArg some (by kernel_rfl)),
 f267:=Tryz.func171.trans (congrArg some (by kernel_rfl)),
 f268:=Tryz.func122.trans (congrArg some (by kernel_rfl)),
 f314:=Tryz.func211.trans (congrArg some (by kernel_rfl)),
 t0:=Tryz.underlying0,
 a0:=Tryz.isAgg0,
 z0:=Tryz.sizeOf0,
 v0:=Tryz.zeroValue0,
 t3:=Tryz.underlying3,
 a3:=Tryz.isAgg3,
 z3:=Tryz.sizeOf3,
 v3:=Tryz.zeroValue3,
 t4:=Tryz.underlying4,
 a4:=Tryz.isAgg4,
 z4:=Tryz.sizeOf4,
 v4:=Tryz.zeroValue4,
 t5:=Tryz.underlying5,
 a5:=Tryz.isAgg5,
 z5:=Tryz.sizeOf5,
 v5:=Tryz.zeroValue5,
 t9:=Tryz.underlying9,
 a9:=Tryz.isAgg9,
 z9:=Tryz.sizeOf9,
 v9:=Tryz.zeroValue9,
 t21:=Tryz.underlying21,
 a21:=Tryz.isAgg21,
 z21:=Tryz.sizeOf21,
 v21:=Tryz.zeroValue21,
 t31:=Tryz.underlying88,
 a31:=Tryz.isAgg88,
 z31:=Tryz.sizeOf88,
 v31:=Tryz.zeroValue88,
 t46:=Tryz.underlying225,
 a46:=Tryz.isAgg225,
 z46:=Tryz.sizeOf225,
 v46:=Tryz.zeroValue225,
 t51:=Tryz.underlying260,
 a51:=Tryz.isAgg260,
 z51:=Tryz.sizeOf260,
 v51:=Tryz.zeroValue260,
 t105:=Tryz.underlying246,
 a105:=Tryz.isAgg246,
 z105:=Tryz.sizeOf246,
 v105:=Tryz.zeroValue246,
 t119:=Tryz.underlying308,
 a119:=Tryz.isAgg308,
 z119:=Tryz.sizeOf308,
 t138:=Tryz.underlying310,
 a138:=Tryz.isAgg310,
 z138:=Tryz.sizeOf310,
 v138:=Tryz.zeroValue310,
 t139:=Tryz.underlying311,
 a139:=Tryz.isAgg311,
 z139:=Tryz.sizeOf311,
 v139:=Tryz.zeroValue311,
 t146:=Tryz.underlying280,
 a146:=Tryz.isAgg280,
 z146:=Tryz.sizeOf280,
 v146:=Tryz.zeroValue280,
 g1:=by kernel_rfl,
 g3:=by kernel_rfl,
 g4:=by kernel_rfl,
 i0:=by kernel_rfl,
 i3:=by kernel_rfl,
 i4:=by kernel_rfl,
 i5:=by kernel_rfl,
 i9:=by kernel_rfl,
 i21:=by kernel_rfl,
 i31:=by kernel_rfl,
 i46:=by kernel_rfl,
 i51:=by kernel_rfl,
 i105:=by kernel_rfl,
 i138:=by kernel_rfl,
 i139:=by kernel_rfl,
 i146:=by kernel_rfl,
 m1:=by kernel_rfl,
 s1_3:=fun w h => Go.Proofs.cell_of_shapedOpen_int (zero:=#[.int .i64 0]) (t:=3) h (of_decide_eq_true (by kernel_rfl)) (by kernel_rfl) rfl (by kernel_rfl) (by kernel_rfl) Tryz.underlying3,
 m3:=by kernel_rfl,
 m4:=by kernel_rfl }
def trimSufL_ren : Go.Shelf.Ren:=⟨fun | 102 => 70 | 209 => 120 | 207 => 72 | n => n,fun | 9 => 9 | 4 => 4 | 3 => 3 | n => n,fun | n => n⟩
theorem trimSufL : Go.Proofs.Lays.n102 Tryz.prog trimSufL_ren:={
 mixed:=by kernel_rfl,
 f102:=Tryz.func70.trans (congrArg some (by kernel_rfl)),
 f207:=Tryz.func72.trans (congrArg some (by kernel_rfl)),
 f209:=Tryz.func120.trans (congrArg some (by kernel_rfl)),
 t3:=Tryz.underlying3,
 a3:=Tryz.isAgg3,
 z3:=Tryz.sizeOf3,
 v3:=Tryz.zeroValue3,
 t4:=Tryz.underlying4,
 a4:=Tryz.isAgg4,
 z4:=Tryz.sizeOf4,
 v4:=Tryz.zeroValue4,
 t9:=Tryz.underlying9,
 a9:=Tryz.isAgg9,
 z9:=Tryz.sizeOf9,
 v9:=Tryz.zeroValue9 }
def indexByteL_ren : Go.Shelf.Ren:=⟨fun | 137 => 119 | 217 => 163 | 266 => 204 | n => n,fun | 9 => 9 | 5 => 5 | 3 => 3 | n => n,fun | n => n⟩
theorem indexByteL : Go.Proofs.Lays.n137 Tryz.prog indexByteL_ren:={
 mixed:=by kernel_rfl,
 f137:=Tryz.func119.trans (congrArg some (by kernel_rfl)),
 f217:=Tryz.func163.trans (congrArg some (by kernel_rfl)),
 f266:=Tryz.func204.trans (congrArg some (by kernel_rfl)),
 t3:=Tryz.underlying3,
 a3:=Tryz.isAgg3,
 z3:=Tryz.sizeOf3,
 v3:=Tryz.zeroValue3,
 t5:=Tryz.underlying5,
 a5:=Tryz.isAgg5,
 z5:=Tryz.sizeOf5,
 v5:=Tryz.zeroValue5,
 t9:=Tryz.underlying9,
 a9:=Tryz.isAgg9,
 z9:=Tryz.sizeOf9,
 v9:=Tryz.zeroValue9 }
def writeL_ren : Go.Shelf.Ren:=⟨fun | 166 => 21 | 240 => 62 | 276 => 108 | n => n,fun | 20 => 20 | 70 => 62 | 9 => 9 | 3 => 3 | 75 => 67 | 0 => 0 | 72 => 65 | 37 => 63 | 4 => 4 | 164 => 191 | 80 => 73 | 5 => 5 | n => n,fun | n => n⟩
theorem writeL : Go.Proofs.Lays.n166 Tryz.prog writeL_ren:={
 mixed:=by kernel_rfl,
 f166:=Tryz.func21.trans (congrArg some (by kernel_rfl)),
 f240:=Tryz.func62.trans (congrArg some (by kernel_rfl)),
 f276:=Tryz.func108.trans (congrArg some (by kernel_rfl)),
 t0:=Tryz.underlying0,
 a0:=Tryz.isAgg0,
 z0:=Tryz.sizeOf0,
 v0:=Tryz.zeroValue0,
 t3:=Tryz.underlying3,
 a3:=Tryz.isAgg3,
 z3:=Tryz.sizeOf3,
 v3:=Tryz.zeroValue3,
 t4:=Tryz.underlying4,
 a4:=Tryz.isAgg4,
 z4:=Tryz.sizeOf4,
 v4:=Tryz.zeroValue4,
 t9:=Tryz.underlying9,
 a9:=Tryz.isAgg9,
 z9:=Tryz.sizeOf9,
 v9:=Tryz.zeroValue9,
 t20:=Tryz.underlying20,
 a20:=Tryz.isAgg20,
 z20:=Tryz.sizeOf20,
 v20:=Tryz.zeroValue20,
 t37:=Tryz.underlying63,
 a37:=Tryz.isAgg63,
 z37:=Tryz.sizeOf63,
 v37:=Tryz.zeroValue63,
 t70:=Tryz.underlying62,
 a70:=Tryz.isAgg62,
 z70:=Tryz.sizeOf62,
 v70:=Tryz.zeroValue62,
 t72:=Tryz.underlying65,
 a72:=Tryz.isAgg65,
 z72:=Tryz.sizeOf65,
 v72:=Tryz.zeroValue65,
 t75:=Tryz.underlying67,
 a75:=Tryz.isAgg67,
 z75:=Tryz.sizeOf67,
 v75:=Tryz.zeroValue67,
 t164:=Tryz.underlying191,
 a164:=Tryz.isAgg191,
 z164:=Tryz.sizeOf191,
 v164:=Tryz.zeroValue191 }
def stringL_ren : Go.Shelf.Ren:=⟨fun | 169 => 25 | n => n,fun | 70 => 62 | 9 => 9 | 0 => 0 | 72 => 65 | 37 => 63 | 127 => 135 | 3 => 3 | 5 => 5 | n => n,fun | n => n⟩
theorem stringL : Go.Proofs.Lays.n169 Tryz.prog stringL_ren:={
 mixed:=by kernel_rfl,
 f169:=Tryz.func25.trans (congrArg some (by kernel_rfl)),
 t0:=Tryz.underlying0,
 a0:=Tryz.isAgg0,
 z0:=Tryz.sizeOf0,
 v0:=Tryz.zeroValue0,
 t3:=Tryz.underlying3,
 a3:=Tryz.isAgg3,
 z3:=Tryz.sizeOf3,
 v3:=Tryz.zeroValue3,
 t9:=Tryz.underlying9,
 a9:=Tryz.isAgg9,
 z9:=Tryz.sizeOf9,
 v9:=Tryz.zeroValue9,
 t37:=Tryz.underlying63,
 a37:=Tryz.isAgg63,
 z37:=Tryz.sizeOf63,
 v37:=Tryz.zeroValue63,
 t70:=Tryz.underlying62,
 a70:=Tryz.isAgg62,
 z70:=Tryz.sizeOf62,
 v70:=Tryz.zeroValue62,
 t72:=Tryz.underlying65,
 a72:=Tryz.isAgg65,
 z72:=Tryz.sizeOf65,
 v72:=Tryz.zeroValue65,
 t127:=Tryz.underlying135,
 a127:=Tryz.isAgg135,
 z127:=Tryz.sizeOf135,
 v127:=Tryz.zeroValue135 }
set_option maxRecDepth 20000 in
theorem writeX : Builder.Extra Tryz.prog writeL_ren:={
 sizeBuilder:=by kernel_rfl,
 liesBuilder:=by kernel_rfl,
 t5:=Tryz.underlying5,
 a5:=Tryz.isAgg5,
 z5:=Tryz.sizeOf5,
 v5:=Tryz.zeroValue5,
 infoByte:=by kernel_rfl,
 cellsByte:=by kernel_rfl,
 sizeByte:=by kernel_rfl,
 neB5:=by decide }
set_option maxRecDepth 20000 in
theorem stringX : Builder.Extra Tryz.prog stringL_ren:={
 sizeBuilder:=by kernel_rfl,
 liesBuilder:=by kernel_rfl,
 t5:=Tryz.underlying5,
 a5:=Tryz.isAgg5,
 z5:=Tryz.sizeOf5,
 v5:=Tryz.zeroValue5,
 infoByte:=by kernel_rfl,
 cellsByte:=by kernel_rfl,
 sizeByte:=by kernel_rfl,
 neB5:=by decide }
structure LaidV (w : World) : Prop where
 tab : Lib.TabIs Tryz.prog w "internal/strconv.uint64pow10" .u64 Lib.pow10Tab
 syn : ∃ tp p, w.var? Tryz.prog "strconv.ErrSyntax" = some #[.iface tp p]
 rng : ∃ tp p, w.var? Tryz.prog "strconv.ErrRange" = some #[.iface tp p]
 max : ∃ m,w.cell? ⟨splitL_ren.g 1,0,none⟩ = some (.int .i64 m) ∧ splitL_ren.g 1 < w.heap.size
theorem var_keep {w w' : World} (hb : Below w.heap.size w w') {n : String} {cs : Array Value} (h : w.var? Tryz.prog n = some cs) : w'.var? Tryz.prog n = some cs:=by
 unfold World.var? at h ⊢
 cases hg : Tryz.prog.globalNamed n with
 | none => rw [hg] at h;cases h
 | some g =>
  rw [hg] at h
  simp only [Option.bind_some] at h ⊢
  have hlt : g < w.heap.size:=by
   rcases Nat.lt_or_ge g w.heap.size with h1 | h1
   ·exact h1
   ·rw [Array.getElem?_eq_none h1] at h;cases h
  rw [hb.block g hlt]
  exact h
theorem LaidV.below {w w' : World} (h : LaidV w) (hb : Below w.heap.size w w') : LaidV w':=by
 obtain ⟨h1,⟨t,p,h2⟩,⟨t3,p3,h3⟩,m,h4,h5⟩:=h
 exact ⟨var_keep hb h1,⟨t,p,var_keep hb h2⟩,⟨t3,p3,var_keep hb h3⟩,m,(hb.cell (p:=⟨splitL_ren.g 1,0,none⟩) h5).trans h4,Nat.lt_of_lt_of_le h5 hb.size⟩
def str (l : Bs) : Value:=.string ⟨l.toArray⟩
theorem str_data (l : Bs) : (⟨l.toArray⟩ : ByteArray).data.toList = l:=by simp
theorem str_of (s : ByteArray) : Value.string s = str s.data.toList:=by unfold str;simp
theorem str_size (l : Bs) : (⟨l.toArray⟩ : ByteArray).size = l.length:=by rw [Lib.size_eq,str_data]
theorem below_drewT (w : World) (n : Nat) : Below w.heap.size w (w.drewN n):=⟨rfl,rfl,rfl,Nat.le_refl _,fun _ _ => rfl⟩
theorem itoa_any {n : Int} (h0 : -9223372036854775808 ≤ n) (h1 : n ≤ 9223372036854775807) {w : World} (hL : LaidV w) :
  Calls Tryz.prog 24 #[.int .i64 n] w fun e w' => e = .returned (str (Lib.itoa n)) ∧ Below w.heap.size w w' :=
 (Any.strconv_Itoa itoaL n h0 h1 w hL.tab).mono fun e w' ⟨he,k,os,hw⟩ => ⟨he,hw ▸ Lib.below_grow _ w (Nat.le_refl _) k os⟩
theorem cutT_any (s : Bs) (sep : Bs) {w : World} (hL : LaidV w) (hs : s.length < 4294967281) :
  Calls Tryz.prog 36 #[str s,str sep] w fun e w' => e = .returned (.tuple #[str (Lib.cut s sep).1,str (Lib.cut s sep).2.1,.bool (Lib.cut s sep).2.2]) ∧ Below w.heap.size w w':=by
 obtain ⟨m,hm,-⟩:=hL.max
 refine (Any.strings_Cut cutL ⟨s.toArray⟩ ⟨sep.toArray⟩ m w (by rw [str_size];exact hs) hm).mono ?_
 rintro e w' ⟨rfl,n,rfl⟩
 rw [str_data,str_data]
 exact ⟨rfl,below_drewT w n⟩
theorem trimSuf_any (s p : Bs) (w : World) (hs : s.length ≤ 9223372036854775807) :
  Calls Tryz.prog 70 #[str s,str p] w fun e w' => e = .returned (str (Lib.trimSuffix s p)) ∧ w' = w:=by
 refine (Any.strings_TrimSuffix trimSufL ⟨s.toArray⟩ ⟨p.toArray⟩ w (by rw [str_size];exact hs)).mono ?_
 rintro e w' ⟨rfl,rfl⟩
 rw [str_data,str_data]
 exact ⟨rfl,rfl⟩
theorem indexByte_any (s : Bs) (c : UInt8) (w : World) : Calls Tryz.prog 119 #[str s,.int .u8 c.toNat] w fun e w' => e = .returned (.int .i64 (Lib.indexByte s c)) ∧ w' = w:=by
 refine (Any.strings_IndexByte indexByteL ⟨s.toArray⟩ (c.toNat : Int) w).mono ?_
 rintro e w' ⟨rfl,rfl⟩
 rw [str_data,show ((c.toNat : Int).toNat).toUInt8 = c by simp]
 exact ⟨rfl,rfl⟩
theorem split_any (s : Bs) (c : UInt8) {w : World} (hL : LaidV w) (hs : s.length < 4294967281) :
  Calls Tryz.prog 35 #[str s,str [c]] w fun e w' => e = .returned (.slice (some ⟨w.heap.size,0,none⟩) (spl c s).length (spl c s).length) ∧ w' = w.alloc (.cells ((spl c s).map str).toArray 9):=by
 obtain ⟨m,hm,-⟩:=hL.max
 refine (Any.strings_Split { splitL with } splitL.i9 ⟨s.toArray⟩ ⟨[c].toArray⟩ m w (by rw [str_size];exact hs) hm (by rw [str_size];simp)).mono ?_
 rintro e w' ⟨rfl,rfl⟩
 have h:=splitB_spl ⟨s.toArray⟩ c
 rw [str_data] at h
 have hl : (spl c s).length = Lib.countB ⟨s.toArray⟩ ⟨[c].toArray⟩ + 1:=by
  rw [← h,List.length_map,Lib.splitB_all _ (by rw [str_size];simp) 0 _ _ rfl]
 refine ⟨by rw [hl],?_⟩
 have e2 : (Lib.splitB ⟨[c].toArray⟩ 0 (Lib.countB ⟨s.toArray⟩ ⟨[c].toArray⟩) ⟨s.toArray⟩).map Value.string = (spl c s).map str:=by
  rw [← h,List.map_map]
  exact List.map_congr_left fun x _ => str_of x
 rw [e2]
 rfl
theorem atoi_any (s : Bs) {w : World} (hL : LaidV w) (hs : s.length ≤ 281474976710656) :
  Calls Tryz.prog 121 #[str s] w fun e w' => ∃ v,e = .returned (.tuple #[.int .i64 (num0 s),v]) ∧ v.oneCell' = true ∧ Below w.heap.size w w':=by
 unfold num0
 cases h : Lib.atoiAll s with
 | ok v =>
  refine (Any.strconv_Atoi_ok atoiL ⟨s.toArray⟩ (by rw [str_size];omega) v (by rw [str_data];exact h) w).mono ?_
  rintro e w' ⟨rfl,hw⟩
  refine ⟨_,rfl,rfl,?_⟩
  rcases hw with rfl | ⟨t,rfl⟩
  ·exact Below.refl _ _
  ·exact Lib.bytesWorld_below _ _ _
 | range =>
  obtain ⟨tp,p,hv⟩:=hL.rng
  refine (Any.strconv_Atoi_range_var atoiL ⟨s.toArray⟩ (by rw [str_size];exact hs) (by rw [str_data];exact h) tp p w hv).mono ?_
  rintro e w' ⟨N,rfl,-,-,hb⟩
  rw [str_data]
  exact ⟨_,rfl,rfl,hb⟩
 | _ =>
  obtain ⟨tp,p,hv⟩:=hL.syn
  refine (Any.strconv_Atoi_syntax_var atoiL ⟨s.toArray⟩ (by rw [str_size];exact hs) (by rw [str_data];exact h) tp p w hv).mono ?_
  rintro e w' ⟨N,rfl,-,-,hb⟩
  exact ⟨_,rfl,rfl,hb⟩
def IsB (B b : Nat) (l : Bs) (w : World) : Prop:=Lib.IsBuilderF 65 5 B b (Lib.byteCells l) w
theorem write_any {B b : Nat} {l s : Bs} {w : World} (h : IsB B b l w) (hlen : l.length + s.length ≤ 140737488355328) (hB : B ≤ w.heap.size) :
  Calls Tryz.prog 21 #[.pointer (some ⟨b,0,none⟩),str s] w fun e w' => (∃ v,e = .returned v) ∧ IsB B b (l ++ s) w' ∧ Below B w w' ∧ Lib.OthersKept 5 (some b) w w':=by
 refine (Any.Builder_WriteString_k writeL writeX B b _ ⟨s.toArray⟩ w h (by rw [Lib.byteCells_length,str_size];exact hlen) hB).mono ?_
 rintro e w' ⟨rfl,h1,h2,h3⟩
 rw [Lib.strCells_eq,str_data,← Lib.byteCells_append] at h1
 exact ⟨⟨_,rfl⟩,.inr h1,h2,h3⟩
theorem bstring_any {B b : Nat} {l : Bs} {w : World} (h : IsB B b l w) (hB : B ≤ w.heap.size) :
  Calls Tryz.prog 25 #[.pointer (some ⟨b,0,none⟩)] w fun e w' => e = .returned (str l) ∧ Below B w w':=by
 refine (Any.Builder_String_any_k stringL stringX B b l w h hB).mono ?_
 rintro e w' ⟨rfl,-,h2,-⟩
 exact ⟨rfl,h2⟩
end Go.Proofs.YtfdillpofciicaaGreatDoor
namespace Go.Proofs.YtfdillpofciicaaGreatDoor
open Go
theorem ReturnsInHanded.leaving {a : Assume} {C : Checked} {os : Os} {f : FuncId} {r : Reach} {Pre : World → Array Value → Prop} {Post : World → Array Value → Value → World → Prop}
  (h : ReturnsInHanded a C os f r Pre Post) : ReturnsInLeavingWide a C os f r Pre Post:=fun enter => by
 obtain ⟨k1,k2,k3,k4,all⟩:=h enter
 refine ⟨k1,k2,k3,k4,fun w tape i hx => ?_⟩
 obtain ⟨n,v,w',h1,h2,h3,h4,⟨m,last,e1,e2,hat⟩,h6⟩:=all w tape i hx
 exact ⟨n,v,w',h1,h2,h3,h4,⟨m,last,e1,e2,⟨hat.2.1,onlyLeaving_of_quiet hat.1,hat.2.2⟩⟩,h6⟩
end Go.Proofs.YtfdillpofciicaaGreatDoor
namespace Go.Proofs.YtfdillpofciicaaGreatDoor
open Go Go.ChangeShapes Go.WideShapes Go.ChangeAt Go.RowKit
theorem err_row (u : TypeId) (h : Tryz.prog.typeName? 3 u = some "*errors.errorString") : u = 331 :=
 typeName_ptr_named (nm := "errors.errorString") (by rw [show "*" ++ "errors.errorString" = "*errors.errorString" by decide]; kernel_rfl) (by kernel_rfl) (by decide) u (by rw [show "*" ++ "errors.errorString" = "*errors.errorString" by decide]; exact h)
theorem laidV_of {W : World} (hs : W.ShapedOpen Tryz.prog) (hh : laidMetH Tryz.prog Rows.textPrintsRow.laid W) : LaidV W:=by
 rw [MakeChecks.laidMetH_plain _ _ _ (by kernel_rfl)] at hh
 have h : laidMet Tryz.prog [("math/bits.deBruijn32tab", Rows.laid_math_bits_deBruijn32tab), ("math/bits.deBruijn64tab", Rows.laid_math_bits_deBruijn64tab), ("internal/strconv.uint64pow10", Rows.laid_internal_strconv_uint64pow10), ("unicode/utf8.acceptRanges", Rows.laid_unicode_utf8_acceptRanges), ("strconv.ErrRange", Rows.laid_strconv_ErrRange), ("strconv.ErrSyntax", Rows.laid_strconv_ErrSyntax), ("unicode/utf8.first", Rows.laid_unicode_utf8_first)] W := hh
 have h3:=h.tail.tail
 have h5:=h3.tail.tail
 have h6:=h5.tail
 have htab : Lib.TabIs Tryz.prog W "internal/strconv.uint64pow10" .u64 Lib.pow10Tab :=
  Lib.tabIs_of_head (g:=1) (n:=20) (t:=272) (e:=239) (by kernel_rfl) (by kernel_rfl) (by kernel_rfl) (by kernel_rfl) (by kernel_rfl) (by kernel_rfl) h3
 obtain ⟨a1,s1,e1,-⟩:=laid_sentinel (g:=3) (ti:=67) (tp:=331) (te:=333) (ts:=9) h5 (by kernel_rfl) (by kernel_rfl) Tryz.underlying67 err_row (by kernel_rfl) Tryz.underlying333 rfl rfl (by kernel_rfl) (by kernel_rfl) (by kernel_rfl)
 obtain ⟨a2,s2,e2,-⟩:=laid_sentinel (g:=2) (ti:=67) (tp:=331) (te:=333) (ts:=9) h6 (by kernel_rfl) (by kernel_rfl) Tryz.underlying67 err_row (by kernel_rfl) Tryz.underlying333 rfl rfl (by kernel_rfl) (by kernel_rfl) (by kernel_rfl)
 obtain ⟨m,hm⟩:=splitL.s1_3 W hs
 refine ⟨htab,⟨_,_,e2⟩,⟨_,_,e1⟩,m,hm,?_⟩
 unfold World.cell? at hm
 rcases Nat.lt_or_ge (splitL_ren.g 1) W.heap.size with h | h
 ·exact h
 ·rw [Array.getElem?_eq_none h] at hm;simp at hm
section
variable {H : Type} {enc : TypeId × Value → H}
theorem returnsInHanded_of_change_shaped {a : Assume} {C : Checked} {os : Os} {f : FuncId} {fn : Func} {s : ChangeSpec} {conds : List PathCond} {apart fresh handsOn again : Bool} {X : World → Array Value → Prop}
  (hX : ∀ (w w' : World) (args : Array Value),w.heap = w'.heap → X w args → X w' args)
  (own : ownKnob C.prog.godebug = none) (started : os.Started) (noInit : C.prog.inits.idxOf? f = none) (hfn : C.prog.funcs[f]? = some fn)
  (witness : ∃ (w : World) (tape : Tape) (i : Input),w.os = os ∧ (w.forCall tape i).Shaped C.prog ∧ i.vars = [] ∧ Input.okWide C.prog (w.forCall tape i) .any w.heap.size f i ∧
   ((s.pre enc C.prog fn conds apart (w.forCall tape i).memory i.args ∧ X (w.forCall tape i).memory i.args) ∧ sizedMet enc C.prog fn (OpenSpec.ofChange s) apart (w.forCall tape i).memory i.args) ∧ a.holds C.prog (lone (Frame.enter C.prog f i.args .normal) [] (w.forCall tape i)))
  (contract : ∀ (W : World) (base : Nat) (args : Array Value) (ds gs : List (DataW H)) (before : List MemPlace),W.ShapedOpen C.prog →
   (∀ (j : Nat) t v,fn.params[j]? = some t → args[j]? = some v → Value.okWide C.prog W .any base t v) →
   DataW.Whole enc C.prog fn.params.toList s.vars apart W args.toList ds gs before →
   conds.all (PathCond.test C.prog ⟨fn.params.toList,ds,s.plain.varTypes C.prog,gs⟩) = true →
   (DataW.weightsEach C.prog (fn.params.toList ++ s.plain.varTypes C.prog) (ds ++ gs)).all (· ≤ reachBytes) = true → X W args →
   a.holds C.prog (lone (Frame.enter C.prog f args .normal) [] W) →
   Calls C.prog f args W fun e W' => ∃ v,e = .returned v ∧ s.post enc C.prog fn apart fresh handsOn again W args v W') :
  ReturnsInHanded a C os f .any (fun w args => (s.pre enc C.prog fn conds apart w args ∧ X w args) ∧ sizedMet enc C.prog fn (OpenSpec.ofChange s) apart w args) (s.post enc C.prog fn apart fresh handsOn again):=by
 refine returnsInHanded_of_calls own started noInit witness ?_
 intro w tape i _ hsh _ hok hpre hholds
 obtain ⟨_,_,_,fn',hfn',_,_,_,_,hval⟩:=hok
 have e : fn' = fn:=Option.some.inj (hfn'.symm.trans hfn)
 subst e
 obtain ⟨⟨⟨ds,gs,before,hw,hc⟩,hx⟩,hz⟩:=hpre
 have hw':=DataW.Whole.of_heap (w':=w.forCall tape i) (by rfl) hw
 refine (contract (w.forCall tape i) w.heap.size i.args ds gs before hsh hval hw' hc (hz.weights hw) (hX _ _ _ (by rfl) hx) hholds).mono fun e W' ⟨v,he,hp⟩ => ?_
 subst he
 exact ChangeSpec.post_blind hp
end
theorem law_lifted_laid {H : Type} {enc : TypeId × Value → H} {C : Checked} {os : Os} (started : os.Started) {f : FuncId} {fn : Func} {s : ChangeSpec} {tb : TypeId} {laid : List (String × DataW Unit)}
  (own : ownKnob C.prog.godebug = none) (hl : laidOutB C.prog = true) (hno : C.prog.inits.idxOf? f = none) (hfn : C.prog.funcs[f]? = some fn)
  (hr : ∀ t ∈ fn.params.toList,C.prog.readableRec t = true ∧ t < C.prog.types.size) (hv : s.vars = []) (hres : fn.resultTypes = #[tb]) (hb : C.prog.underlying tb = some .bool)
  (hspec : ∀ (ds : List (DataW H)),ds.length = fn.params.toList.length → s.fn H ds = { results:=[.lit (.bool true)],args:=ds })
  (witness : ∃ (w : World) (tape : Tape) (i : Input),w.os = os ∧ (w.forCall tape i).Shaped C.prog ∧ i.vars = [] ∧ Input.okWide C.prog (w.forCall tape i) .any w.heap.size f i ∧
   ((s.pre enc C.prog fn [] false (w.forCall tape i).memory i.args ∧ laidMetH C.prog laid (w.forCall tape i).memory) ∧ sizedMet enc C.prog fn (OpenSpec.ofChange s) false (w.forCall tape i).memory i.args) ∧ Assume.holds {} C.prog (lone (Frame.enter C.prog f i.args .normal) [] (w.forCall tape i)))
  (hc : ∀ (W : World) (base : Nat) (args : Array Value) (ds : List (DataW H)) (ps : List MemPlace),W.ShapedOpen C.prog → laidMetH C.prog laid W →
   (∀ (j : Nat) t v,fn.params[j]? = some t → args[j]? = some v → Value.okWide C.prog W .any base t v) →
   DataW.TrodAll enc C.prog W 0 (fun _ => true) true fn.params.toList args.toList ds ps → (∀ p ∈ ps,p.block < W.heap.size) →
   (∀ (j : Nat) t d,fn.params.toList[j]? = some t → ds[j]? = some d → ∀ m ∈ d.weights C.prog t,m ≤ reachBytes) →
   Calls C.prog f args W fun e W' => e = .returned (.bool true) ∧ Below W.heap.size W W') :
  ReturnsInHanded {} C os f .any (fun w args => (s.pre enc C.prog fn [] false w args ∧ laidMetH C.prog laid w) ∧ sizedMet enc C.prog fn (OpenSpec.ofChange s) false w args) (s.post enc C.prog fn false true false false):=by
 refine returnsInHanded_of_change_shaped (X:=fun w _ => laidMetH C.prog laid w) (fun _ _ _ hh h => h.of_heap hh) own started hno hfn witness ?_
 intro W base args ds gs before hsh hval hW _ hsz hX _
 have hlt:=hW.lt
 have hW':=hW
 obtain ⟨p,q,hA,_,rfl,_,_⟩:=hW
 refine (hc W base args ds p hsh hX hval hA (fun x hx => hlt x (by simp [hx])) ?_).mono ?_
 ·intro j t d ht hd m hm
  have h1 : (fn.params.toList ++ s.plain.varTypes C.prog)[j]? = some t:=by
   rw [List.getElem?_append_left (List.getElem?_eq_some_iff.1 ht).1];exact ht
  have h2 : (ds ++ gs)[j]? = some d:=by
   rw [List.getElem?_append_left (List.getElem?_eq_some_iff.1 hd).1];exact hd
  have:=List.all_eq_true.1 hsz m (DataW.weights_mem_each h1 h2 m hm)
  simpa using this
 ·rintro e W' ⟨rfl,hB⟩
  exact ⟨_,rfl,law_post hl hr hv hres hb hspec hW' hB⟩
theorem holds_tied_goes (Lk : Looks) {p : Pinned} {s : OpenSpec} {c : OpenClaim} (kinds : List LaidKind) (tests : Bool) (har : Bool × String) (lk goes : Bool)
  (hc : c.holds p s) (hw : c.wfByText s = true) (htie : c.laidByTextAt Lk p kinds tests)
  (hst : c.start = .entering) (hnb : c.noBlocks = false ∧ c.again = false) (hm : p.checked.prog.mainIs = some (har.1,har.2.toList)) (hn : (!har.1 && har.2.isEmpty && !lk) = false)
  (hl : ∀ f fn,p.checked.prog.funcNamed c.func = some f → p.checked.prog.funcs[f]? = some fn → lk = p.checked.prog.looks [] ∧ ∀ (j : Nat) t,fn.params[j]? = some t → p.checked.prog.wantsStandIn t = false)
  (hg : goes = c.goesBy p.checked.prog) :
  Claim7.holds p (.plain s) { stood:={ row:=c,standIns:=[],harness:=har,looks:=lk },kinds:=[],alts:=[],goes:=goes,laidByText:=true,laidKinds:=kinds,laidTests:=tests,laidLooks:=Lk }:=by
 have h6 : Claim7.isSixth { stood:={ row:=c,standIns:=[],harness:=har,looks:=lk },kinds:=[] } = false:=by simpa [Claim7.isSixth] using hn
 exact ⟨Claim7.tied_new_at Lk kinds tests (Claim7.new_of_sixth hc har lk hst hnb hm h6 hl) hw,fun D hD => (by cases hD),htie,(fun h => by cases h),hg⟩
end Go.Proofs.YtfdillpofciicaaGreatDoor
