import Derived.Shelf.Strings.SplitShaped
import Derived.Shelf.Strings.Cut
import Derived.Shelf.Strings.Prefix
import Derived.Shelf.Strings.BuilderK
import Derived.Shelf.Strconv.Itoa3
import Derived.Shelf.Strconv.AtoiAll
import Derived.Shelf.Strconv.ErrVarAll
import Derived.Shelf.Small.Strs
import Derived.Shelf.LaysM
import Derived.Shelf.LaysC
import Derived.Lib.AppendIntMem
import Derived.Lib.AtoiErrMem
import Derived.Test.YtoheblfpjinmnaaGreatDoorTextParsesJ2
import Derived.Handed
import Derived.Leaving
import Derived.Conc.LeavingOf
import Derived.Stop.LaidErr
import Derived.Lib.LaidTab
import Derived.Lay
import Derived.LaidMore
import Derived.SevenTiedAt
import Derived.Test.YtoheblfpjinmnaaGreatDoorCards
import Derived.Test.YtoheblfpjinmnaaGreatDoorTie
set_option linter.unusedVariables false
set_option linter.unusedSimpArgs false
/- A part of the proof that TextParses returns true. -/
namespace Go.Proofs.YtoheblfpjinmnaaGreatDoor
open Go Go.RowKit Go.Shelf
def itoaL_ren : Go.Shelf.Ren:=⟨fun | 171 => 33 | 243 => 55 | 246 => 77 | 283 => 108 | 284 => 109 | 285 => 110 | 286 => 111 | 129 => 125 | 317 => 124 | 318 => 126 | 319 => 127 | 320 => 128 | 337 => 131 | 338 => 132 | n => n,fun | 3 => 3 | 9 => 9 | 2 => 2 | 4 => 4 | 171 => 172 | 0 => 0 | 53 => 173 | 37 => 72 | 5 => 5 | 173 => 176 | 212 => 201 | 51 => 178 | 20 => 20 | 213 => 202 | 46 => 139 | 232 => 214 | 233 => 215 | n => n,fun | 17 => 3 | 18 => 6 | 19 => 7 | n => n⟩
theorem itoaL : Go.Proofs.LaysM.n171 Tryz.prog itoaL_ren:={
 mixed:=by kernel_rfl,
 f129:=Tryz.func125.trans (congrArg some (by kernel_rfl)),
 f171:=Tryz.func33.trans (congrArg some (by kernel_rfl)),
 f243:=Tryz.func55.trans (congrArg some (by kernel_rfl)),
 f246:=Tryz.func77.trans (congrArg some (by kernel_rfl)),
 f283:=Tryz.func108.trans (congrArg some (by kernel_rfl)),
 f284:=Tryz.func109.trans (congrArg some (by kernel_rfl)),
 f285:=Tryz.func110.trans (congrArg some (by kernel_rfl)),
 f286:=Tryz.func111.trans (congrArg some (by kernel_rfl)),
 f317:=Tryz.func124.trans (congrArg some (by kernel_rfl)),
 f318:=Tryz.func126.trans (congrArg some (by kernel_rfl)),
 f319:=Tryz.func127.trans (congrArg some (by kernel_rfl)),
 f320:=Tryz.func128.trans (congrArg some (by kernel_rfl)),
 f337:=Tryz.func131.trans (congrArg some (by kernel_rfl)),
 f338:=Tryz.func132.trans (congrArg some (by kernel_rfl)),
 t0:=Tryz.underlying0,
 a0:=Tryz.isAgg0,
 z0:=Tryz.sizeOf0,
 v0:=Tryz.zeroValue0,
 t2:=Tryz.underlying2,
 a2:=Tryz.isAgg2,
 z2:=Tryz.sizeOf2,
 v2:=Tryz.zeroValue2,
 t3:=Tryz.underlying3,
 a3:=Tryz.isAgg3,
 z3:=Tryz.sizeOf3,
 v3:=Tryz.zeroValue3,
 t4:=Tryz.underlying4,
 a4:=Tryz.isAgg4,
 z4:=Tryz.sizeOf4,
 v4:=Tryz.zeroValue4,
 t5:=Tryz.underlying5,
 a5:=Tryz.isAgg5,
 z5:=Tryz.sizeOf5,
 v5:=Tryz.zeroValue5,
 t9:=Tryz.underlying9,
 a9:=Tryz.isAgg9,
 z9:=Tryz.sizeOf9,
 v9:=Tryz.zeroValue9,
 t20:=Tryz.underlying20,
 a20:=Tryz.isAgg20,
 z20:=Tryz.sizeOf20,
 v20:=Tryz.zeroValue20,
 t37:=Tryz.underlying72,
 a37:=Tryz.isAgg72,
 z37:=Tryz.sizeOf72,
 v37:=Tryz.zeroValue72,
 t46:=Tryz.underlying139,
 a46:=Tryz.isAgg139,
 z46:=Tryz.sizeOf139,
 v46:=Tryz.zeroValue139,
 t51:=Tryz.underlying178,
 a51:=Tryz.isAgg178,
 z51:=Tryz.sizeOf178,
 v51:=Tryz.zeroValue178,
 t53:=Tryz.underlying173,
 a53:=Tryz.isAgg173,
 z53:=Tryz.sizeOf173,
 v53:=Tryz.zeroValue173,
 t171:=Tryz.underlying172,
 a171:=Tryz.isAgg172,
 z171:=Tryz.sizeOf172,
 v171:=Tryz.zeroValue172,
 t173:=Tryz.underlying176,
 a173:=Tryz.isAgg176,
 z173:=Tryz.sizeOf176,
 v173:=Tryz.zeroValue176,
 t212:=Tryz.underlying201,
 a212:=Tryz.isAgg201,
 z212:=Tryz.sizeOf201,
 v212:=Tryz.zeroValue201,
 t213:=Tryz.underlying202,
 a213:=Tryz.isAgg202,
 z213:=Tryz.sizeOf202,
 t232:=Tryz.underlying214,
 a232:=Tryz.isAgg214,
 z232:=Tryz.sizeOf214,
 v232:=Tryz.zeroValue214,
 t233:=Tryz.underlying215,
 a233:=Tryz.isAgg215,
 z233:=Tryz.sizeOf215,
 v233:=Tryz.zeroValue215,
 g17:=by kernel_rfl,
 g18:=by kernel_rfl,
 g19:=by kernel_rfl,
 i0:=by kernel_rfl,
 i2:=by kernel_rfl,
 i3:=by kernel_rfl,
 i4:=by kernel_rfl,
 i5:=by kernel_rfl,
 i9:=by kernel_rfl,
 i20:=by kernel_rfl,
 i37:=by kernel_rfl,
 i46:=by kernel_rfl,
 i51:=by kernel_rfl,
 i53:=by kernel_rfl,
 i171:=by kernel_rfl,
 i173:=by kernel_rfl,
 i212:=by kernel_rfl,
 i232:=by kernel_rfl,
 i233:=by kernel_rfl,
 m17:=by kernel_rfl,
 m18:=by kernel_rfl,
 m19:=by kernel_rfl }
def atoiL_ren : Go.Shelf.Ren:=⟨fun | 172 => 46 | 244 => 66 | 245 => 67 | 247 => 93 | 279 => 94 | 280 => 95 | 281 => 96 | 282 => 97 | 287 => 117 | 316 => 118 | 171 => 33 | 205 => 119 | 321 => 129 | 322 => 130 | 243 => 55 | 246 => 77 | 283 => 108 | 284 => 109 | 285 => 110 | 286 => 111 | 129 => 125 | 317 => 124 | 318 => 126 | 319 => 127 | 320 => 128 | 337 => 131 | 338 => 132 | n => n,fun | 9 => 9 | 3 => 3 | 75 => 76 | 76 => 77 | 4 => 4 | 5 => 5 | 167 => 149 | 37 => 72 | 0 => 0 | 85 => 150 | 2 => 2 | 168 => 152 | 53 => 173 | 175 => 182 | 46 => 139 | 210 => 186 | 127 => 107 | 145 => 211 | 143 => 209 | 21 => 21 | 171 => 172 | 173 => 176 | 212 => 201 | 51 => 178 | 20 => 20 | 213 => 202 | 232 => 214 | 233 => 215 | 80 => 82 | n => n,fun | 15 => 1 | 16 => 2 | 17 => 3 | 18 => 6 | 19 => 7 | n => n⟩
theorem atoiL : Go.Proofs.LaysC.n172 Tryz.prog atoiL_ren:={
 mixed:=by kernel_rfl,
 f129:=Tryz.func125.trans (congrArg some (by kernel_rfl)),
 f171:=Tryz.func33.trans (congrArg some (by kernel_rfl)),
 f172:=Tryz.func46.trans (congrArg some (by kernel_rfl)),
 f205:=Tryz.func119.trans (congrArg some (by kernel_rfl)),
 f243:=Tryz.func55.trans (congrArg some (by kernel_rfl)),
 f244:=Tryz.func66.trans (congrArg some (by kernel_rfl)),
 f245:=Tryz.func67.trans (congrArg some (by kernel_rfl)),
 f246:=Tryz.func77.trans (congrArg some (by kernel_rfl)),
 f247:=Tryz.func93.trans (congrArg some (by kernel_rfl)),
 f279:=Tryz.func94.trans (congrArg some (by kernel_rfl)),
 f280:=Tryz.func95.trans (congrArg some (by kernel_rfl)),
 f281:=Tryz.func96.trans (congrArg some (by kernel_rfl)),
 f282:=Tryz.func97.trans (congrArg some (by kernel_rfl)),
 f283:=Tryz.func108.trans (congrArg some (by kernel_rfl)),
 f284:=Tryz.func109.trans (congrArg some (by kernel_rfl)),
 f285:=Tryz.func110.trans (congrArg some (by kernel_rfl)),
 f286:=Tryz.func111.trans (congrArg some (by kernel_rfl)),
 f287:=Tryz.func117.trans (congrArg some (by kernel_rfl)),
 f316:=Tryz.func118.trans (congrArg some (by kernel_rfl)),
 f317:=Tryz.func124.trans (congrArg some (by kernel_rfl)),
 f318:=Tryz.func126.trans (congrArg some (by kernel_rfl)),
 f319:=Tryz.func127.trans (congrArg some (by kernel_rfl)),
 f320:=Tryz.func128.trans (congrArg some (by kernel_rfl)),
 f321:=Tryz.func129.trans (congrArg some (by kernel_rfl)),
 f322:=Tryz.func130.trans (congrArg some (by kernel_rfl)),
 f337:=Tryz.func131.trans (congrArg some (by kernel_rfl)),
 f338:=Tryz.func132.trans (congrArg some (by kernel_rfl)),
 t0:=Tryz.underlying0,
 a0:=Tryz.isAgg0,
 z0:=Tryz.sizeOf0,
 v0:=Tryz.zeroValue0,
 t2:=Tryz.underlying2,
 a2:=Tryz.isAgg2,
 z2:=Tryz.sizeOf2,
 v2:=Tryz.zeroValue2,
 t3:=Tryz.underlying3,
 a3:=Tryz.isAgg3,
 z3:=Tryz.sizeOf3,
 v3:=Tryz.zeroValue3,
 t4:=Tryz.underlying4,
 a4:=Tryz.isAgg4,
 z4:=Tryz.sizeOf4,
 v4:=Tryz.zeroValue4,
 t5:=Tryz.underlying5,
 a5:=Tryz.isAgg5,
 z5:=Tryz.sizeOf5,
 v5:=Tryz.zeroValue5,
 t9:=Tryz.underlying9,
 a9:=Tryz.isAgg9,
 z9:=Tryz.sizeOf9,
 v9:=Tryz.zeroValue9,
 t20:=Tryz.underlying20,
 a20:=Tryz.isAgg20,
 z20:=Tryz.sizeOf20,
 v20:=Tryz.zeroValue20,
 t21:=Tryz.underlying21,
 a21:=Tryz.isAgg21,
 z21:=Tryz.sizeOf21,
 v21:=Tryz.zeroValue21,
 t37:=Tryz.underlying72,
 a37:=Tryz.isAgg72,
 z37:=Tryz.sizeOf72,
 v37:=Tryz.zeroValue72,
 t46:=Tryz.underlying139,
 a46:=Tryz.isAgg139,
 z46:=Tryz.sizeOf139,
 v46:=Tryz.zeroValue139,
 t51:=Tryz.underlying178,
 a51:=Tryz.isAgg178,
 z51:=Tryz.sizeOf178,
 v51:=Tryz.zeroValue178,
 t53:=Tryz.underlying173,
 a53:=Tryz.isAgg173,
 z53:=Tryz.sizeOf173,
 v53:=Tryz.zeroValue173,
 t75:=Tryz.underlying76,
 a75:=Tryz.isAgg76,
 z75:=Tryz.sizeOf76,
 v75:=Tryz.zeroValue76,
 t76:=Tryz.underlying77,
 a76:=Tryz.isAgg77,
 z76:=Tryz.sizeOf77,
 v76:=Tryz.zeroValue77,
 t85:=Tryz.underlying150,
 a85:=Tryz.isAgg150,
 z85:=Tryz.sizeOf150,
 v85:=Tryz.zeroValue150,
 t127:=Tryz.underlying107,
 a127:=Tryz.isAgg107,
 z127:=Tryz.sizeOf107,
 v127:=Tryz.zeroValue107,
 t143:=Tryz.underlying209,
 a143:=Tryz.isAgg209,
 z143:=Tryz.sizeOf209,
 v143:=Tryz.zeroValue209,
 t145:=Tryz.underlying211,
 a145:=Tryz.isAgg211,
 z145:=Tryz.sizeOf211,
 v145:=Tryz.zeroValue211,
 t167:=Tryz.underlying149,
 a167:=Tryz.isAgg149,
 z167:=Tryz.sizeOf149,
 v167:=Tryz.zeroValue149,
 t168:=Tryz.underlying152,
 a168:=Tryz.isAgg152,
 z168:=Tryz.sizeOf152,
 v168:=Tryz.zeroValue152,
 t171:=Tryz.underlying172,
 a171:=Tryz.isAgg172,
 z171:=Tryz.sizeOf172,
 v171:=Tryz.zeroValue172,
 t173:=Tryz.underlying176,
 a173:=Tryz.isAgg176,
 z173:=Tryz.sizeOf176,
 v173:=Tryz.zeroValue176,
 t175:=Tryz.underlying182,
 a175:=Tryz.isAgg182,
 z175:=Tryz.sizeOf182,
 v175:=Tryz.zeroValue182,
 t210:=Tryz.underlying186,
 a210:=Tryz.isAgg186,
 z210:=Tryz.sizeOf186,
 v210:=Tryz.zeroValue186,
 t212:=Tryz.underlying201,
 a212:=Tryz.isAgg201,
 z212:=Tryz.sizeOf201,
 v212:=Tryz.zeroValue201,
 t213:=Tryz.underlying202,
 a213:=Tryz.isAgg202,
 z213:=Tryz.sizeOf202,
 t232:=Tryz.underlying214,
 a232:=Tryz.isAgg214,
 z232:=Tryz.sizeOf214,
 v232:=Tryz.zeroValue214,
 t233:=Tryz.underlying215,
 a233:=Tryz.isAgg215,
 z233:=Tryz.sizeOf215,
 v233:=Tryz.zeroValue215,
 g15:=by kernel_rfl,
 g16:=by kernel_rfl,
 g17:=by kernel_rfl,
 g18:=by kernel_rfl,
 g19:=by kernel_rfl,
 t80:=Tryz.underlying82,
 a80:=Tryz.isAgg82,
 z80:=Tryz.sizeOf82,
 v80:=Tryz.zeroValue82,
 i0:=by kernel_rfl,
 i2:=by kernel_rfl,
 i3:=by kernel_rfl,
 i4:=by kernel_rfl,
 i5:=by kernel_rfl,
 i9:=by kernel_rfl,
 i20:=by kernel_rfl,
 i21:=by kernel_rfl,
 i37:=by kernel_rfl,
 i46:=by kernel_rfl,
 i51:=by kernel_rfl,
 i53:=by kernel_rfl,
 i75:=by kernel_rfl,
 i76:=by kernel_rfl,
 i80:=by kernel_rfl,
 i85:=by kernel_rfl,
 i127:=by kernel_rfl,
 i143:=by kernel_rfl,
 i145:=by kernel_rfl,
 i167:=by kernel_rfl,
 i168:=by kernel_rfl,
 i171:=by kernel_rfl,
 i173:=by kernel_rfl,
 i175:=by kernel_rfl,
 i210:=by kernel_rfl,
 i212:=by kernel_rfl,
 i232:=by kernel_rfl,
 i233:=by kernel_rfl,
 m15:=by kernel_rfl,
 m16:=by kernel_rfl,
 m17:=by kernel_rfl,
 m18:=by kernel_rfl,
 m19:=by kernel_rfl,
 c0:=by kernel_rfl,
 c2:=by kernel_rfl,
 c3:=by kernel_rfl,
 c4:=by kernel_rfl,
 c5:=by kernel_rfl,
 c9:=by kernel_rfl,
 c20:=by kernel_rfl,
 c21:=by kernel_rfl,
 c37:=by kernel_rfl,
 c46:=by kernel_rfl,
 c51:=by kernel_rfl,
 c53:=by kernel_rfl,
 c75:=by kernel_rfl,
 c76:=by kernel_rfl,
 c80:=by kernel_rfl,
 c85:=by kernel_rfl,
 c127:=by kernel_rfl,
 c143:=by kernel_rfl,
 c145:=by kernel_rfl,
 c167:=by kernel_rfl,
 c168:=by kernel_rfl,
 c171:=by kernel_rfl,
 c173:=by kernel_rfl,
 c175:=by kernel_rfl,
 c210:=by kernel_rfl,
 c212:=by kernel_rfl,
 c213:=by kernel_rfl,
 c232:=by kernel_rfl,
 c233:=by kernel_rfl }
def cutL_ren : Go.Shelf.Ren:=⟨fun | 145 => 13 | 220 => 37 | 219 => 59 | 217 => 65 | 225 => 81 | 224 => 82 | 267 => 83 | 266 => 92 | 314 => 113 | n => n,fun | 9 => 9 | 4 => 4 | 59 => 40 | 3 => 3 | 5 => 5 | 46 => 139 | 146 => 179 | 51 => 178 | n => n,fun | 1 => 0 | n => n⟩
theorem cutL : Go.Proofs.Lays.n145 Tryz.prog cutL_ren:={
 mixed:=by kernel_rfl,
 f145:=Tryz.func13.trans (congrArg some (by kernel_rfl)),
 f217:=Tryz.func65.trans (congrArg some (by kernel_rfl)),
 f219:=Tryz.func59.trans (congrArg some (by kernel_rfl)),
 f220:=Tryz.func37.trans (congrArg some (by kernel_rfl)),
 f224:=Tryz.func82.trans (congrArg some (by kernel_rfl)),
 f225:=Tryz.func81.trans (congrArg some (by kernel_rfl)),
 f266:=Tryz.func92.trans (congrArg some (by kernel_rfl)),
 f267:=Tryz.func83.trans (congrArg some (by kernel_rfl)),
 f314:=Tryz.func113.trans (congrArg some (by kernel_rfl)),
 t3:=Tryz.underlying3,
 a3:=Tryz.isAgg3,
 z3:=Tryz.sizeOf3,
 v3:=Tryz.zeroValue3,
 t4:=Tryz.underlying4,
 a4:=Tryz.isAgg4,
 z4:=Tryz.sizeOf4,
 v4:=Tryz.zeroValue4,
 t5:=Tryz.underlying5,
 a5:=Tryz.isAgg5,
 z5:=Tryz.sizeOf5,
 v5:=Tryz.zeroValue5,
 t9:=Tryz.underlying9,
 a9:=Tryz.isAgg9,
 z9:=Tryz.sizeOf9,
 v9:=Tryz.zeroValue9,
 t46:=Tryz.underlying139,
 a46:=Tryz.isAgg139,
 z46:=Tryz.sizeOf139,
 v46:=Tryz.zeroValue139,
 t51:=Tryz.underlying178,
 a51:=Tryz.isAgg178,
 z51:=Tryz.sizeOf178,
 v51:=Tryz.zeroValue178,
 t59:=Tryz.underlying40,
 a59:=Tryz.isAgg40,
 z59:=Tryz.sizeOf40,
 v59:=Tryz.zeroValue40,
 t146:=Tryz.underlying179,
 a146:=Tryz.isAgg179,
 z146:=Tryz.sizeOf179,
 v146:=Tryz.zeroValue179,
 g1:=by kernel_rfl }
def splitL_ren : Go.Shelf.Ren:=⟨fun | 146 => 12 | 221 => 36 | 268 => 56 | 138 => 57 | 143 => 58 | 195 => 78 | 197 => 79 | 218 => 80 | 219 => 59 | 260 => 112 | 217 => 65 | 225 => 81 | 224 => 82 | 267 => 83 | 266 => 92 | 314 => 113 | n => n,fun | 9 => 9 | 31 => 38 | 3 => 3 | 4 => 4 | 0 => 0 | 105 => 137 | 21 => 21 | 5 => 5 | 46 => 139 | 119 => 204 | 139 => 207 | 138 => 206 | 146 => 179 | 51 => 178 | n => n,fun | 1 => 0 | 3 => 4 | 4 => 5 | n => n⟩
theorem splitL : Go.Proofs.LaysM.n146 Tryz.prog splitL_ren:={
 mixed:=by kernel_rfl,
 f138:=Tryz.func57.trans (congrArg some (by kernel_rfl)),
 f143:=Tryz.func58.trans (congrArg some (by kernel_rfl)),
 f146:=Tryz.func12.trans (congrArg some (by kernel_rfl)),
 f195:=Tryz.func78.trans (congrArg some (by kernel_rfl)),
 f197:=Tryz.func79.trans (congrArg some (by kernel_rfl)),
 f217:=Tryz.func65.trans (congrArg some (by kernel_rfl)),
 f218:=Tryz.func80.trans (congrArg some (by kernel_rfl)),
 f219:=Tryz.func59.trans (congrArg some (by kernel_rfl)),
 f221:=Tryz.func36.trans (congrArg some (by kernel_rfl)),
 f224:=Tryz.func82.trans (congrArg some (by kernel_rfl)),
 f225:=Tryz.func81.trans (congrArg some (by kernel_rfl)),
 f260:=Tryz.func112.trans (congrArg some (by kernel_rfl)),
 f266:=Tryz.func92.trans (congrArg some (by kernel_rfl)),
 f267:=Tryz.func83.trans (congrArg some (by kernel_rfl)),
 f268:=Tryz.func56.trans (congrArg some (by kernel_rfl)),
 f314:=Tryz.func113.trans (congrArg some (by kernel_rfl)),
 t0:=Tryz.underlying0,
 a0:=Tryz.isAgg0,
 z0:=Tryz.sizeOf0,
 v0:=Tryz.zeroValue0,
 t3:=Tryz.underlying3,
 a3:=Tryz.isAgg3,
 z3:=Tryz.sizeOf3,
 v3:=Tryz.zeroValue3,
 t4:=Tryz.underlying4,
 a4:=Tryz.isAgg4,
 z4:=Tryz.sizeOf4,
 v4:=Tryz.zeroValue4,
 t5:=Tryz.underlying5,
 a5:=Tryz.isAgg5,
 z5:=Tryz.sizeOf5,
 v5:=Tryz.zeroValue5,
 t9:=Tryz.underlying9,
 a9:=Tryz.isAgg9,
 z9:=Tryz.sizeOf9,
 v9:=Tryz.zeroValue9,
 t21:=Tryz.underlying21,
 a21:=Tryz.isAgg21,
 z21:=Tryz.sizeOf21,
 v21:=Tryz.zeroValue21,
 t31:=Tryz.underlying38,
 a31:=Tryz.isAgg38,
 z31:=Tryz.sizeOf38,
 v31:=Tryz.zeroValue38,
 t46:=Tryz.underlying139,
 a46:=Tryz.isAgg139,
 z46:=Tryz.sizeOf139,
 v46:=Tryz.zeroValue139,
 t51:=Tryz.underlying178,
 a51:=Tryz.isAgg178,
 z51:=Tryz.sizeOf178,
 v51:=Tryz.zeroValue178,
 t105:=Tryz.underlying137,
 a105:=Tryz.isAgg137,
 z105:=Tryz.sizeOf137,
 v105:=Tryz.zeroValue137,
 t119:=Tryz.underlying204,
 a119:=Tryz.isAgg204,
 z119:=Tryz.sizeOf204,
 t138:=Tryz.underlying206,
 a138:=Tryz.isAgg206,
 z138:=Tryz.sizeOf206,
 v138:=Tryz.zeroValue206,
 t139:=Tryz.underlying207,
 a139:=Tryz.isAgg207,
 z139:=Tryz.sizeOf207,
 v139:=Tryz.zeroValue207,
 t146:=Tryz.underlying179,
 a146:=Tryz.isAgg179,
 z146:=Tryz.sizeOf179,
 v146:=Tryz.zeroValue179,
 g1:=by kernel_rfl,
 g3:=by kernel_rfl,
 g4:=by kernel_rfl,
 i0:=by kernel_rfl,
 i3:=by kernel_rfl,
 i4:=by kernel_rfl,
 i5:=by kernel_rfl,
 i9:=by kernel_rfl,
 i21:=by kernel_rfl,
 i31:=by kernel_rfl,
 i46:=by kernel_rfl,
 i51:=by kernel_rfl,
 i105:=by kernel_rfl,
 i138:=by kernel_rfl,
 i139:=by kernel_rfl,
 i146:=by kernel_rfl,
 m1:=by kernel_rfl,
 s1_3:=fun w h => Go.Proofs.cell_of_shapedOpen_int (zero:=#[.int .i64 0]) (t:=3) h (of_decide_eq_true (by kernel_rfl)) (by kernel_rfl) rfl (by kernel_rfl) (by kernel_rfl) Tryz.underlying3,
 m3:=by kernel_rfl,
 m4:=by kernel_rfl }
def trimSufL_ren : Go.Shelf.Ren:=⟨fun | 102 => 23 | 209 => 45 | 207 => 35 | n => n,fun | 9 => 9 | 4 => 4 | 3 => 3 | n => n,fun | n => n⟩
theorem trimSufL : Go.Proofs.Lays.n102 Tryz.prog trimSufL_ren:={
 mixed:=by kernel_rfl,
 f102:=Tryz.func23.trans (congrArg some (by kernel_rfl)),
 f207:=Tryz.func35.trans (congrArg some (by kernel_rfl)),
 f209:=Tryz.func45.trans (congrArg some (by kernel_rfl)),
 t3:=Tryz.underlying3,
 a3:=Tryz.isAgg3,
 z3:=Tryz.sizeOf3,
 v3:=Tryz.zeroValue3,
 t4:=Tryz.underlying4,
 a4:=Tryz.isAgg4,
 z4:=Tryz.sizeOf4,
 v4:=Tryz.zeroValue4,
 t9:=Tryz.underlying9,
 a9:=Tryz.isAgg9,
 z9:=Tryz.sizeOf9,
 v9:=Tryz.zeroValue9 }
def hasPreL_ren : Go.Shelf.Ren:=⟨fun | 99 => 38 | 206 => 60 | n => n,fun | 9 => 9 | 4 => 4 | 3 => 3 | n => n,fun | n => n⟩
theorem hasPreL : Go.Proofs.Lays.n99 Tryz.prog hasPreL_ren:={
 mixed:=by kernel_rfl,
 f99:=Tryz.func38.trans (congrArg some (by kernel_rfl)),
 f206:=Tryz.func60.trans (congrArg some (by kernel_rfl)),
 t3:=Tryz.underlying3,
 a3:=Tryz.isAgg3,
 z3:=Tryz.sizeOf3,
 v3:=Tryz.zeroValue3,
 t4:=Tryz.underlying4,
 a4:=Tryz.isAgg4,
 z4:=Tryz.sizeOf4,
 v4:=Tryz.zeroValue4,
 t9:=Tryz.underlying9,
 a9:=Tryz.isAgg9,
 z9:=Tryz.sizeOf9,
 v9:=Tryz.zeroValue9 }
def hasSufL_ren : Go.Shelf.Ren:=⟨fun | 100 => 11 | 207 => 35 | n => n,fun | 9 => 9 | 4 => 4 | 3 => 3 | n => n,fun | n => n⟩
theorem hasSufL : Go.Proofs.Lays.n100 Tryz.prog hasSufL_ren:={
 mixed:=by kernel_rfl,
 f100:=Tryz.func11.trans (congrArg some (by kernel_rfl)),
 f207:=Tryz.func35.trans (congrArg some (by kernel_rfl)),
 t3:=Tryz.underlying3,
 a3:=Tryz.isAgg3,
 z3:=Tryz.sizeOf3,
 v3:=Tryz.zeroValue3,
 t4:=Tryz.underlying4,
 a4:=Tryz.isAgg4,
 z4:=Tryz.sizeOf4,
 v4:=Tryz.zeroValue4,
 t9:=Tryz.underlying9,
 a9:=Tryz.isAgg9,
 z9:=Tryz.sizeOf9,
 v9:=Tryz.zeroValue9 }
def indexByteL_ren : Go.Shelf.Ren:=⟨fun | 137 => 44 | 217 => 65 | 266 => 92 | n => n,fun | 9 => 9 | 5 => 5 | 3 => 3 | n => n,fun | n => n⟩
theorem indexByteL : Go.Proofs.Lays.n137 Tryz.prog indexByteL_ren:={
 mixed:=by kernel_rfl,
 f137:=Tryz.func44.trans (congrArg some (by kernel_rfl)),
 f217:=Tryz.func65.trans (congrArg some (by kernel_rfl)),
 f266:=Tryz.func92.trans (congrArg some (by kernel_rfl)),
 t3:=Tryz.underlying3,
 a3:=Tryz.isAgg3,
 z3:=Tryz.sizeOf3,
 v3:=Tryz.zeroValue3,
 t5:=Tryz.underlying5,
 a5:=Tryz.isAgg5,
 z5:=Tryz.sizeOf5,
 v5:=Tryz.zeroValue5,
 t9:=Tryz.underlying9,
 a9:=Tryz.isAgg9,
 z9:=Tryz.sizeOf9,
 v9:=Tryz.zeroValue9 }
def writeL_ren : Go.Shelf.Ren:=⟨fun | 166 => 30 | 240 => 53 | 276 => 76 | n => n,fun | 20 => 20 | 70 => 71 | 9 => 9 | 3 => 3 | 75 => 76 | 0 => 0 | 72 => 74 | 37 => 72 | 4 => 4 | 164 => 133 | 80 => 82 | 5 => 5 | n => n,fun | n => n⟩
theorem writeL : Go.Proofs.Lays.n166 Tryz.prog writeL_ren:={
 mixed:=by kernel_rfl,
 f166:=Tryz.func30.trans (congrArg some (by kernel_rfl)),
 f240:=Tryz.func53.trans (congrArg some (by kernel_rfl)),
 f276:=Tryz.func76.trans (congrArg some (by kernel_rfl)),
 t0:=Tryz.underlying0,
 a0:=Tryz.isAgg0,
 z0:=Tryz.sizeOf0,
 v0:=Tryz.zeroValue0,
 t3:=Tryz.underlying3,
 a3:=Tryz.isAgg3,
 z3:=Tryz.sizeOf3,
 v3:=Tryz.zeroValue3,
 t4:=Tryz.underlying4,
 a4:=Tryz.isAgg4,
 z4:=Tryz.sizeOf4,
 v4:=Tryz.zeroValue4,
 t9:=Tryz.underlying9,
 a9:=Tryz.isAgg9,
 z9:=Tryz.sizeOf9,
 v9:=Tryz.zeroValue9,
 t20:=Tryz.underlying20,
 a20:=Tryz.isAgg20,
 z20:=Tryz.sizeOf20,
 v20:=Tryz.zeroValue20,
 t37:=Tryz.underlying72,
 a37:=Tryz.isAgg72,
 z37:=Tryz.sizeOf72,
 v37:=Tryz.zeroValue72,
 t70:=Tryz.underlying71,
 a70:=Tryz.isAgg71,
 z70:=Tryz.sizeOf71,
 v70:=Tryz.zeroValue71,
 t72:=Tryz.underlying74,
 a72:=Tryz.isAgg74,
 z72:=Tryz.sizeOf74,
 v72:=Tryz.zeroValue74,
 t75:=Tryz.underlying76,
 a75:=Tryz.isAgg76,
 z75:=Tryz.sizeOf76,
 v75:=Tryz.zeroValue76,
 t164:=Tryz.underlying133,
 a164:=Tryz.isAgg133,
 z164:=Tryz.sizeOf133,
 v164:=Tryz.zeroValue133 }
def stringL_ren : Go.Shelf.Ren:=⟨fun | 169 => 34 | n => n,fun | 70 => 71 | 9 => 9 | 0 => 0 | 72 => 74 | 37 => 72 | 127 => 107 | 3 => 3 | 5 => 5 | n => n,fun | n => n⟩
theorem stringL : Go.Proofs.Lays.n169 Tryz.prog stringL_ren:={
 mixed:=by kernel_rfl,
 f169:=Tryz.func34.trans (congrArg some (by kernel_rfl)),
 t0:=Tryz.underlying0,
 a0:=Tryz.isAgg0,
 z0:=Tryz.sizeOf0,
 v0:=Tryz.zeroValue0,
 t3:=Tryz.underlying3,
 a3:=Tryz.isAgg3,
 z3:=Tryz.sizeOf3,
 v3:=Tryz.zeroValue3,
 t9:=Tryz.underlying9,
 a9:=Tryz.isAgg9,
 z9:=Tryz.sizeOf9,
 v9:=Tryz.zeroValue9,
 t37:=Tryz.underlying72,
 a37:=Tryz.isAgg72,
 z37:=Tryz.sizeOf72,
 v37:=Tryz.zeroValue72,
 t70:=Tryz.underlying71,
 a70:=Tryz.isAgg71,
 z70:=Tryz.sizeOf71,
 v70:=Tryz.zeroValue71,
 t72:=Tryz.underlying74,
 a72:=Tryz.isAgg74,
 z72:=Tryz.sizeOf74,
 v72:=Tryz.zeroValue74,
 t127:=Tryz.underlying107,
 a127:=Tryz.isAgg107,
 z127:=Tryz.sizeOf107,
 v127:=Tryz.zeroValue107 }
set_option maxRecDepth 20000 in
theorem writeX : Builder.Extra Tryz.prog writeL_ren:={
 sizeBuilder:=by kernel_rfl,
 liesBuilder:=by kernel_rfl,
 t5:=Tryz.underlying5,
 a5:=Tryz.isAgg5,
 z5:=Tryz.sizeOf5,
 v5:=Tryz.zeroValue5,
 infoByte:=by kernel_rfl,
 cellsByte:=by kernel_rfl,
 sizeByte:=by kernel_rfl,
 neB5:=by decide }
set_option maxRecDepth 20000 in
theorem stringX : Builder.Extra Tryz.prog stringL_ren:={
 sizeBuilder:=by kernel_rfl,
 liesBuilder:=by kernel_rfl,
 t5:=Tryz.underlying5,
 a5:=Tryz.isAgg5,
 z5:=Tryz.sizeOf5,
 v5:=Tryz.zeroValue5,
 infoByte:=by kernel_rfl,
 cellsByte:=by kernel_rfl,
 sizeByte:=by kernel_rfl,
 neB5:=by decide }
structure LaidV (w : World) : Prop where
 tab : Lib.TabIs Tryz.prog w "internal/strconv.uint64pow10" .u64 Lib.pow10Tab
 syn : ∃ tp p, w.var? Tryz.prog "strconv.ErrSyntax" = some #[.iface tp p]
 rng : ∃ tp p, w.var? Tryz.prog "strconv.ErrRange" = some #[.iface tp p]
 max : ∃ m,w.cell? ⟨splitL_ren.g 1,0,none⟩ = some (.int .i64 m) ∧ splitL_ren.g 1 < w.heap.size
theorem var_keep {w w' : World} (hb : Below w.heap.size w w') {n : String} {cs : Array Value} (h : w.var? Tryz.prog n = some cs) : w'.var? Tryz.prog n = some cs:=by
 unfold World.var? at h ⊢
 cases hg : Tryz.prog.globalNamed n with
 | none => rw [hg] at h;cases h
 | some g =>
  rw [hg] at h
  simp only [Option.bind_some] at h ⊢
  have hlt : g < w.heap.size:=by
   rcases Nat.lt_or_ge g w.heap.size with h1 | h1
   ·exact h1
   ·rw [Array.getElem?_eq_none h1] at h;cases h
  rw [hb.block g hlt]
  exact h
theorem LaidV.below {w w' : World} (h : LaidV w) (hb : Below w.heap.size w w') : LaidV w':=by
 obtain ⟨h1,⟨t,p,h2⟩,⟨t3,p3,h3⟩,m,h4,h5⟩:=h
 exact ⟨var_keep hb h1,⟨t,p,var_keep hb h2⟩,⟨t3,p3,var_keep hb h3⟩,m,(hb.cell (p:=⟨splitL_ren.g 1,0,none⟩) h5).trans h4,Nat.lt_of_lt_of_le h5 hb.size⟩
def str (l : Bs) : Value:=.string ⟨l.toArray⟩
theorem str_data (l : Bs) : (⟨l.toArray⟩ : ByteArray).data.toList = l:=by simp
theorem str_of (s : ByteArray) : Value.string s = str s.data.toList:=by unfold str;simp
theorem str_size (l : Bs) : (⟨l.toArray⟩ : ByteArray).size = l.length:=by rw [Lib.size_eq,str_data]
theorem below_drewT (w : World) (n : Nat) : Below w.heap.size w (w.drewN n):=⟨rfl,rfl,rfl,Nat.le_refl _,fun _ _ => rfl⟩
theorem itoa_any {n : Int} (h0 : -9223372036854775808 ≤ n) (h1 : n ≤ 9223372036854775807) {w : World} (hL : LaidV w) :
  Calls Tryz.prog 33 #[.int .i64 n] w fun e w' => e = .returned (str (Lib.itoa n)) ∧ Below w.heap.size w w' :=
 (Any.strconv_Itoa itoaL n h0 h1 w hL.tab).mono fun e w' ⟨he,k,os,hw⟩ => ⟨he,hw ▸ Lib.below_grow _ w (Nat.le_refl _) k os⟩
theorem cutT_any (s : Bs) (sep : Bs) {w : World} (hL : LaidV w) (hs : s.length < 4294967281) :
  Calls Tryz.prog 13 #[str s,str sep] w fun e w' => e = .returned (.tuple #[str (Lib.cut s sep).1,str (Lib.cut s sep).2.1,.bool (Lib.cut s sep).2.2]) ∧ Below w.heap.size w w':=by
 obtain ⟨m,hm,-⟩:=hL.max
 refine (Any.strings_Cut cutL ⟨s.toArray⟩ ⟨sep.toArray⟩ m w (by rw [str_size];exact hs) hm).mono ?_
 rintro e w' ⟨rfl,n,rfl⟩
 rw [str_data,str_data]
 exact ⟨rfl,below_drewT w n⟩
theorem trimSuf_any (s p : Bs) (w : World) (hs : s.length ≤ 9223372036854775807) :
  Calls Tryz.prog 23 #[str s,str p] w fun e w' => e = .returned (str (Lib.trimSuffix s p)) ∧ w' = w:=by
 refine (Any.strings_TrimSuffix trimSufL ⟨s.toArray⟩ ⟨p.toArray⟩ w (by rw [str_size];exact hs)).mono ?_
 rintro e w' ⟨rfl,rfl⟩
 rw [str_data,str_data]
 exact ⟨rfl,rfl⟩
theorem hasPre_any (s p : Bs) (w : World) : Calls Tryz.prog 38 #[str s,str p] w fun e w' => e = .returned (.bool (Lib.hasPrefix s p)) ∧ w' = w:=by
 refine (Any.strings_HasPrefix hasPreL ⟨s.toArray⟩ ⟨p.toArray⟩ w).mono ?_
 rintro e w' ⟨rfl,rfl⟩
 rw [str_data,str_data]
 exact ⟨rfl,rfl⟩
theorem hasSuf_any (s p : Bs) (w : World) (hs : s.length ≤ 9223372036854775807) : Calls Tryz.prog 11 #[str s,str p] w fun e w' => e = .returned (.bool (Lib.hasSuffix s p)) ∧ w' = w:=by
 refine (Any.strings_HasSuffix hasSufL ⟨s.toArray⟩ ⟨p.toArray⟩ w (by rw [str_size];exact hs)).mono ?_
 rintro e w' ⟨rfl,rfl⟩
 rw [str_data,str_data]
 exact ⟨rfl,rfl⟩
theorem indexByte_any (s : Bs) (c : UInt8) (w : World) : Calls Tryz.prog 44 #[str s,.int .u8 c.toNat] w fun e w' => e = .returned (.int .i64 (Lib.indexByte s c)) ∧ w' = w:=by
 refine (Any.strings_IndexByte indexByteL ⟨s.toArray⟩ (c.toNat : Int) w).mono ?_
 rintro e w' ⟨rfl,rfl⟩
 rw [str_data,show ((c.toNat : Int).toNat).toUInt8 = c by simp]
 exact ⟨rfl,rfl⟩
theorem split_any (s : Bs) (c : UInt8) {w : World} (hL : LaidV w) (hs : s.length < 4294967281) :
  Calls Tryz.prog 12 #[str s,str [c]] w fun e w' => e = .returned (.slice (some ⟨w.heap.size,0,none⟩) (spl c s).length (spl c s).length) ∧ w' = w.alloc (.cells ((spl c s).map str).toArray 9):=by
 obtain ⟨m,hm,-⟩:=hL.max
 refine (Any.strings_Split { splitL with } splitL.i9 ⟨s.toArray⟩ ⟨[c].toArray⟩ m w (by rw [str_size];exact hs) hm (by rw [str_size];simp)).mono ?_
 rintro e w' ⟨rfl,rfl⟩
 have h:=splitB_spl ⟨s.toArray⟩ c
 rw [str_data] at h
 have hl : (spl c s).length = Lib.countB ⟨s.toArray⟩ ⟨[c].toArray⟩ + 1:=by
  rw [← h,List.length_map,Lib.splitB_all _ (by rw [str_size];simp) 0 _ _ rfl]
 refine ⟨by rw [hl],?_⟩
 have e2 : (Lib.splitB ⟨[c].toArray⟩ 0 (Lib.countB ⟨s.toArray⟩ ⟨[c].toArray⟩) ⟨s.toArray⟩).map Value.string = (spl c s).map str:=by
  rw [← h,List.map_map]
  exact List.map_congr_left fun x _ => str_of x
 rw [e2]
 rfl
theorem atoi_any (s : Bs) {w : World} (hL : LaidV w) (hs : s.length ≤ 281474976710656) :
  Calls Tryz.prog 46 #[str s] w fun e w' => ∃ v,e = .returned (.tuple #[.int .i64 (num0 s),v]) ∧ v.oneCell' = true ∧ Below w.heap.size w w':=by
 unfold num0
 cases h : Lib.atoiAll s with
 | ok v =>
  refine (Any.strconv_Atoi_ok atoiL ⟨s.toArray⟩ (by rw [str_size];omega) v (by rw [str_data];exact h) w).mono ?_
  rintro e w' ⟨rfl,hw⟩
  refine ⟨_,rfl,rfl,?_⟩
  rcases hw with rfl | ⟨t,rfl⟩
  ·exact Below.refl _ _
  ·exact Lib.bytesWorld_below _ _ _
 | range =>
  obtain ⟨tp,p,hv⟩:=hL.rng
  refine (Any.strconv_Atoi_range_var atoiL ⟨s.toArray⟩ (by rw [str_size];exact hs) (by rw [str_data];exact h) tp p w hv).mono ?_
  rintro e w' ⟨N,rfl,-,-,hb⟩
  rw [str_data]
  exact ⟨_,rfl,rfl,hb⟩
 | _ =>
  obtain ⟨tp,p,hv⟩:=hL.syn
  refine (Any.strconv_Atoi_syntax_var atoiL ⟨s.toArray⟩ (by rw [str_size];exact hs) (by rw [str_data];exact h) tp p w hv).mono ?_
  rintro e w' ⟨N,rfl,-,-,hb⟩
  exact ⟨_,rfl,rfl,hb⟩
def IsB (B b : Nat) (l : Bs) (w : World) : Prop:=Lib.IsBuilderF 74 5 B b (Lib.byteCells l) w
theorem write_any {B b : Nat} {l s : Bs} {w : World} (h : IsB B b l w) (hlen : l.length + s.length ≤ 140737488355328) (hB : B ≤ w.heap.size) :
  Calls Tryz.prog 30 #[.pointer (some ⟨b,0,none⟩),str s] w fun e w' => (∃ v,e = .returned v) ∧ IsB B b (l ++ s) w' ∧ Below B w w' ∧ Lib.OthersKept 5 (some b) w w':=by
 refine (Any.Builder_WriteString_k writeL writeX B b _ ⟨s.toArray⟩ w h (by rw [Lib.byteCells_length,str_size];exact hlen) hB).mono ?_
 rintro e w' ⟨rfl,h1,h2,h3⟩
 rw [Lib.strCells_eq,str_data,← Lib.byteCells_append] at h1
 exact ⟨⟨_,rfl⟩,.inr h1,h2,h3⟩
theorem bstring_any {B b : Nat} {l : Bs} {w : World} (h : IsB B b l w) (hB : B ≤ w.heap.size) :
  Calls Tryz.prog 34 #[.pointer (some ⟨b,0,none⟩)] w fun e w' => e = .returned (str l) ∧ Below B w w':=by
 refine (Any.Builder_String_any_k stringL stringX B b l w h hB).mono ?_
 rintro e w' ⟨rfl,-,h2,-⟩
 exact ⟨rfl,h2⟩
end Go.Proofs.YtoheblfpjinmnaaGreatDoor
namespace Go.Proofs.YtoheblfpjinmnaaGreatDoor
open Go
end Go.Proofs.YtoheblfpjinmnaaGreatDoor
namespace Go.Proofs.YtoheblfpjinmnaaGreatDoor
open Go Go.ChangeShapes Go.WideShapes Go.ChangeAt Go.RowKit
theorem err_row (u : TypeId) (h : Tryz.prog.typeName? 3 u = some "*errors.errorString") : u = 209 :=
 typeName_ptr_named (nm := "errors.errorString") (by rw [show "*" ++ "errors.errorString" = "*errors.errorString" by decide]; kernel_rfl) (by kernel_rfl) (by decide) u (by rw [show "*" ++ "errors.errorString" = "*errors.errorString" by decide]; exact h)
theorem laidV_of {W : World} (hs : W.ShapedOpen Tryz.prog) (hh : laidMetH Tryz.prog Rows.textParsesRow.laid W) : LaidV W:=by
 rw [MakeChecks.laidMetH_plain _ _ _ (by kernel_rfl)] at hh
 have h : laidMet Tryz.prog [("math/bits.deBruijn32tab", Rows.laid_math_bits_deBruijn32tab), ("math/bits.deBruijn64tab", Rows.laid_math_bits_deBruijn64tab), ("internal/strconv.uint64pow10", Rows.laid_internal_strconv_uint64pow10), ("unicode/utf8.acceptRanges", Rows.laid_unicode_utf8_acceptRanges), ("strconv.ErrRange", Rows.laid_strconv_ErrRange), ("strconv.ErrSyntax", Rows.laid_strconv_ErrSyntax), ("unicode/utf8.first", Rows.laid_unicode_utf8_first)] W := hh
 have h3:=h.tail.tail
 have h5:=h3.tail.tail
 have h6:=h5.tail
 have htab : Lib.TabIs Tryz.prog W "internal/strconv.uint64pow10" .u64 Lib.pow10Tab :=
  Lib.tabIs_of_head (g:=3) (n:=20) (t:=201) (e:=173) (by kernel_rfl) (by kernel_rfl) (by kernel_rfl) (by kernel_rfl) (by kernel_rfl) (by kernel_rfl) h3
 obtain ⟨a1,s1,e1,-⟩:=laid_sentinel (g:=2) (ti:=76) (tp:=209) (te:=211) (ts:=9) h5 (by kernel_rfl) (by kernel_rfl) Tryz.underlying76 err_row (by kernel_rfl) Tryz.underlying211 rfl rfl (by kernel_rfl) (by kernel_rfl) (by kernel_rfl)
 obtain ⟨a2,s2,e2,-⟩:=laid_sentinel (g:=1) (ti:=76) (tp:=209) (te:=211) (ts:=9) h6 (by kernel_rfl) (by kernel_rfl) Tryz.underlying76 err_row (by kernel_rfl) Tryz.underlying211 rfl rfl (by kernel_rfl) (by kernel_rfl) (by kernel_rfl)
 obtain ⟨m,hm⟩:=splitL.s1_3 W hs
 refine ⟨htab,⟨_,_,e2⟩,⟨_,_,e1⟩,m,hm,?_⟩
 unfold World.cell? at hm
 rcases Nat.lt_or_ge (splitL_ren.g 1) W.heap.size with h | h
 ·exact h
 ·rw [Array.getElem?_eq_none h] at hm;simp at hm
section
variable {H : Type} {enc : TypeId × Value → H}
theorem returnsInHanded_of_change_shaped {a : Assume} {C : Checked} {os : Os} {f : FuncId} {fn : Func} {s : ChangeSpec} {conds : List PathCond} {apart fresh handsOn again : Bool} {X : World → Array Value → Prop}
  (hX : ∀ (w w' : World) (args : Array Value),w.heap = w'.heap → X w args → X w' args)
  (own : ownKnob C.prog.godebug = none) (started : os.Started) (noInit : C.prog.inits.idxOf? f = none) (hfn : C.prog.funcs[f]? = some fn)
  (witness : ∃ (w : World) (tape : Tape) (i : Input),w.os = os ∧ (w.forCall tape i).Shaped C.prog ∧ i.vars = [] ∧ Input.okWide C.prog (w.forCall tape i) .any w.heap.size f i ∧
   ((s.pre enc C.prog fn conds apart (w.forCall tape i).memory i.args ∧ X (w.forCall tape i).memory i.args) ∧ sizedMet enc C.prog fn (OpenSpec.ofChange s) apart (w.forCall tape i).memory i.args) ∧ a.holds C.prog (lone (Frame.enter C.prog f i.args .normal) [] (w.forCall tape i)))
  (contract : ∀ (W : World) (base : Nat) (args : Array Value) (ds gs : List (DataW H)) (before : List MemPlace),W.ShapedOpen C.prog →
   (∀ (j : Nat) t v,fn.params[j]? = some t → args[j]? = some v → Value.okWide C.prog W .any base t v) →
   DataW.Whole enc C.prog fn.params.toList s.vars apart W args.toList ds gs before →
   conds.all (PathCond.test C.prog ⟨fn.params.toList,ds,s.plain.varTypes C.prog,gs⟩) = true →
   (DataW.weightsEach C.prog (fn.params.toList ++ s.plain.varTypes C.prog) (ds ++ gs)).all (· ≤ reachBytes) = true → X W args →
   a.holds C.prog (lone (Frame.enter C.prog f args .normal) [] W) →
   Calls C.prog f args W fun e W' => ∃ v,e = .returned v ∧ s.post enc C.prog fn apart fresh handsOn again W args v W') :
  ReturnsInHanded a C os f .any (fun w args => (s.pre enc C.prog fn conds apart w args ∧ X w args) ∧ sizedMet enc C.prog fn (OpenSpec.ofChange s) apart w args) (s.post enc C.prog fn apart fresh handsOn again):=by
 refine returnsInHanded_of_calls own started noInit witness ?_
 intro w tape i _ hsh _ hok hpre hholds
 obtain ⟨_,_,_,fn',hfn',_,_,_,_,hval⟩:=hok
 have e : fn' = fn:=Option.some.inj (hfn'.symm.trans hfn)
 subst e
 obtain ⟨⟨⟨ds,gs,before,hw,hc⟩,hx⟩,hz⟩:=hpre
 have hw':=DataW.Whole.of_heap (w':=w.forCall tape i) (by rfl) hw
 refine (contract (w.forCall tape i) w.heap.size i.args ds gs before hsh hval hw' hc (hz.weights hw) (hX _ _ _ (by rfl) hx) hholds).mono fun e W' ⟨v,he,hp⟩ => ?_
 subst he
 exact ChangeSpec.post_blind hp
end
theorem law_lifted_laid {H : Type} {enc : TypeId × Value → H} {C : Checked} {os : Os} (started : os.Started) {f : FuncId} {fn : Func} {s : ChangeSpec} {tb : TypeId} {laid : List (String × DataW Unit)}
  (own : ownKnob C.prog.godebug = none) (hl : laidOutB C.prog = true) (hno : C.prog.inits.idxOf? f = none) (hfn : C.prog.funcs[f]? = some fn)
  (hr : ∀ t ∈ fn.params.toList,C.prog.readableRec t = true ∧ t < C.prog.types.size) (hv : s.vars = []) (hres : fn.resultTypes = #[tb]) (hb : C.prog.underlying tb = some .bool)
  (hspec : ∀ (ds : List (DataW H)),ds.length = fn.params.toList.length → s.fn H ds = { results:=[.lit (.bool true)],args:=ds })
  (witness : ∃ (w : World) (tape : Tape) (i : Input),w.os = os ∧ (w.forCall tape i).Shaped C.prog ∧ i.vars = [] ∧ Input.okWide C.prog (w.forCall tape i) .any w.heap.size f i ∧
   ((s.pre enc C.prog fn [] false (w.forCall tape i).memory i.args ∧ laidMetH C.prog laid (w.forCall tape i).memory) ∧ sizedMet enc C.prog fn (OpenSpec.ofChange s) false (w.forCall tape i).memory i.args) ∧ Assume.holds {} C.prog (lone (Frame.enter C.prog f i.args .normal) [] (w.forCall tape i)))
  (hc : ∀ (W : World) (base : Nat) (args : Array Value) (ds : List (DataW H)) (ps : List MemPlace),W.ShapedOpen C.prog → laidMetH C.prog laid W →
   (∀ (j : Nat) t v,fn.params[j]? = some t → args[j]? = some v → Value.okWide C.prog W .any base t v) →
   DataW.TrodAll enc C.prog W 0 (fun _ => true) true fn.params.toList args.toList ds ps → (∀ p ∈ ps,p.block < W.heap.size) →
   (∀ (j : Nat) t d,fn.params.toList[j]? = some t → ds[j]? = some d → ∀ m ∈ d.weights C.prog t,m ≤ reachBytes) →
   Calls C.prog f args W fun e W' => e = .returned (.bool true) ∧ Below W.heap.size W W') :
  ReturnsInHanded {} C os f .any (fun w args => (s.pre enc C.prog fn [] false w args ∧ laidMetH C.prog laid w) ∧ sizedMet enc C.prog fn (OpenSpec.ofChange s) false w args) (s.post enc C.prog fn false true false false):=by
 refine returnsInHanded_of_change_shaped (X:=fun w _ => laidMetH C.prog laid w) (fun _ _ _ hh h => h.of_heap hh) own started hno hfn witness ?_
 intro W base args ds gs before hsh hval hW _ hsz hX _
 have hlt:=hW.lt
 have hW':=hW
 obtain ⟨p,q,hA,_,rfl,_,_⟩:=hW
 refine (hc W base args ds p hsh hX hval hA (fun x hx => hlt x (by simp [hx])) ?_).mono ?_
 ·intro j t d ht hd m hm
  have h1 : (fn.params.toList ++ s.plain.varTypes C.prog)[j]? = some t:=by
   rw [List.getElem?_append_left (List.getElem?_eq_some_iff.1 ht).1];exact ht
  have h2 : (ds ++ gs)[j]? = some d:=by
   rw [List.getElem?_append_left (List.getElem?_eq_some_iff.1 hd).1];exact hd
  have:=List.all_eq_true.1 hsz m (DataW.weights_mem_each h1 h2 m hm)
  simpa using this
 ·rintro e W' ⟨rfl,hB⟩
  exact ⟨_,rfl,law_post hl hr hv hres hb hspec hW' hB⟩
theorem holds_tied_goes (Lk : Looks) {p : Pinned} {s : OpenSpec} {c : OpenClaim} (kinds : List LaidKind) (tests : Bool) (har : Bool × String) (lk goes : Bool)
  (hc : c.holds p s) (hw : c.wfByText s = true) (htie : c.laidByTextAt Lk p kinds tests)
  (hst : c.start = .entering) (hnb : c.noBlocks = false ∧ c.again = false) (hm : p.checked.prog.mainIs = some (har.1,har.2.toList)) (hn : (!har.1 && har.2.isEmpty && !lk) = false)
  (hl : ∀ f fn,p.checked.prog.funcNamed c.func = some f → p.checked.prog.funcs[f]? = some fn → lk = p.checked.prog.looks [] ∧ ∀ (j : Nat) t,fn.params[j]? = some t → p.checked.prog.wantsStandIn t = false)
  (hg : goes = c.goesBy p.checked.prog) :
  Claim7.holds p (.plain s) { stood:={ row:=c,standIns:=[],harness:=har,looks:=lk },kinds:=[],alts:=[],goes:=goes,laidByText:=true,laidKinds:=kinds,laidTests:=tests,laidLooks:=Lk }:=by
 have h6 : Claim7.isSixth { stood:={ row:=c,standIns:=[],harness:=har,looks:=lk },kinds:=[] } = false:=by simpa [Claim7.isSixth] using hn
 exact ⟨Claim7.tied_new_at Lk kinds tests (Claim7.new_of_sixth hc har lk hst hnb hm h6 hl) hw,fun D hD => (by cases hD),htie,(fun h => by cases h),hg⟩
end Go.Proofs.YtoheblfpjinmnaaGreatDoor
