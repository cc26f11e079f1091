/- The functions of the door are those of the program. -/
import Derived.Test.YtfhphjloaelgoaaGreatDoorProg
import Derived.Test.YtfhphjloaelgoaaGreatDoorR06Lit
import Derived.Test.YtfhphjloaelgoaaGreatDoorDrD
import Derived.Test.YtfhphjloaelgoaaGreatDoorDrI
import Derived.Test.YtfhphjloaelgoaaGreatDoorG19
import Derived.Test.YtfhphjloaelgoaaGreatDoorR06Ge
import Derived.KernelRfl
namespace Go.Dr.T
open Go.Proofs Go.Shelf
def OkAt (f : Nat) (fc : Fc) : Prop := ∃ fn, Tryz.prog.funcs[f]? = some fn ∧ cFunc Tryz.prog fn = some fc ∧ fn.name ≠ "runtime.NumGoroutine"
theorem ok14:OkAt 14 c14:=⟨Tryz.f14,Tryz.func14,by kernel_rfl,by decide +kernel⟩
theorem ok18:OkAt 18 c18:=⟨Tryz.f18,Tryz.func18,by kernel_rfl,by decide +kernel⟩
theorem ok19:OkAt 19 c19:=⟨Tryz.f19,Tryz.func19,by kernel_rfl,by decide +kernel⟩
theorem ok20:OkAt 20 c20:=⟨Tryz.f20,Tryz.func20,by kernel_rfl,by decide +kernel⟩
theorem ok21:OkAt 21 c21:=⟨Tryz.f21,Tryz.func21,by kernel_rfl,by decide +kernel⟩
theorem ok23:OkAt 23 c23:=⟨Tryz.f23,Tryz.func23,by kernel_rfl,by decide +kernel⟩
theorem ok25:OkAt 25 c25:=⟨Tryz.f25,Tryz.func25,by kernel_rfl,by decide +kernel⟩
theorem ok26:OkAt 26 c26:=⟨Tryz.f26,Tryz.func26,by kernel_rfl,by decide +kernel⟩
theorem ok29:OkAt 29 c29:=⟨Tryz.f29,Tryz.func29,by kernel_rfl,by decide +kernel⟩
theorem ok32:OkAt 32 c32:=⟨Tryz.f32,Tryz.func32,by kernel_rfl,by decide +kernel⟩
theorem ok33:OkAt 33 c33:=⟨Tryz.f33,Tryz.func33,by kernel_rfl,by decide +kernel⟩
theorem ok35:OkAt 35 c35:=⟨Tryz.f35,Tryz.func35,by kernel_rfl,by decide +kernel⟩
theorem ok42:OkAt 42 c42:=⟨Tryz.f42,Tryz.func42,by kernel_rfl,by decide +kernel⟩
theorem ok45:OkAt 45 c45:=⟨Tryz.f45,Tryz.func45,by kernel_rfl,by decide +kernel⟩
theorem ok46:OkAt 46 c46:=⟨Tryz.f46,Tryz.func46,by kernel_rfl,by decide +kernel⟩
theorem ok48:OkAt 48 c48:=⟨Tryz.f48,Tryz.func48,by kernel_rfl,by decide +kernel⟩
theorem ok49:OkAt 49 c49:=⟨Tryz.f49,Tryz.func49,by kernel_rfl,by decide +kernel⟩
theorem ok50:OkAt 50 c50:=⟨Tryz.f50,Tryz.func50,by kernel_rfl,by decide +kernel⟩
theorem ok51:OkAt 51 c51:=⟨Tryz.f51,Tryz.func51,by kernel_rfl,by decide +kernel⟩
theorem ok52:OkAt 52 c52:=⟨Tryz.f52,Tryz.func52,by kernel_rfl,by decide +kernel⟩
theorem ok53:OkAt 53 c53:=⟨Tryz.f53,Tryz.func53,by kernel_rfl,by decide +kernel⟩
theorem ok54:OkAt 54 c54:=⟨Tryz.f54,Tryz.func54,by kernel_rfl,by decide +kernel⟩
theorem ok55:OkAt 55 c55:=⟨Tryz.f55,Tryz.func55,by kernel_rfl,by decide +kernel⟩
theorem ok56:OkAt 56 c56:=⟨Tryz.f56,Tryz.func56,by kernel_rfl,by decide +kernel⟩
theorem ok57:OkAt 57 c57:=⟨Tryz.f57,Tryz.func57,by kernel_rfl,by decide +kernel⟩
theorem ok59:OkAt 59 c59:=⟨Tryz.f59,Tryz.func59,by kernel_rfl,by decide +kernel⟩
theorem ok61:OkAt 61 c61:=⟨Tryz.f61,Tryz.func61,by kernel_rfl,by decide +kernel⟩
theorem ok62:OkAt 62 c62:=⟨Tryz.f62,Tryz.func62,by kernel_rfl,by decide +kernel⟩
theorem ok63:OkAt 63 c63:=⟨Tryz.f63,Tryz.func63,by kernel_rfl,by decide +kernel⟩
theorem ok64:OkAt 64 c64:=⟨Tryz.f64,Tryz.func64,by kernel_rfl,by decide +kernel⟩
theorem ok65:OkAt 65 c65:=⟨Tryz.f65,Tryz.func65,by kernel_rfl,by decide +kernel⟩
theorem ok66:OkAt 66 c66:=⟨Tryz.f66,Tryz.func66,by kernel_rfl,by decide +kernel⟩
theorem ok67:OkAt 67 c67:=⟨Tryz.f67,Tryz.func67,by kernel_rfl,by decide +kernel⟩
theorem ok68:OkAt 68 c68:=⟨Tryz.f68,Tryz.func68,by kernel_rfl,by decide +kernel⟩
theorem ok69:OkAt 69 c69:=⟨Tryz.f69,Tryz.func69,by kernel_rfl,by decide +kernel⟩
theorem ok75:OkAt 75 c75:=⟨Tryz.f75,Tryz.func75,by kernel_rfl,by decide +kernel⟩
theorem ok77:OkAt 77 c77:=⟨Tryz.f77,Tryz.func77,by kernel_rfl,by decide +kernel⟩
theorem ok78:OkAt 78 c78:=⟨Tryz.f78,Tryz.func78,by kernel_rfl,by decide +kernel⟩
theorem ok80:OkAt 80 c80:=⟨Tryz.f80,Tryz.func80,by kernel_rfl,by decide +kernel⟩
theorem ok81:OkAt 81 c81:=⟨Tryz.f81,Tryz.func81,by kernel_rfl,by decide +kernel⟩
theorem ok82:OkAt 82 c82:=⟨Tryz.f82,Tryz.func82,by kernel_rfl,by decide +kernel⟩
theorem ok83:OkAt 83 c83:=⟨Tryz.f83,Tryz.func83,by kernel_rfl,by decide +kernel⟩
theorem ok84:OkAt 84 c84:=⟨Tryz.f84,Tryz.func84,by kernel_rfl,by decide +kernel⟩
theorem ok85:OkAt 85 c85:=⟨Tryz.f85,Tryz.func85,by kernel_rfl,by decide +kernel⟩
theorem ok87:OkAt 87 c87:=⟨Tryz.f87,Tryz.func87,by kernel_rfl,by decide +kernel⟩
theorem ok88:OkAt 88 c88:=⟨Tryz.f88,Tryz.func88,by kernel_rfl,by decide +kernel⟩
theorem ok89:OkAt 89 c89:=⟨Tryz.f89,Tryz.func89,by kernel_rfl,by decide +kernel⟩
theorem ok90:OkAt 90 c90:=⟨Tryz.f90,Tryz.func90,by kernel_rfl,by decide +kernel⟩
theorem ok91:OkAt 91 c91:=⟨Tryz.f91,Tryz.func91,by kernel_rfl,by decide +kernel⟩
theorem ok92:OkAt 92 c92:=⟨Tryz.f92,Tryz.func92,by kernel_rfl,by decide +kernel⟩
theorem ok93:OkAt 93 c93:=⟨Tryz.f93,Tryz.func93,by kernel_rfl,by decide +kernel⟩
theorem ok94:OkAt 94 c94:=⟨Tryz.f94,Tryz.func94,by kernel_rfl,by decide +kernel⟩
theorem ok95:OkAt 95 c95:=⟨Tryz.f95,Tryz.func95,by kernel_rfl,by decide +kernel⟩
theorem ok96:OkAt 96 c96:=⟨Tryz.f96,Tryz.func96,by kernel_rfl,by decide +kernel⟩
theorem ok97:OkAt 97 c97:=⟨Tryz.f97,Tryz.func97,by kernel_rfl,by decide +kernel⟩
theorem ok99:OkAt 99 c99:=⟨Tryz.f99,Tryz.func99,by kernel_rfl,by decide +kernel⟩
theorem ok100:OkAt 100 c100:=⟨Tryz.f100,Tryz.func100,by kernel_rfl,by decide +kernel⟩
theorem ok103:OkAt 103 c103:=⟨Tryz.f103,Tryz.func103,by kernel_rfl,by decide +kernel⟩
theorem ok104:OkAt 104 c104:=⟨Tryz.f104,Tryz.func104,by kernel_rfl,by decide +kernel⟩
theorem ok105:OkAt 105 c105:=⟨Tryz.f105,Tryz.func105,by kernel_rfl,by decide +kernel⟩
theorem ok106:OkAt 106 c106:=⟨Tryz.f106,Tryz.func106,by kernel_rfl,by decide +kernel⟩
theorem ok114:OkAt 114 c114:=⟨Tryz.f114,Tryz.func114,by kernel_rfl,by decide +kernel⟩
theorem ok117:OkAt 117 c117:=⟨Tryz.f117,Tryz.func117,by kernel_rfl,by decide +kernel⟩
theorem ok118:OkAt 118 c118:=⟨Tryz.f118,Tryz.func118,by kernel_rfl,by decide +kernel⟩
theorem ok122:OkAt 122 c122:=⟨Tryz.f122,Tryz.func122,by kernel_rfl,by decide +kernel⟩
def lays138_ren:Ren:={ f:=fun | 138=>119 | 195=>136 | 218=>137 | 143=>120 | 219=>138 | 217=>148 | 225=>149 | 224=>150 | 267=>151 | 266=>155 | 314=>156 | n=>n,t:=fun | 9=>9 | 3=>3 | 4=>4 | 5=>5 | 0=>0 | 46=>53 | 146=>207 | 51=>187 | n=>n,g:=fun | 1=>0 | n=>n }
theorem lays138:Lays.n138 Tryz.prog lays138_ren:={ mixed:=by kernel_rfl,f138:=Tryz.func119.trans (congrArg some (by kernel_rfl)),f143:=Tryz.func120.trans (congrArg some (by kernel_rfl)),f195:=Tryz.func136.trans (congrArg some (by kernel_rfl)),f217:=Tryz.func148.trans (congrArg some (by kernel_rfl)),f218:=Tryz.func137.trans (congrArg some (by kernel_rfl)),f219:=Tryz.func138.trans (congrArg some (by kernel_rfl)),f224:=Tryz.func150.trans (congrArg some (by kernel_rfl)),f225:=Tryz.func149.trans (congrArg some (by kernel_rfl)),f266:=Tryz.func155.trans (congrArg some (by kernel_rfl)),f267:=Tryz.func151.trans (congrArg some (by kernel_rfl)),f314:=Tryz.func156.trans (congrArg some (by kernel_rfl)),t0:=Tryz.underlying0,a0:=Tryz.isAgg0,z0:=Tryz.sizeOf0,v0:=Tryz.zeroValue0,t3:=Tryz.underlying3,a3:=Tryz.isAgg3,z3:=Tryz.sizeOf3,v3:=Tryz.zeroValue3,t4:=Tryz.underlying4,a4:=Tryz.isAgg4,z4:=Tryz.sizeOf4,v4:=Tryz.zeroValue4,t5:=Tryz.underlying5,a5:=Tryz.isAgg5,z5:=Tryz.sizeOf5,v5:=Tryz.zeroValue5,t9:=Tryz.underlying9,a9:=Tryz.isAgg9,z9:=Tryz.sizeOf9,v9:=Tryz.zeroValue9,t46:=Tryz.underlying53,a46:=Tryz.isAgg53,z46:=Tryz.sizeOf53,v46:=Tryz.zeroValue53,t51:=Tryz.underlying187,a51:=Tryz.isAgg187,z51:=Tryz.sizeOf187,v51:=Tryz.zeroValue187,t146:=Tryz.underlying207,a146:=Tryz.isAgg207,z146:=Tryz.sizeOf207,v146:=Tryz.zeroValue207,g1:=by kernel_rfl }
def lays143_ren:Ren:={ f:=fun | 143=>120 | 219=>138 | 217=>148 | 225=>149 | 224=>150 | 267=>151 | 266=>155 | 314=>156 | n=>n,t:=fun | 9=>9 | 3=>3 | 4=>4 | 5=>5 | 46=>53 | 146=>207 | 51=>187 | n=>n,g:=fun | 1=>0 | n=>n }
theorem lays143:Lays.n143 Tryz.prog lays143_ren:={ mixed:=by kernel_rfl,f143:=Tryz.func120.trans (congrArg some (by kernel_rfl)),f217:=Tryz.func148.trans (congrArg some (by kernel_rfl)),f219:=Tryz.func138.trans (congrArg some (by kernel_rfl)),f224:=Tryz.func150.trans (congrArg some (by kernel_rfl)),f225:=Tryz.func149.trans (congrArg some (by kernel_rfl)),f266:=Tryz.func155.trans (congrArg some (by kernel_rfl)),f267:=Tryz.func151.trans (congrArg some (by kernel_rfl)),f314:=Tryz.func156.trans (congrArg some (by kernel_rfl)),t3:=Tryz.underlying3,a3:=Tryz.isAgg3,z3:=Tryz.sizeOf3,v3:=Tryz.zeroValue3,t4:=Tryz.underlying4,a4:=Tryz.isAgg4,z4:=Tryz.sizeOf4,v4:=Tryz.zeroValue4,t5:=Tryz.underlying5,a5:=Tryz.isAgg5,z5:=Tryz.sizeOf5,v5:=Tryz.zeroValue5,t9:=Tryz.underlying9,a9:=Tryz.isAgg9,z9:=Tryz.sizeOf9,v9:=Tryz.zeroValue9,t46:=Tryz.underlying53,a46:=Tryz.isAgg53,z46:=Tryz.sizeOf53,v46:=Tryz.zeroValue53,t51:=Tryz.underlying187,a51:=Tryz.isAgg187,z51:=Tryz.sizeOf187,v51:=Tryz.zeroValue187,t146:=Tryz.underlying207,a146:=Tryz.isAgg207,z146:=Tryz.sizeOf207,v146:=Tryz.zeroValue207,g1:=by kernel_rfl }
def lays160_ren:Ren:={ f:=fun | 160=>86 | 232=>108 | 231=>107 | 227=>109 | 234=>111 | 233=>110 | 236=>113 | 235=>112 | 228=>121 | 271=>124 | 151=>123 | 197=>122 | 120=>141 | 152=>140 | 260=>139 | 137=>152 | 119=>153 | 224=>150 | 225=>149 | 217=>148 | 266=>155 | n=>n,t:=fun | 9=>9 | 4=>4 | 3=>3 | 5=>5 | 117=>165 | 116=>164 | 0=>0 | 124=>168 | 21=>21 | 105=>175 | 46=>53 | 119=>199 | 139=>202 | 138=>201 | n=>n,g:=fun | 3=>1 | 4=>2 | n=>n }
theorem lays160:Lays.n160 Tryz.prog lays160_ren:={ mixed:=by kernel_rfl,f119:=Tryz.func153.trans (congrArg some (by kernel_rfl)),f120:=Tryz.func141.trans (congrArg some (by kernel_rfl)),f137:=Tryz.func152.trans (congrArg some (by kernel_rfl)),f151:=Tryz.func123.trans (congrArg some (by kernel_rfl)),f152:=Tryz.func140.trans (congrArg some (by kernel_rfl)),f160:=Tryz.func86.trans (congrArg some (by kernel_rfl)),f197:=Tryz.func122.trans (congrArg some (by kernel_rfl)),f217:=Tryz.func148.trans (congrArg some (by kernel_rfl)),f224:=Tryz.func150.trans (congrArg some (by kernel_rfl)),f225:=Tryz.func149.trans (congrArg some (by kernel_rfl)),f227:=Tryz.func109.trans (congrArg some (by kernel_rfl)),f228:=Tryz.func121.trans (congrArg some (by kernel_rfl)),f231:=Tryz.func107.trans (congrArg some (by kernel_rfl)),f232:=Tryz.func108.trans (congrArg some (by kernel_rfl)),f233:=Tryz.func110.trans (congrArg some (by kernel_rfl)),f234:=Tryz.func111.trans (congrArg some (by kernel_rfl)),f235:=Tryz.func112.trans (congrArg some (by kernel_rfl)),f236:=Tryz.func113.trans (congrArg some (by kernel_rfl)),f260:=Tryz.func139.trans (congrArg some (by kernel_rfl)),f266:=Tryz.func155.trans (congrArg some (by kernel_rfl)),f271:=Tryz.func124.trans (congrArg some (by kernel_rfl)),t0:=Tryz.underlying0,a0:=Tryz.isAgg0,z0:=Tryz.sizeOf0,v0:=Tryz.zeroValue0,t3:=Tryz.underlying3,a3:=Tryz.isAgg3,z3:=Tryz.sizeOf3,v3:=Tryz.zeroValue3,t4:=Tryz.underlying4,a4:=Tryz.isAgg4,z4:=Tryz.sizeOf4,v4:=Tryz.zeroValue4,t5:=Tryz.underlying5,a5:=Tryz.isAgg5,z5:=Tryz.sizeOf5,v5:=Tryz.zeroValue5,t9:=Tryz.underlying9,a9:=Tryz.isAgg9,z9:=Tryz.sizeOf9,v9:=Tryz.zeroValue9,t21:=Tryz.underlying21,a21:=Tryz.isAgg21,z21:=Tryz.sizeOf21,v21:=Tryz.zeroValue21,t46:=Tryz.underlying53,a46:=Tryz.isAgg53,z46:=Tryz.sizeOf53,v46:=Tryz.zeroValue53,t105:=Tryz.underlying175,a105:=Tryz.isAgg175,z105:=Tryz.sizeOf175,v105:=Tryz.zeroValue175,t116:=Tryz.underlying164,a116:=Tryz.isAgg164,z116:=Tryz.sizeOf164,t117:=Tryz.underlying165,a117:=Tryz.isAgg165,z117:=Tryz.sizeOf165,v117:=Tryz.zeroValue165,t119:=Tryz.underlying199,a119:=Tryz.isAgg199,z119:=Tryz.sizeOf199,t124:=Tryz.underlying168,a124:=Tryz.isAgg168,z124:=Tryz.sizeOf168,v124:=Tryz.zeroValue168,t138:=Tryz.underlying201,a138:=Tryz.isAgg201,z138:=Tryz.sizeOf201,v138:=Tryz.zeroValue201,t139:=Tryz.underlying202,a139:=Tryz.isAgg202,z139:=Tryz.sizeOf202,v139:=Tryz.zeroValue202,g3:=by kernel_rfl,g4:=by kernel_rfl }
def lays189_ren:Ren:={ f:=fun | 189=>98 | 125=>116 | 257=>115 | 128=>134 | 129=>135 | 294=>125 | 295=>126 | 296=>127 | 297=>128 | 298=>129 | 299=>130 | 216=>131 | 300=>132 | 301=>133 | 328=>142 | 329=>143 | 330=>144 | 331=>145 | 332=>146 | 215=>147 | 343=>154 | n=>n,t:=fun | 28=>59 | 3=>3 | 46=>53 | 0=>0 | 51=>187 | 53=>51 | 4=>4 | 183=>180 | 182=>179 | 131=>155 | 5=>5 | 9=>9 | 218=>192 | 222=>196 | 228=>204 | 229=>205 | n=>n,g:=fun x=>have n:=x;n }
theorem lays189:Lays.n189 Tryz.prog lays189_ren:={ mixed:=by kernel_rfl,f125:=Tryz.func116.trans (congrArg some (by kernel_rfl)),f128:=Tryz.func134.trans (congrArg some (by kernel_rfl)),f129:=Tryz.func135.trans (congrArg some (by kernel_rfl)),f189:=Tryz.func98.trans (congrArg some (by kernel_rfl)),f215:=Tryz.func147.trans (congrArg some (by kernel_rfl)),f216:=Tryz.func131.trans (congrArg some (by kernel_rfl)),f257:=Tryz.func115.trans (congrArg some (by kernel_rfl)),f294:=Tryz.func125.trans (congrArg some (by kernel_rfl)),f295:=Tryz.func126.trans (congrArg some (by kernel_rfl)),f296:=Tryz.func127.trans (congrArg some (by kernel_rfl)),f297:=Tryz.func128.trans (congrArg some (by kernel_rfl)),f298:=Tryz.func129.trans (congrArg some (by kernel_rfl)),f299:=Tryz.func130.trans (congrArg some (by kernel_rfl)),f300:=Tryz.func132.trans (congrArg some (by kernel_rfl)),f301:=Tryz.func133.trans (congrArg some (by kernel_rfl)),f328:=Tryz.func142.trans (congrArg some (by kernel_rfl)),f329:=Tryz.func143.trans (congrArg some (by kernel_rfl)),f330:=Tryz.func144.trans (congrArg some (by kernel_rfl)),f331:=Tryz.func145.trans (congrArg some (by kernel_rfl)),f332:=Tryz.func146.trans (congrArg some (by kernel_rfl)),f343:=Tryz.func154.trans (congrArg some (by kernel_rfl)),t0:=Tryz.underlying0,a0:=Tryz.isAgg0,z0:=Tryz.sizeOf0,v0:=Tryz.zeroValue0,t3:=Tryz.underlying3,a3:=Tryz.isAgg3,z3:=Tryz.sizeOf3,v3:=Tryz.zeroValue3,t4:=Tryz.underlying4,a4:=Tryz.isAgg4,z4:=Tryz.sizeOf4,v4:=Tryz.zeroValue4,t5:=Tryz.underlying5,a5:=Tryz.isAgg5,z5:=Tryz.sizeOf5,v5:=Tryz.zeroValue5,t9:=Tryz.underlying9,a9:=Tryz.isAgg9,z9:=Tryz.sizeOf9,v9:=Tryz.zeroValue9,t28:=Tryz.underlying59,a28:=Tryz.isAgg59,z28:=Tryz.sizeOf59,v28:=Tryz.zeroValue59,t46:=Tryz.underlying53,a46:=Tryz.isAgg53,z46:=Tryz.sizeOf53,v46:=Tryz.zeroValue53,t51:=Tryz.underlying187,a51:=Tryz.isAgg187,z51:=Tryz.sizeOf187,v51:=Tryz.zeroValue187,t53:=Tryz.underlying51,a53:=Tryz.isAgg51,z53:=Tryz.sizeOf51,v53:=Tryz.zeroValue51,t131:=Tryz.underlying155,a131:=Tryz.isAgg155,z131:=Tryz.sizeOf155,v131:=Tryz.zeroValue155,t182:=Tryz.underlying179,a182:=Tryz.isAgg179,z182:=Tryz.sizeOf179,v182:=Tryz.zeroValue179,t183:=Tryz.underlying180,a183:=Tryz.isAgg180,z183:=Tryz.sizeOf180,v183:=Tryz.zeroValue180,t218:=Tryz.underlying192,a218:=Tryz.isAgg192,z218:=Tryz.sizeOf192,v218:=Tryz.zeroValue192,t222:=Tryz.underlying196,a222:=Tryz.isAgg196,z222:=Tryz.sizeOf196,v222:=Tryz.zeroValue196,t228:=Tryz.underlying204,a228:=Tryz.isAgg204,z228:=Tryz.sizeOf204,v228:=Tryz.zeroValue204,t229:=Tryz.underlying205,a229:=Tryz.isAgg205,z229:=Tryz.sizeOf205,v229:=Tryz.zeroValue205 }
set_option maxRecDepth 100000 in
theorem tableOk:TableOk Tryz.prog F:=by
 intro f fc h
 unfold F at h
 split at h
 ·cases h;exact EntryOk.comp ok14
 ·cases h;exact EntryOk.comp ok18
 ·cases h;exact EntryOk.comp ok19
 ·cases h;exact EntryOk.comp ok20
 ·cases h;exact EntryOk.comp ok21
 ·cases h;exact EntryOk.comp ok23
 ·cases h;exact EntryOk.comp ok25
 ·cases h;exact EntryOk.comp ok26
 ·cases h;exact EntryOk.comp ok29
 ·cases h;exact EntryOk.comp ok32
 ·cases h;exact EntryOk.comp ok33
 ·cases h;exact EntryOk.comp ok35
 ·cases h;exact EntryOk.comp ok42
 ·cases h;exact EntryOk.comp ok45
 ·cases h;exact EntryOk.comp ok46
 ·cases h;exact EntryOk.comp ok48
 ·cases h;exact EntryOk.comp ok49
 ·cases h;exact EntryOk.comp ok50
 ·cases h;exact EntryOk.comp ok51
 ·cases h;exact EntryOk.comp ok52
 ·cases h;exact EntryOk.comp ok53
 ·cases h;exact EntryOk.comp ok54
 ·cases h;exact EntryOk.comp ok55
 ·cases h;exact EntryOk.comp ok56
 ·cases h;exact EntryOk.comp ok57
 ·cases h;exact EntryOk.comp ok59
 ·cases h;exact EntryOk.comp ok61
 ·cases h;exact EntryOk.comp ok62
 ·cases h;exact EntryOk.comp ok63
 ·cases h;exact EntryOk.comp ok64
 ·cases h;exact EntryOk.comp ok65
 ·cases h;exact EntryOk.comp ok66
 ·cases h;exact EntryOk.comp ok67
 ·cases h;exact EntryOk.comp ok68
 ·cases h;exact EntryOk.comp ok69
 ·cases h;exact EntryOk.comp ok75
 ·cases h;exact EntryOk.comp ok77
 ·cases h;exact EntryOk.comp ok78
 ·cases h;exact EntryOk.comp ok80
 ·cases h;exact EntryOk.comp ok81
 ·cases h;exact EntryOk.comp ok82
 ·cases h;exact EntryOk.comp ok83
 ·cases h;exact EntryOk.comp ok84
 ·cases h;exact EntryOk.comp ok85
 ·cases h;exact EntryOk.comp ok87
 ·cases h;exact EntryOk.comp ok88
 ·cases h;exact EntryOk.comp ok89
 ·cases h;exact EntryOk.comp ok90
 ·cases h;exact EntryOk.comp ok91
 ·cases h;exact EntryOk.comp ok92
 ·cases h;exact EntryOk.comp ok93
 ·cases h;exact EntryOk.comp ok94
 ·cases h;exact EntryOk.comp ok95
 ·cases h;exact EntryOk.comp ok96
 ·cases h;exact EntryOk.comp ok97
 ·cases h;exact EntryOk.comp ok99
 ·cases h;exact EntryOk.comp ok100
 ·cases h;exact EntryOk.comp ok103
 ·cases h;exact EntryOk.comp ok104
 ·cases h;exact EntryOk.comp ok105
 ·cases h;exact EntryOk.comp ok106
 ·cases h;exact EntryOk.comp ok114
 ·cases h;exact EntryOk.comp ok117
 ·cases h;exact EntryOk.comp ok118
 ·cases h;exact EntryOk.comp ok122
 ·cases h
theorem tableB:TableOk Tryz.prog FB:=by
 intro f fc h
 unfold FB at h
 split at h
 ·cases h
 ·cases h
 ·cases h
 ·cases h;exact EntryOk.known ⟨Tryz.f86,Tryz.func86,by kernel_rfl,by decide +kernel⟩ (kn_trim lays160 (by kernel_rfl))
 ·cases h;exact EntryOk.known ⟨Tryz.f98,Tryz.func98,by kernel_rfl,by decide +kernel⟩ (kn_sort lays189)
 ·cases h;exact EntryOk.known ⟨Tryz.f119,Tryz.func119,by kernel_rfl,by decide +kernel⟩ (kn_count lays138)
 ·cases h;exact EntryOk.known ⟨Tryz.f120,Tryz.func120,by kernel_rfl,by decide +kernel⟩ (kn_index lays143)
 ·exact tableOk f fc h
theorem kn65:KnOk Tryz.prog 65 1 (plainKn gatG):=by
 obtain ⟨fn,h1,h2,_⟩:=ok65
 exact kn_plain tableB h1 h2 fun ls v h _=>by
  obtain ⟨c,l,rfl,rfl⟩:=gatG_some h
  exact gather_walk c65 rfl
theorem srtdG_some {ls:List V} {v:V} (h:srtdG ls=some v):∃ ks vs,ls=[.rm (ofInts ks) vs]∧ks.length≤1000000∧v=lw false (isort ks):=by
 unfold srtdG at h
 split at h
 ·rename_i kc vs
  split at h
  ·rename_i ks hk
   split at h
   ·rename_i hl
    cases h
    exact ⟨ks,vs,by rw [intsOf_eq hk],hl,rfl⟩
   ·cases h
  ·cases h
 ·cases h
theorem kn67:KnOk Tryz.prog 67 1 (plainKn srtdG):=by
 obtain ⟨fn,h1,h2,_⟩:=ok67
 exact kn_plain tableB h1 h2 fun ls v h _=>by
  obtain ⟨ks,vs,rfl,hk,rfl⟩:=srtdG_some h
  exact sorted_walk hk c67 rfl
theorem tableB1:TableOk Tryz.prog FB1:=by
 intro f fc h
 unfold FB1 at h
 split at h
 ·cases h;exact EntryOk.known ⟨Tryz.f65,Tryz.func65,by kernel_rfl,by decide +kernel⟩ (kn65)
 ·cases h;exact EntryOk.known ⟨Tryz.f67,Tryz.func67,by kernel_rfl,by decide +kernel⟩ (kn67)
 ·exact tableB f fc h
theorem kn33:KnOk Tryz.prog 33 1 (plainKn whoG):=by
 obtain ⟨fn,h1,h2,_⟩:=ok33
 exact kn_plain tableB1 h1 h2 fun ls v h _=>by
  obtain ⟨c,l,rfl,hw,rfl⟩:=whoG_some h
  exact hw
theorem tableB2:TableOk Tryz.prog FB2:=by
 intro f fc h
 unfold FB2 at h
 split at h
 ·cases h;exact EntryOk.known ⟨Tryz.f33,Tryz.func33,by kernel_rfl,by decide +kernel⟩ (kn33)
 ·exact tableB1 f fc h
end Go.Dr.T
