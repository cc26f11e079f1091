/- The functions of the door are those of the program. -/
import Derived.Test.YthihdpbgmhnloaaGreatDoorProg
import Derived.Test.YthihdpbgmhnloaaGreatDoorR08Lit
import Derived.Test.YthihdpbgmhnloaaGreatDoorDrD
import Derived.Test.YthihdpbgmhnloaaGreatDoorG14
import Derived.Test.YthihdpbgmhnloaaGreatDoorG19
import Derived.Test.YthihdpbgmhnloaaGreatDoorR08Lb
import Derived.KernelRfl
namespace Go.Dr.T
open Go.Proofs Go.Shelf
abbrev tabN : String := "internal/strconv.uint64pow10"
instance:GT Tryz.prog:=⟨6,fun w=>Lib.TabIs Tryz.prog w tabN .u64 Lib.pow10Tab,fun hb h=>tab_mono (g:=5) (by kernel_rfl) hb h⟩
theorem tabSize {w:World} (h:Lib.TabIs Tryz.prog w tabN .u64 Lib.pow10Tab):6≤w.heap.size:=tab_size (g:=5) (by kernel_rfl) h
def OkAt (f : Nat) (fc : Fc) : Prop := ∃ fn, Tryz.prog.funcs[f]? = some fn ∧ cFunc Tryz.prog fn = some fc ∧ fn.name ≠ "runtime.NumGoroutine"
theorem ok8:OkAt 8 c8:=⟨Tryz.f8,Tryz.func8,by kernel_rfl,by decide +kernel⟩
theorem ok16:OkAt 16 c16:=⟨Tryz.f16,Tryz.func16,by kernel_rfl,by decide +kernel⟩
theorem ok19:OkAt 19 c19:=⟨Tryz.f19,Tryz.func19,by kernel_rfl,by decide +kernel⟩
theorem ok20:OkAt 20 c20:=⟨Tryz.f20,Tryz.func20,by kernel_rfl,by decide +kernel⟩
theorem ok23:OkAt 23 c23:=⟨Tryz.f23,Tryz.func23,by kernel_rfl,by decide +kernel⟩
theorem ok24:OkAt 24 c24:=⟨Tryz.f24,Tryz.func24,by kernel_rfl,by decide +kernel⟩
theorem ok26:OkAt 26 c26:=⟨Tryz.f26,Tryz.func26,by kernel_rfl,by decide +kernel⟩
theorem ok27:OkAt 27 c27:=⟨Tryz.f27,Tryz.func27,by kernel_rfl,by decide +kernel⟩
theorem ok29:OkAt 29 c29:=⟨Tryz.f29,Tryz.func29,by kernel_rfl,by decide +kernel⟩
theorem ok30:OkAt 30 c30:=⟨Tryz.f30,Tryz.func30,by kernel_rfl,by decide +kernel⟩
theorem ok33:OkAt 33 c33:=⟨Tryz.f33,Tryz.func33,by kernel_rfl,by decide +kernel⟩
theorem ok37:OkAt 37 c37:=⟨Tryz.f37,Tryz.func37,by kernel_rfl,by decide +kernel⟩
theorem ok38:OkAt 38 c38:=⟨Tryz.f38,Tryz.func38,by kernel_rfl,by decide +kernel⟩
theorem ok39:OkAt 39 c39:=⟨Tryz.f39,Tryz.func39,by kernel_rfl,by decide +kernel⟩
theorem ok40:OkAt 40 c40:=⟨Tryz.f40,Tryz.func40,by kernel_rfl,by decide +kernel⟩
theorem ok41:OkAt 41 c41:=⟨Tryz.f41,Tryz.func41,by kernel_rfl,by decide +kernel⟩
theorem ok42:OkAt 42 c42:=⟨Tryz.f42,Tryz.func42,by kernel_rfl,by decide +kernel⟩
theorem ok43:OkAt 43 c43:=⟨Tryz.f43,Tryz.func43,by kernel_rfl,by decide +kernel⟩
theorem ok47:OkAt 47 c47:=⟨Tryz.f47,Tryz.func47,by kernel_rfl,by decide +kernel⟩
theorem ok50:OkAt 50 c50:=⟨Tryz.f50,Tryz.func50,by kernel_rfl,by decide +kernel⟩
theorem ok51:OkAt 51 c51:=⟨Tryz.f51,Tryz.func51,by kernel_rfl,by decide +kernel⟩
theorem ok52:OkAt 52 c52:=⟨Tryz.f52,Tryz.func52,by kernel_rfl,by decide +kernel⟩
theorem ok53:OkAt 53 c53:=⟨Tryz.f53,Tryz.func53,by kernel_rfl,by decide +kernel⟩
theorem ok54:OkAt 54 c54:=⟨Tryz.f54,Tryz.func54,by kernel_rfl,by decide +kernel⟩
theorem ok55:OkAt 55 c55:=⟨Tryz.f55,Tryz.func55,by kernel_rfl,by decide +kernel⟩
theorem ok56:OkAt 56 c56:=⟨Tryz.f56,Tryz.func56,by kernel_rfl,by decide +kernel⟩
theorem ok57:OkAt 57 c57:=⟨Tryz.f57,Tryz.func57,by kernel_rfl,by decide +kernel⟩
theorem ok61:OkAt 61 c61:=⟨Tryz.f61,Tryz.func61,by kernel_rfl,by decide +kernel⟩
theorem ok63:OkAt 63 c63:=⟨Tryz.f63,Tryz.func63,by kernel_rfl,by decide +kernel⟩
theorem ok64:OkAt 64 c64:=⟨Tryz.f64,Tryz.func64,by kernel_rfl,by decide +kernel⟩
theorem ok65:OkAt 65 c65:=⟨Tryz.f65,Tryz.func65,by kernel_rfl,by decide +kernel⟩
theorem ok66:OkAt 66 c66:=⟨Tryz.f66,Tryz.func66,by kernel_rfl,by decide +kernel⟩
theorem ok68:OkAt 68 c68:=⟨Tryz.f68,Tryz.func68,by kernel_rfl,by decide +kernel⟩
theorem ok69:OkAt 69 c69:=⟨Tryz.f69,Tryz.func69,by kernel_rfl,by decide +kernel⟩
theorem ok76:OkAt 76 c76:=⟨Tryz.f76,Tryz.func76,by kernel_rfl,by decide +kernel⟩
theorem ok84:OkAt 84 c84:=⟨Tryz.f84,Tryz.func84,by kernel_rfl,by decide +kernel⟩
theorem ok85:OkAt 85 c85:=⟨Tryz.f85,Tryz.func85,by kernel_rfl,by decide +kernel⟩
theorem ok86:OkAt 86 c86:=⟨Tryz.f86,Tryz.func86,by kernel_rfl,by decide +kernel⟩
theorem ok91:OkAt 91 c91:=⟨Tryz.f91,Tryz.func91,by kernel_rfl,by decide +kernel⟩
theorem ok92:OkAt 92 c92:=⟨Tryz.f92,Tryz.func92,by kernel_rfl,by decide +kernel⟩
theorem ok93:OkAt 93 c93:=⟨Tryz.f93,Tryz.func93,by kernel_rfl,by decide +kernel⟩
theorem ok94:OkAt 94 c94:=⟨Tryz.f94,Tryz.func94,by kernel_rfl,by decide +kernel⟩
theorem ok95:OkAt 95 c95:=⟨Tryz.f95,Tryz.func95,by kernel_rfl,by decide +kernel⟩
theorem ok96:OkAt 96 c96:=⟨Tryz.f96,Tryz.func96,by kernel_rfl,by decide +kernel⟩
theorem ok97:OkAt 97 c97:=⟨Tryz.f97,Tryz.func97,by kernel_rfl,by decide +kernel⟩
theorem ok98:OkAt 98 c98:=⟨Tryz.f98,Tryz.func98,by kernel_rfl,by decide +kernel⟩
theorem ok99:OkAt 99 c99:=⟨Tryz.f99,Tryz.func99,by kernel_rfl,by decide +kernel⟩
theorem ok103:OkAt 103 c103:=⟨Tryz.f103,Tryz.func103,by kernel_rfl,by decide +kernel⟩
theorem ok104:OkAt 104 c104:=⟨Tryz.f104,Tryz.func104,by kernel_rfl,by decide +kernel⟩
theorem ok105:OkAt 105 c105:=⟨Tryz.f105,Tryz.func105,by kernel_rfl,by decide +kernel⟩
theorem ok106:OkAt 106 c106:=⟨Tryz.f106,Tryz.func106,by kernel_rfl,by decide +kernel⟩
theorem ok108:OkAt 108 c108:=⟨Tryz.f108,Tryz.func108,by kernel_rfl,by decide +kernel⟩
theorem ok115:OkAt 115 c115:=⟨Tryz.f115,Tryz.func115,by kernel_rfl,by decide +kernel⟩
theorem ok118:OkAt 118 c118:=⟨Tryz.f118,Tryz.func118,by kernel_rfl,by decide +kernel⟩
theorem ok119:OkAt 119 c119:=⟨Tryz.f119,Tryz.func119,by kernel_rfl,by decide +kernel⟩
theorem ok120:OkAt 120 c120:=⟨Tryz.f120,Tryz.func120,by kernel_rfl,by decide +kernel⟩
theorem ok126:OkAt 126 c126:=⟨Tryz.f126,Tryz.func126,by kernel_rfl,by decide +kernel⟩
theorem ok127:OkAt 127 c127:=⟨Tryz.f127,Tryz.func127,by kernel_rfl,by decide +kernel⟩
theorem ok135:OkAt 135 c135:=⟨Tryz.f135,Tryz.func135,by kernel_rfl,by decide +kernel⟩
theorem ok136:OkAt 136 c136:=⟨Tryz.f136,Tryz.func136,by kernel_rfl,by decide +kernel⟩
theorem ok140:OkAt 140 c140:=⟨Tryz.f140,Tryz.func140,by kernel_rfl,by decide +kernel⟩
theorem ok145:OkAt 145 c145:=⟨Tryz.f145,Tryz.func145,by kernel_rfl,by decide +kernel⟩
theorem ok146:OkAt 146 c146:=⟨Tryz.f146,Tryz.func146,by kernel_rfl,by decide +kernel⟩
theorem ok147:OkAt 147 c147:=⟨Tryz.f147,Tryz.func147,by kernel_rfl,by decide +kernel⟩
theorem ok148:OkAt 148 c148:=⟨Tryz.f148,Tryz.func148,by kernel_rfl,by decide +kernel⟩
theorem ok149:OkAt 149 c149:=⟨Tryz.f149,Tryz.func149,by kernel_rfl,by decide +kernel⟩
theorem ok150:OkAt 150 c150:=⟨Tryz.f150,Tryz.func150,by kernel_rfl,by decide +kernel⟩
theorem ok152:OkAt 152 c152:=⟨Tryz.f152,Tryz.func152,by kernel_rfl,by decide +kernel⟩
theorem ok166:OkAt 166 c166:=⟨Tryz.f166,Tryz.func166,by kernel_rfl,by decide +kernel⟩
theorem ok167:OkAt 167 c167:=⟨Tryz.f167,Tryz.func167,by kernel_rfl,by decide +kernel⟩
def lays138_ren:Ren:={ f:=fun | 138=>141 | 195=>158 | 218=>159 | 143=>142 | 219=>160 | 217=>175 | 225=>176 | 224=>177 | 267=>178 | 266=>189 | 314=>190 | n=>n,t:=fun | 9=>9 | 3=>3 | 4=>4 | 5=>5 | 0=>0 | 46=>209 | 146=>227 | 51=>223 | n=>n,g:=fun | 1=>0 | n=>n }
theorem lays138:Lays.n138 Tryz.prog lays138_ren:={ mixed:=by kernel_rfl,f138:=Tryz.func141.trans (congrArg some (by kernel_rfl)),f143:=Tryz.func142.trans (congrArg some (by kernel_rfl)),f195:=Tryz.func158.trans (congrArg some (by kernel_rfl)),f217:=Tryz.func175.trans (congrArg some (by kernel_rfl)),f218:=Tryz.func159.trans (congrArg some (by kernel_rfl)),f219:=Tryz.func160.trans (congrArg some (by kernel_rfl)),f224:=Tryz.func177.trans (congrArg some (by kernel_rfl)),f225:=Tryz.func176.trans (congrArg some (by kernel_rfl)),f266:=Tryz.func189.trans (congrArg some (by kernel_rfl)),f267:=Tryz.func178.trans (congrArg some (by kernel_rfl)),f314:=Tryz.func190.trans (congrArg some (by kernel_rfl)),t0:=Tryz.underlying0,a0:=Tryz.isAgg0,z0:=Tryz.sizeOf0,v0:=Tryz.zeroValue0,t3:=Tryz.underlying3,a3:=Tryz.isAgg3,z3:=Tryz.sizeOf3,v3:=Tryz.zeroValue3,t4:=Tryz.underlying4,a4:=Tryz.isAgg4,z4:=Tryz.sizeOf4,v4:=Tryz.zeroValue4,t5:=Tryz.underlying5,a5:=Tryz.isAgg5,z5:=Tryz.sizeOf5,v5:=Tryz.zeroValue5,t9:=Tryz.underlying9,a9:=Tryz.isAgg9,z9:=Tryz.sizeOf9,v9:=Tryz.zeroValue9,t46:=Tryz.underlying209,a46:=Tryz.isAgg209,z46:=Tryz.sizeOf209,v46:=Tryz.zeroValue209,t51:=Tryz.underlying223,a51:=Tryz.isAgg223,z51:=Tryz.sizeOf223,v51:=Tryz.zeroValue223,t146:=Tryz.underlying227,a146:=Tryz.isAgg227,z146:=Tryz.sizeOf227,v146:=Tryz.zeroValue227,g1:=by kernel_rfl }
def lays143_ren:Ren:={ f:=fun | 143=>142 | 219=>160 | 217=>175 | 225=>176 | 224=>177 | 267=>178 | 266=>189 | 314=>190 | n=>n,t:=fun | 9=>9 | 3=>3 | 4=>4 | 5=>5 | 46=>209 | 146=>227 | 51=>223 | n=>n,g:=fun | 1=>0 | n=>n }
theorem lays143:Lays.n143 Tryz.prog lays143_ren:={ mixed:=by kernel_rfl,f143:=Tryz.func142.trans (congrArg some (by kernel_rfl)),f217:=Tryz.func175.trans (congrArg some (by kernel_rfl)),f219:=Tryz.func160.trans (congrArg some (by kernel_rfl)),f224:=Tryz.func177.trans (congrArg some (by kernel_rfl)),f225:=Tryz.func176.trans (congrArg some (by kernel_rfl)),f266:=Tryz.func189.trans (congrArg some (by kernel_rfl)),f267:=Tryz.func178.trans (congrArg some (by kernel_rfl)),f314:=Tryz.func190.trans (congrArg some (by kernel_rfl)),t3:=Tryz.underlying3,a3:=Tryz.isAgg3,z3:=Tryz.sizeOf3,v3:=Tryz.zeroValue3,t4:=Tryz.underlying4,a4:=Tryz.isAgg4,z4:=Tryz.sizeOf4,v4:=Tryz.zeroValue4,t5:=Tryz.underlying5,a5:=Tryz.isAgg5,z5:=Tryz.sizeOf5,v5:=Tryz.zeroValue5,t9:=Tryz.underlying9,a9:=Tryz.isAgg9,z9:=Tryz.sizeOf9,v9:=Tryz.zeroValue9,t46:=Tryz.underlying209,a46:=Tryz.isAgg209,z46:=Tryz.sizeOf209,v46:=Tryz.zeroValue209,t51:=Tryz.underlying223,a51:=Tryz.isAgg223,z51:=Tryz.sizeOf223,v51:=Tryz.zeroValue223,t146:=Tryz.underlying227,a146:=Tryz.isAgg227,z146:=Tryz.sizeOf227,v146:=Tryz.zeroValue227,g1:=by kernel_rfl }
def lays160_ren:Ren:={ f:=fun | 160=>100 | 232=>129 | 231=>128 | 227=>130 | 234=>132 | 233=>131 | 236=>134 | 235=>133 | 228=>151 | 271=>154 | 151=>153 | 197=>152 | 120=>170 | 152=>169 | 260=>168 | 137=>182 | 119=>183 | 224=>177 | 225=>176 | 217=>175 | 266=>189 | n=>n,t:=fun | 9=>9 | 4=>4 | 3=>3 | 5=>5 | 117=>179 | 116=>178 | 0=>0 | 124=>182 | 21=>21 | 105=>187 | 46=>209 | 119=>216 | 139=>219 | 138=>218 | n=>n,g:=fun | 3=>3 | 4=>4 | n=>n }
theorem lays160:Lays.n160 Tryz.prog lays160_ren:={ mixed:=by kernel_rfl,f119:=Tryz.func183.trans (congrArg some (by kernel_rfl)),f120:=Tryz.func170.trans (congrArg some (by kernel_rfl)),f137:=Tryz.func182.trans (congrArg some (by kernel_rfl)),f151:=Tryz.func153.trans (congrArg some (by kernel_rfl)),f152:=Tryz.func169.trans (congrArg some (by kernel_rfl)),f160:=Tryz.func100.trans (congrArg some (by kernel_rfl)),f197:=Tryz.func152.trans (congrArg some (by kernel_rfl)),f217:=Tryz.func175.trans (congrArg some (by kernel_rfl)),f224:=Tryz.func177.trans (congrArg some (by kernel_rfl)),f225:=Tryz.func176.trans (congrArg some (by kernel_rfl)),f227:=Tryz.func130.trans (congrArg some (by kernel_rfl)),f228:=Tryz.func151.trans (congrArg some (by kernel_rfl)),f231:=Tryz.func128.trans (congrArg some (by kernel_rfl)),f232:=Tryz.func129.trans (congrArg some (by kernel_rfl)),f233:=Tryz.func131.trans (congrArg some (by kernel_rfl)),f234:=Tryz.func132.trans (congrArg some (by kernel_rfl)),f235:=Tryz.func133.trans (congrArg some (by kernel_rfl)),f236:=Tryz.func134.trans (congrArg some (by kernel_rfl)),f260:=Tryz.func168.trans (congrArg some (by kernel_rfl)),f266:=Tryz.func189.trans (congrArg some (by kernel_rfl)),f271:=Tryz.func154.trans (congrArg some (by kernel_rfl)),t0:=Tryz.underlying0,a0:=Tryz.isAgg0,z0:=Tryz.sizeOf0,v0:=Tryz.zeroValue0,t3:=Tryz.underlying3,a3:=Tryz.isAgg3,z3:=Tryz.sizeOf3,v3:=Tryz.zeroValue3,t4:=Tryz.underlying4,a4:=Tryz.isAgg4,z4:=Tryz.sizeOf4,v4:=Tryz.zeroValue4,t5:=Tryz.underlying5,a5:=Tryz.isAgg5,z5:=Tryz.sizeOf5,v5:=Tryz.zeroValue5,t9:=Tryz.underlying9,a9:=Tryz.isAgg9,z9:=Tryz.sizeOf9,v9:=Tryz.zeroValue9,t21:=Tryz.underlying21,a21:=Tryz.isAgg21,z21:=Tryz.sizeOf21,v21:=Tryz.zeroValue21,t46:=Tryz.underlying209,a46:=Tryz.isAgg209,z46:=Tryz.sizeOf209,v46:=Tryz.zeroValue209,t105:=Tryz.underlying187,a105:=Tryz.isAgg187,z105:=Tryz.sizeOf187,v105:=Tryz.zeroValue187,t116:=Tryz.underlying178,a116:=Tryz.isAgg178,z116:=Tryz.sizeOf178,t117:=Tryz.underlying179,a117:=Tryz.isAgg179,z117:=Tryz.sizeOf179,v117:=Tryz.zeroValue179,t119:=Tryz.underlying216,a119:=Tryz.isAgg216,z119:=Tryz.sizeOf216,t124:=Tryz.underlying182,a124:=Tryz.isAgg182,z124:=Tryz.sizeOf182,v124:=Tryz.zeroValue182,t138:=Tryz.underlying218,a138:=Tryz.isAgg218,z138:=Tryz.sizeOf218,v138:=Tryz.zeroValue218,t139:=Tryz.underlying219,a139:=Tryz.isAgg219,z139:=Tryz.sizeOf219,v139:=Tryz.zeroValue219,g3:=by kernel_rfl,g4:=by kernel_rfl }
def lays156_ren:Ren:={ f:=fun | 156=>70 | 165=>110 | 166=>111 | 169=>112 | 240=>138 | 241=>139 | 276=>156 | 277=>157 | n=>n,t:=fun | 31=>123 | 9=>9 | 3=>3 | 4=>4 | 0=>0 | 20=>20 | 72=>157 | 76=>161 | 70=>155 | 37=>24 | 75=>160 | 127=>152 | 164=>191 | 5=>5 | 80=>80 | n=>n,g:=fun x=>have n:=x;n }
theorem lays156:Lays.n156 Tryz.prog lays156_ren:={ mixed:=by kernel_rfl,f156:=Tryz.func70.trans (congrArg some (by kernel_rfl)),f165:=Tryz.func110.trans (congrArg some (by kernel_rfl)),f166:=Tryz.func111.trans (congrArg some (by kernel_rfl)),f169:=Tryz.func112.trans (congrArg some (by kernel_rfl)),f240:=Tryz.func138.trans (congrArg some (by kernel_rfl)),f241:=Tryz.func139.trans (congrArg some (by kernel_rfl)),f276:=Tryz.func156.trans (congrArg some (by kernel_rfl)),f277:=Tryz.func157.trans (congrArg some (by kernel_rfl)),t0:=Tryz.underlying0,a0:=Tryz.isAgg0,z0:=Tryz.sizeOf0,v0:=Tryz.zeroValue0,t3:=Tryz.underlying3,a3:=Tryz.isAgg3,z3:=Tryz.sizeOf3,v3:=Tryz.zeroValue3,t4:=Tryz.underlying4,a4:=Tryz.isAgg4,z4:=Tryz.sizeOf4,v4:=Tryz.zeroValue4,t9:=Tryz.underlying9,a9:=Tryz.isAgg9,z9:=Tryz.sizeOf9,v9:=Tryz.zeroValue9,t20:=Tryz.underlying20,a20:=Tryz.isAgg20,z20:=Tryz.sizeOf20,v20:=Tryz.zeroValue20,t31:=Tryz.underlying123,a31:=Tryz.isAgg123,z31:=Tryz.sizeOf123,v31:=Tryz.zeroValue123,t37:=Tryz.underlying24,a37:=Tryz.isAgg24,z37:=Tryz.sizeOf24,v37:=Tryz.zeroValue24,t70:=Tryz.underlying155,a70:=Tryz.isAgg155,z70:=Tryz.sizeOf155,v70:=Tryz.zeroValue155,t72:=Tryz.underlying157,a72:=Tryz.isAgg157,z72:=Tryz.sizeOf157,v72:=Tryz.zeroValue157,t75:=Tryz.underlying160,a75:=Tryz.isAgg160,z75:=Tryz.sizeOf160,v75:=Tryz.zeroValue160,t76:=Tryz.underlying161,a76:=Tryz.isAgg161,z76:=Tryz.sizeOf161,v76:=Tryz.zeroValue161,t127:=Tryz.underlying152,a127:=Tryz.isAgg152,z127:=Tryz.sizeOf152,v127:=Tryz.zeroValue152,t164:=Tryz.underlying191,a164:=Tryz.isAgg191,z164:=Tryz.sizeOf191,v164:=Tryz.zeroValue191 }
def lays171_ren:Ren:={ f:=fun | 171=>109 | 243=>137 | 246=>155 | 283=>171 | 284=>172 | 285=>173 | 286=>174 | 129=>185 | 317=>184 | 318=>186 | 319=>187 | 320=>188 | 337=>193 | 338=>194 | n=>n,t:=fun | 3=>3 | 9=>9 | 2=>2 | 4=>4 | 171=>203 | 0=>0 | 53=>204 | 37=>24 | 5=>5 | 173=>207 | 212=>222 | 51=>223 | 20=>20 | 213=>224 | 46=>209 | 232=>234 | 233=>235 | n=>n,g:=fun | 17=>5 | 18=>6 | 19=>7 | n=>n }
theorem lays171:LaysM.n171 Tryz.prog lays171_ren:={ mixed:=by kernel_rfl,f129:=Tryz.func185.trans (congrArg some (by kernel_rfl)),f171:=Tryz.func109.trans (congrArg some (by kernel_rfl)),f243:=Tryz.func137.trans (congrArg some (by kernel_rfl)),f246:=Tryz.func155.trans (congrArg some (by kernel_rfl)),f283:=Tryz.func171.trans (congrArg some (by kernel_rfl)),f284:=Tryz.func172.trans (congrArg some (by kernel_rfl)),f285:=Tryz.func173.trans (congrArg some (by kernel_rfl)),f286:=Tryz.func174.trans (congrArg some (by kernel_rfl)),f317:=Tryz.func184.trans (congrArg some (by kernel_rfl)),f318:=Tryz.func186.trans (congrArg some (by kernel_rfl)),f319:=Tryz.func187.trans (congrArg some (by kernel_rfl)),f320:=Tryz.func188.trans (congrArg some (by kernel_rfl)),f337:=Tryz.func193.trans (congrArg some (by kernel_rfl)),f338:=Tryz.func194.trans (congrArg some (by kernel_rfl)),t0:=Tryz.underlying0,a0:=Tryz.isAgg0,z0:=Tryz.sizeOf0,v0:=Tryz.zeroValue0,t2:=Tryz.underlying2,a2:=Tryz.isAgg2,z2:=Tryz.sizeOf2,v2:=Tryz.zeroValue2,t3:=Tryz.underlying3,a3:=Tryz.isAgg3,z3:=Tryz.sizeOf3,v3:=Tryz.zeroValue3,t4:=Tryz.underlying4,a4:=Tryz.isAgg4,z4:=Tryz.sizeOf4,v4:=Tryz.zeroValue4,t5:=Tryz.underlying5,a5:=Tryz.isAgg5,z5:=Tryz.sizeOf5,v5:=Tryz.zeroValue5,t9:=Tryz.underlying9,a9:=Tryz.isAgg9,z9:=Tryz.sizeOf9,v9:=Tryz.zeroValue9,t20:=Tryz.underlying20,a20:=Tryz.isAgg20,z20:=Tryz.sizeOf20,v20:=Tryz.zeroValue20,t37:=Tryz.underlying24,a37:=Tryz.isAgg24,z37:=Tryz.sizeOf24,v37:=Tryz.zeroValue24,t46:=Tryz.underlying209,a46:=Tryz.isAgg209,z46:=Tryz.sizeOf209,v46:=Tryz.zeroValue209,t51:=Tryz.underlying223,a51:=Tryz.isAgg223,z51:=Tryz.sizeOf223,v51:=Tryz.zeroValue223,t53:=Tryz.underlying204,a53:=Tryz.isAgg204,z53:=Tryz.sizeOf204,v53:=Tryz.zeroValue204,t171:=Tryz.underlying203,a171:=Tryz.isAgg203,z171:=Tryz.sizeOf203,v171:=Tryz.zeroValue203,t173:=Tryz.underlying207,a173:=Tryz.isAgg207,z173:=Tryz.sizeOf207,v173:=Tryz.zeroValue207,t212:=Tryz.underlying222,a212:=Tryz.isAgg222,z212:=Tryz.sizeOf222,v212:=Tryz.zeroValue222,t213:=Tryz.underlying224,a213:=Tryz.isAgg224,z213:=Tryz.sizeOf224,t232:=Tryz.underlying234,a232:=Tryz.isAgg234,z232:=Tryz.sizeOf234,v232:=Tryz.zeroValue234,t233:=Tryz.underlying235,a233:=Tryz.isAgg235,z233:=Tryz.sizeOf235,v233:=Tryz.zeroValue235,g17:=by kernel_rfl,g18:=by kernel_rfl,g19:=by kernel_rfl,i0:=by kernel_rfl,i2:=by kernel_rfl,i3:=by kernel_rfl,i4:=by kernel_rfl,i5:=by kernel_rfl,i9:=by kernel_rfl,i20:=by kernel_rfl,i37:=by kernel_rfl,i46:=by kernel_rfl,i51:=by kernel_rfl,i53:=by kernel_rfl,i171:=by kernel_rfl,i173:=by kernel_rfl,i212:=by kernel_rfl,i232:=by kernel_rfl,i233:=by kernel_rfl,m17:=by kernel_rfl,m18:=by kernel_rfl,m19:=by kernel_rfl }
theorem extra156:Builder.Extra Tryz.prog lays156_ren where
 sizeBuilder:=by kernel_rfl
 liesBuilder:=by kernel_rfl
 t5:=Tryz.underlying5
 a5:=Tryz.isAgg5
 z5:=Tryz.sizeOf5
 v5:=Tryz.zeroValue5
 infoByte:=by kernel_rfl
 cellsByte:=by kernel_rfl
 sizeByte:=by kernel_rfl
 neB5:=by decide
set_option maxRecDepth 100000 in
theorem tableOk:TableOk Tryz.prog F:=by
 intro f fc h
 unfold F at h
 split at h
 ·cases h;exact EntryOk.comp ok8
 ·cases h;exact EntryOk.comp ok16
 ·cases h;exact EntryOk.comp ok19
 ·cases h;exact EntryOk.comp ok20
 ·cases h;exact EntryOk.comp ok23
 ·cases h;exact EntryOk.comp ok24
 ·cases h;exact EntryOk.comp ok26
 ·cases h;exact EntryOk.comp ok27
 ·cases h;exact EntryOk.comp ok29
 ·cases h;exact EntryOk.comp ok30
 ·cases h;exact EntryOk.comp ok33
 ·cases h;exact EntryOk.comp ok37
 ·cases h;exact EntryOk.comp ok38
 ·cases h;exact EntryOk.comp ok39
 ·cases h;exact EntryOk.comp ok40
 ·cases h;exact EntryOk.comp ok41
 ·cases h;exact EntryOk.comp ok42
 ·cases h;exact EntryOk.comp ok43
 ·cases h;exact EntryOk.comp ok47
 ·cases h;exact EntryOk.comp ok50
 ·cases h;exact EntryOk.comp ok51
 ·cases h;exact EntryOk.comp ok52
 ·cases h;exact EntryOk.comp ok53
 ·cases h;exact EntryOk.comp ok54
 ·cases h;exact EntryOk.comp ok55
 ·cases h;exact EntryOk.comp ok56
 ·cases h;exact EntryOk.comp ok57
 ·cases h;exact EntryOk.comp ok61
 ·cases h;exact EntryOk.comp ok63
 ·cases h;exact EntryOk.comp ok64
 ·cases h;exact EntryOk.comp ok65
 ·cases h;exact EntryOk.comp ok66
 ·cases h;exact EntryOk.comp ok68
 ·cases h;exact EntryOk.comp ok69
 ·cases h;exact EntryOk.comp ok76
 ·cases h;exact EntryOk.comp ok84
 ·cases h;exact EntryOk.comp ok85
 ·cases h;exact EntryOk.comp ok86
 ·cases h;exact EntryOk.comp ok91
 ·cases h;exact EntryOk.comp ok92
 ·cases h;exact EntryOk.comp ok93
 ·cases h;exact EntryOk.comp ok94
 ·cases h;exact EntryOk.comp ok95
 ·cases h;exact EntryOk.comp ok96
 ·cases h;exact EntryOk.comp ok97
 ·cases h;exact EntryOk.comp ok98
 ·cases h;exact EntryOk.comp ok99
 ·cases h;exact EntryOk.comp ok103
 ·cases h;exact EntryOk.comp ok104
 ·cases h;exact EntryOk.comp ok105
 ·cases h;exact EntryOk.comp ok106
 ·cases h;exact EntryOk.comp ok108
 ·cases h;exact EntryOk.comp ok115
 ·cases h;exact EntryOk.comp ok118
 ·cases h;exact EntryOk.comp ok119
 ·cases h;exact EntryOk.comp ok120
 ·cases h;exact EntryOk.comp ok126
 ·cases h;exact EntryOk.comp ok127
 ·cases h;exact EntryOk.comp ok135
 ·cases h;exact EntryOk.comp ok136
 ·cases h;exact EntryOk.comp ok140
 ·cases h;exact EntryOk.comp ok145
 ·cases h;exact EntryOk.comp ok146
 ·cases h;exact EntryOk.comp ok147
 ·cases h;exact EntryOk.comp ok148
 ·cases h;exact EntryOk.comp ok149
 ·cases h;exact EntryOk.comp ok150
 ·cases h;exact EntryOk.comp ok152
 ·cases h;exact EntryOk.comp ok166
 ·cases h;exact EntryOk.comp ok167
 ·cases h
theorem tableB:TableOk Tryz.prog FB:=by
 intro f fc h
 unfold FB at h
 split at h
 ·cases h
 ·cases h;exact EntryOk.known ⟨Tryz.f70,Tryz.func70,by kernel_rfl,by decide +kernel⟩ (kn_join lays156 extra156)
 ·cases h;exact EntryOk.known ⟨Tryz.f100,Tryz.func100,by kernel_rfl,by decide +kernel⟩ (kn_trim lays160 (by kernel_rfl))
 ·cases h;exact EntryOk.known ⟨Tryz.f109,Tryz.func109,by kernel_rfl,by decide +kernel⟩ (kn_itoa lays171 (fun _ h=>h))
 ·cases h;exact EntryOk.known ⟨Tryz.f141,Tryz.func141,by kernel_rfl,by decide +kernel⟩ (kn_count lays138)
 ·cases h;exact EntryOk.known ⟨Tryz.f142,Tryz.func142,by kernel_rfl,by decide +kernel⟩ (kn_index lays143)
 ·exact tableOk f fc h
theorem tableB1:TableOk Tryz.prog FB1:=by
 intro f fc h
 unfold FB1 at h
 split at h
 ·cases h;exact EntryOk.known ⟨Tryz.f27,Tryz.func27,by kernel_rfl,by decide +kernel⟩ (kn_vot tableB Tryz.func27 (by kernel_rfl))
 ·exact tableB f fc h
end Go.Dr.T
