/- The functions of the door are those of the program. -/
import Derived.Test.YtcjhgcjmomildaaGreatDoorProg
import Derived.Test.YtcjhgcjmomildaaGreatDoorR16Lit
import Derived.Test.YtcjhgcjmomildaaGreatDoorDrD
import Derived.Test.YtcjhgcjmomildaaGreatDoorDrI
import Derived.Test.YtcjhgcjmomildaaGreatDoorG22
import Derived.Test.YtcjhgcjmomildaaGreatDoorR16Ge
import Derived.Test.YtcjhgcjmomildaaGreatDoorG22
import Derived.KernelRfl
namespace Go.Dr.T
open Go.Proofs Go.Shelf
def OkAt (f : Nat) (fc : Fc) : Prop := ∃ fn, Tryz.prog.funcs[f]? = some fn ∧ cFunc Tryz.prog fn = some fc ∧ fn.name ≠ "runtime.NumGoroutine"
theorem ok3:OkAt 3 c3:=⟨Tryz.f3,Tryz.func3,by kernel_rfl,by decide +kernel⟩
theorem ok4:OkAt 4 c4:=⟨Tryz.f4,Tryz.func4,by kernel_rfl,by decide +kernel⟩
theorem ok5:OkAt 5 c5:=⟨Tryz.f5,Tryz.func5,by kernel_rfl,by decide +kernel⟩
theorem ok6:OkAt 6 c6:=⟨Tryz.f6,Tryz.func6,by kernel_rfl,by decide +kernel⟩
theorem ok7:OkAt 7 c7:=⟨Tryz.f7,Tryz.func7,by kernel_rfl,by decide +kernel⟩
theorem ok8:OkAt 8 c8:=⟨Tryz.f8,Tryz.func8,by kernel_rfl,by decide +kernel⟩
theorem ok9:OkAt 9 c9:=⟨Tryz.f9,Tryz.func9,by kernel_rfl,by decide +kernel⟩
theorem ok10:OkAt 10 c10:=⟨Tryz.f10,Tryz.func10,by kernel_rfl,by decide +kernel⟩
theorem ok11:OkAt 11 c11:=⟨Tryz.f11,Tryz.func11,by kernel_rfl,by decide +kernel⟩
theorem ok12:OkAt 12 c12:=⟨Tryz.f12,Tryz.func12,by kernel_rfl,by decide +kernel⟩
theorem ok13:OkAt 13 c13:=⟨Tryz.f13,Tryz.func13,by kernel_rfl,by decide +kernel⟩
theorem ok14:OkAt 14 c14:=⟨Tryz.f14,Tryz.func14,by kernel_rfl,by decide +kernel⟩
theorem ok15:OkAt 15 c15:=⟨Tryz.f15,Tryz.func15,by kernel_rfl,by decide +kernel⟩
theorem ok16:OkAt 16 c16:=⟨Tryz.f16,Tryz.func16,by kernel_rfl,by decide +kernel⟩
theorem ok17:OkAt 17 c17:=⟨Tryz.f17,Tryz.func17,by kernel_rfl,by decide +kernel⟩
theorem ok18:OkAt 18 c18:=⟨Tryz.f18,Tryz.func18,by kernel_rfl,by decide +kernel⟩
theorem ok19:OkAt 19 c19:=⟨Tryz.f19,Tryz.func19,by kernel_rfl,by decide +kernel⟩
theorem ok20:OkAt 20 c20:=⟨Tryz.f20,Tryz.func20,by kernel_rfl,by decide +kernel⟩
theorem ok21:OkAt 21 c21:=⟨Tryz.f21,Tryz.func21,by kernel_rfl,by decide +kernel⟩
theorem ok22:OkAt 22 c22:=⟨Tryz.f22,Tryz.func22,by kernel_rfl,by decide +kernel⟩
theorem ok23:OkAt 23 c23:=⟨Tryz.f23,Tryz.func23,by kernel_rfl,by decide +kernel⟩
theorem ok24:OkAt 24 c24:=⟨Tryz.f24,Tryz.func24,by kernel_rfl,by decide +kernel⟩
theorem ok25:OkAt 25 c25:=⟨Tryz.f25,Tryz.func25,by kernel_rfl,by decide +kernel⟩
theorem ok26:OkAt 26 c26:=⟨Tryz.f26,Tryz.func26,by kernel_rfl,by decide +kernel⟩
theorem ok27:OkAt 27 c27:=⟨Tryz.f27,Tryz.func27,by kernel_rfl,by decide +kernel⟩
theorem ok28:OkAt 28 c28:=⟨Tryz.f28,Tryz.func28,by kernel_rfl,by decide +kernel⟩
theorem ok29:OkAt 29 c29:=⟨Tryz.f29,Tryz.func29,by kernel_rfl,by decide +kernel⟩
theorem ok30:OkAt 30 c30:=⟨Tryz.f30,Tryz.func30,by kernel_rfl,by decide +kernel⟩
theorem ok31:OkAt 31 c31:=⟨Tryz.f31,Tryz.func31,by kernel_rfl,by decide +kernel⟩
theorem ok32:OkAt 32 c32:=⟨Tryz.f32,Tryz.func32,by kernel_rfl,by decide +kernel⟩
theorem ok33:OkAt 33 c33:=⟨Tryz.f33,Tryz.func33,by kernel_rfl,by decide +kernel⟩
theorem ok34:OkAt 34 c34:=⟨Tryz.f34,Tryz.func34,by kernel_rfl,by decide +kernel⟩
theorem ok35:OkAt 35 c35:=⟨Tryz.f35,Tryz.func35,by kernel_rfl,by decide +kernel⟩
theorem ok36:OkAt 36 c36:=⟨Tryz.f36,Tryz.func36,by kernel_rfl,by decide +kernel⟩
theorem ok37:OkAt 37 c37:=⟨Tryz.f37,Tryz.func37,by kernel_rfl,by decide +kernel⟩
theorem ok38:OkAt 38 c38:=⟨Tryz.f38,Tryz.func38,by kernel_rfl,by decide +kernel⟩
theorem ok39:OkAt 39 c39:=⟨Tryz.f39,Tryz.func39,by kernel_rfl,by decide +kernel⟩
theorem ok40:OkAt 40 c40:=⟨Tryz.f40,Tryz.func40,by kernel_rfl,by decide +kernel⟩
theorem ok41:OkAt 41 c41:=⟨Tryz.f41,Tryz.func41,by kernel_rfl,by decide +kernel⟩
theorem ok42:OkAt 42 c42:=⟨Tryz.f42,Tryz.func42,by kernel_rfl,by decide +kernel⟩
theorem ok43:OkAt 43 c43:=⟨Tryz.f43,Tryz.func43,by kernel_rfl,by decide +kernel⟩
theorem ok44:OkAt 44 c44:=⟨Tryz.f44,Tryz.func44,by kernel_rfl,by decide +kernel⟩
theorem ok45:OkAt 45 c45:=⟨Tryz.f45,Tryz.func45,by kernel_rfl,by decide +kernel⟩
theorem ok46:OkAt 46 c46:=⟨Tryz.f46,Tryz.func46,by kernel_rfl,by decide +kernel⟩
theorem ok47:OkAt 47 c47:=⟨Tryz.f47,Tryz.func47,by kernel_rfl,by decide +kernel⟩
theorem ok48:OkAt 48 c48:=⟨Tryz.f48,Tryz.func48,by kernel_rfl,by decide +kernel⟩
theorem ok49:OkAt 49 c49:=⟨Tryz.f49,Tryz.func49,by kernel_rfl,by decide +kernel⟩
theorem ok50:OkAt 50 c50:=⟨Tryz.f50,Tryz.func50,by kernel_rfl,by decide +kernel⟩
theorem ok51:OkAt 51 c51:=⟨Tryz.f51,Tryz.func51,by kernel_rfl,by decide +kernel⟩
theorem ok52:OkAt 52 c52:=⟨Tryz.f52,Tryz.func52,by kernel_rfl,by decide +kernel⟩
theorem ok53:OkAt 53 c53:=⟨Tryz.f53,Tryz.func53,by kernel_rfl,by decide +kernel⟩
theorem ok55:OkAt 55 c55:=⟨Tryz.f55,Tryz.func55,by kernel_rfl,by decide +kernel⟩
theorem ok56:OkAt 56 c56:=⟨Tryz.f56,Tryz.func56,by kernel_rfl,by decide +kernel⟩
theorem ok57:OkAt 57 c57:=⟨Tryz.f57,Tryz.func57,by kernel_rfl,by decide +kernel⟩
theorem ok58:OkAt 58 c58:=⟨Tryz.f58,Tryz.func58,by kernel_rfl,by decide +kernel⟩
theorem ok59:OkAt 59 c59:=⟨Tryz.f59,Tryz.func59,by kernel_rfl,by decide +kernel⟩
theorem ok60:OkAt 60 c60:=⟨Tryz.f60,Tryz.func60,by kernel_rfl,by decide +kernel⟩
theorem ok61:OkAt 61 c61:=⟨Tryz.f61,Tryz.func61,by kernel_rfl,by decide +kernel⟩
theorem ok64:OkAt 64 c64:=⟨Tryz.f64,Tryz.func64,by kernel_rfl,by decide +kernel⟩
theorem ok65:OkAt 65 c65:=⟨Tryz.f65,Tryz.func65,by kernel_rfl,by decide +kernel⟩
theorem ok77:OkAt 77 c77:=⟨Tryz.f77,Tryz.func77,by kernel_rfl,by decide +kernel⟩
theorem ok78:OkAt 78 c78:=⟨Tryz.f78,Tryz.func78,by kernel_rfl,by decide +kernel⟩
theorem ok79:OkAt 79 c79:=⟨Tryz.f79,Tryz.func79,by kernel_rfl,by decide +kernel⟩
theorem ok80:OkAt 80 c80:=⟨Tryz.f80,Tryz.func80,by kernel_rfl,by decide +kernel⟩
theorem ok88:OkAt 88 c88:=⟨Tryz.f88,Tryz.func88,by kernel_rfl,by decide +kernel⟩
theorem ok89:OkAt 89 c89:=⟨Tryz.f89,Tryz.func89,by kernel_rfl,by decide +kernel⟩
theorem ok98:OkAt 98 c98:=⟨Tryz.f98,Tryz.func98,by kernel_rfl,by decide +kernel⟩
theorem ok102:OkAt 102 c102:=⟨Tryz.f102,Tryz.func102,by kernel_rfl,by decide +kernel⟩
def lays138_ren:Ren:={ f:=fun | 138=>99 | 195=>105 | 218=>106 | 143=>100 | 219=>107 | 217=>111 | 225=>112 | 224=>113 | 267=>114 | 266=>117 | 314=>118 | n=>n,t:=fun | 9=>9 | 3=>3 | 4=>4 | 5=>5 | 0=>0 | 46=>35 | 146=>171 | 51=>133 | n=>n,g:=fun | 1=>0 | n=>n }
theorem lays138:Lays.n138 Tryz.prog lays138_ren:={ mixed:=by kernel_rfl,f138:=Tryz.func99.trans (congrArg some (by kernel_rfl)),f143:=Tryz.func100.trans (congrArg some (by kernel_rfl)),f195:=Tryz.func105.trans (congrArg some (by kernel_rfl)),f217:=Tryz.func111.trans (congrArg some (by kernel_rfl)),f218:=Tryz.func106.trans (congrArg some (by kernel_rfl)),f219:=Tryz.func107.trans (congrArg some (by kernel_rfl)),f224:=Tryz.func113.trans (congrArg some (by kernel_rfl)),f225:=Tryz.func112.trans (congrArg some (by kernel_rfl)),f266:=Tryz.func117.trans (congrArg some (by kernel_rfl)),f267:=Tryz.func114.trans (congrArg some (by kernel_rfl)),f314:=Tryz.func118.trans (congrArg some (by kernel_rfl)),t0:=Tryz.underlying0,a0:=Tryz.isAgg0,z0:=Tryz.sizeOf0,v0:=Tryz.zeroValue0,t3:=Tryz.underlying3,a3:=Tryz.isAgg3,z3:=Tryz.sizeOf3,v3:=Tryz.zeroValue3,t4:=Tryz.underlying4,a4:=Tryz.isAgg4,z4:=Tryz.sizeOf4,v4:=Tryz.zeroValue4,t5:=Tryz.underlying5,a5:=Tryz.isAgg5,z5:=Tryz.sizeOf5,v5:=Tryz.zeroValue5,t9:=Tryz.underlying9,a9:=Tryz.isAgg9,z9:=Tryz.sizeOf9,v9:=Tryz.zeroValue9,t46:=Tryz.underlying35,a46:=Tryz.isAgg35,z46:=Tryz.sizeOf35,v46:=Tryz.zeroValue35,t51:=Tryz.underlying133,a51:=Tryz.isAgg133,z51:=Tryz.sizeOf133,v51:=Tryz.zeroValue133,t146:=Tryz.underlying171,a146:=Tryz.isAgg171,z146:=Tryz.sizeOf171,v146:=Tryz.zeroValue171,g1:=by kernel_rfl }
def lays143_ren:Ren:={ f:=fun | 143=>100 | 219=>107 | 217=>111 | 225=>112 | 224=>113 | 267=>114 | 266=>117 | 314=>118 | n=>n,t:=fun | 9=>9 | 3=>3 | 4=>4 | 5=>5 | 46=>35 | 146=>171 | 51=>133 | n=>n,g:=fun | 1=>0 | n=>n }
theorem lays143:Lays.n143 Tryz.prog lays143_ren:={ mixed:=by kernel_rfl,f143:=Tryz.func100.trans (congrArg some (by kernel_rfl)),f217:=Tryz.func111.trans (congrArg some (by kernel_rfl)),f219:=Tryz.func107.trans (congrArg some (by kernel_rfl)),f224:=Tryz.func113.trans (congrArg some (by kernel_rfl)),f225:=Tryz.func112.trans (congrArg some (by kernel_rfl)),f266:=Tryz.func117.trans (congrArg some (by kernel_rfl)),f267:=Tryz.func114.trans (congrArg some (by kernel_rfl)),f314:=Tryz.func118.trans (congrArg some (by kernel_rfl)),t3:=Tryz.underlying3,a3:=Tryz.isAgg3,z3:=Tryz.sizeOf3,v3:=Tryz.zeroValue3,t4:=Tryz.underlying4,a4:=Tryz.isAgg4,z4:=Tryz.sizeOf4,v4:=Tryz.zeroValue4,t5:=Tryz.underlying5,a5:=Tryz.isAgg5,z5:=Tryz.sizeOf5,v5:=Tryz.zeroValue5,t9:=Tryz.underlying9,a9:=Tryz.isAgg9,z9:=Tryz.sizeOf9,v9:=Tryz.zeroValue9,t46:=Tryz.underlying35,a46:=Tryz.isAgg35,z46:=Tryz.sizeOf35,v46:=Tryz.zeroValue35,t51:=Tryz.underlying133,a51:=Tryz.isAgg133,z51:=Tryz.sizeOf133,v51:=Tryz.zeroValue133,t146:=Tryz.underlying171,a146:=Tryz.isAgg171,z146:=Tryz.sizeOf171,v146:=Tryz.zeroValue171,g1:=by kernel_rfl }
def lays160_ren:Ren:={ f:=fun | 160=>81 | 232=>91 | 231=>90 | 227=>92 | 234=>94 | 233=>93 | 236=>96 | 235=>95 | 228=>101 | 271=>104 | 151=>103 | 197=>102 | 120=>110 | 152=>109 | 260=>108 | 137=>115 | 119=>116 | 224=>113 | 225=>112 | 217=>111 | 266=>117 | n=>n,t:=fun | 9=>9 | 4=>4 | 3=>3 | 5=>5 | 117=>150 | 116=>149 | 0=>0 | 124=>153 | 21=>21 | 105=>159 | 46=>35 | 119=>166 | 139=>169 | 138=>168 | n=>n,g:=fun | 3=>1 | 4=>2 | n=>n }
theorem lays160:Lays.n160 Tryz.prog lays160_ren:={ mixed:=by kernel_rfl,f119:=Tryz.func116.trans (congrArg some (by kernel_rfl)),f120:=Tryz.func110.trans (congrArg some (by kernel_rfl)),f137:=Tryz.func115.trans (congrArg some (by kernel_rfl)),f151:=Tryz.func103.trans (congrArg some (by kernel_rfl)),f152:=Tryz.func109.trans (congrArg some (by kernel_rfl)),f160:=Tryz.func81.trans (congrArg some (by kernel_rfl)),f197:=Tryz.func102.trans (congrArg some (by kernel_rfl)),f217:=Tryz.func111.trans (congrArg some (by kernel_rfl)),f224:=Tryz.func113.trans (congrArg some (by kernel_rfl)),f225:=Tryz.func112.trans (congrArg some (by kernel_rfl)),f227:=Tryz.func92.trans (congrArg some (by kernel_rfl)),f228:=Tryz.func101.trans (congrArg some (by kernel_rfl)),f231:=Tryz.func90.trans (congrArg some (by kernel_rfl)),f232:=Tryz.func91.trans (congrArg some (by kernel_rfl)),f233:=Tryz.func93.trans (congrArg some (by kernel_rfl)),f234:=Tryz.func94.trans (congrArg some (by kernel_rfl)),f235:=Tryz.func95.trans (congrArg some (by kernel_rfl)),f236:=Tryz.func96.trans (congrArg some (by kernel_rfl)),f260:=Tryz.func108.trans (congrArg some (by kernel_rfl)),f266:=Tryz.func117.trans (congrArg some (by kernel_rfl)),f271:=Tryz.func104.trans (congrArg some (by kernel_rfl)),t0:=Tryz.underlying0,a0:=Tryz.isAgg0,z0:=Tryz.sizeOf0,v0:=Tryz.zeroValue0,t3:=Tryz.underlying3,a3:=Tryz.isAgg3,z3:=Tryz.sizeOf3,v3:=Tryz.zeroValue3,t4:=Tryz.underlying4,a4:=Tryz.isAgg4,z4:=Tryz.sizeOf4,v4:=Tryz.zeroValue4,t5:=Tryz.underlying5,a5:=Tryz.isAgg5,z5:=Tryz.sizeOf5,v5:=Tryz.zeroValue5,t9:=Tryz.underlying9,a9:=Tryz.isAgg9,z9:=Tryz.sizeOf9,v9:=Tryz.zeroValue9,t21:=Tryz.underlying21,a21:=Tryz.isAgg21,z21:=Tryz.sizeOf21,v21:=Tryz.zeroValue21,t46:=Tryz.underlying35,a46:=Tryz.isAgg35,z46:=Tryz.sizeOf35,v46:=Tryz.zeroValue35,t105:=Tryz.underlying159,a105:=Tryz.isAgg159,z105:=Tryz.sizeOf159,v105:=Tryz.zeroValue159,t116:=Tryz.underlying149,a116:=Tryz.isAgg149,z116:=Tryz.sizeOf149,t117:=Tryz.underlying150,a117:=Tryz.isAgg150,z117:=Tryz.sizeOf150,v117:=Tryz.zeroValue150,t119:=Tryz.underlying166,a119:=Tryz.isAgg166,z119:=Tryz.sizeOf166,t124:=Tryz.underlying153,a124:=Tryz.isAgg153,z124:=Tryz.sizeOf153,v124:=Tryz.zeroValue153,t138:=Tryz.underlying168,a138:=Tryz.isAgg168,z138:=Tryz.sizeOf168,v138:=Tryz.zeroValue168,t139:=Tryz.underlying169,a139:=Tryz.isAgg169,z139:=Tryz.sizeOf169,v139:=Tryz.zeroValue169,g3:=by kernel_rfl,g4:=by kernel_rfl }
def lays189_ren:Ren:={ f:=fun | 189=>54 | 125=>63 | 257=>62 | 128=>75 | 129=>76 | 294=>66 | 295=>67 | 296=>68 | 297=>69 | 298=>70 | 299=>71 | 216=>72 | 300=>73 | 301=>74 | 328=>82 | 329=>83 | 330=>84 | 331=>85 | 332=>86 | 215=>87 | 343=>97 | n=>n,t:=fun | 28=>33 | 3=>3 | 46=>35 | 0=>0 | 51=>133 | 53=>25 | 4=>4 | 183=>126 | 182=>125 | 131=>116 | 5=>5 | 9=>9 | 218=>139 | 222=>143 | 228=>154 | 229=>155 | n=>n,g:=fun x=>have n:=x;n }
theorem lays189:Lays.n189 Tryz.prog lays189_ren:={ mixed:=by kernel_rfl,f125:=Tryz.func63.trans (congrArg some (by kernel_rfl)),f128:=Tryz.func75.trans (congrArg some (by kernel_rfl)),f129:=Tryz.func76.trans (congrArg some (by kernel_rfl)),f189:=Tryz.func54.trans (congrArg some (by kernel_rfl)),f215:=Tryz.func87.trans (congrArg some (by kernel_rfl)),f216:=Tryz.func72.trans (congrArg some (by kernel_rfl)),f257:=Tryz.func62.trans (congrArg some (by kernel_rfl)),f294:=Tryz.func66.trans (congrArg some (by kernel_rfl)),f295:=Tryz.func67.trans (congrArg some (by kernel_rfl)),f296:=Tryz.func68.trans (congrArg some (by kernel_rfl)),f297:=Tryz.func69.trans (congrArg some (by kernel_rfl)),f298:=Tryz.func70.trans (congrArg some (by kernel_rfl)),f299:=Tryz.func71.trans (congrArg some (by kernel_rfl)),f300:=Tryz.func73.trans (congrArg some (by kernel_rfl)),f301:=Tryz.func74.trans (congrArg some (by kernel_rfl)),f328:=Tryz.func82.trans (congrArg some (by kernel_rfl)),f329:=Tryz.func83.trans (congrArg some (by kernel_rfl)),f330:=Tryz.func84.trans (congrArg some (by kernel_rfl)),f331:=Tryz.func85.trans (congrArg some (by kernel_rfl)),f332:=Tryz.func86.trans (congrArg some (by kernel_rfl)),f343:=Tryz.func97.trans (congrArg some (by kernel_rfl)),t0:=Tryz.underlying0,a0:=Tryz.isAgg0,z0:=Tryz.sizeOf0,v0:=Tryz.zeroValue0,t3:=Tryz.underlying3,a3:=Tryz.isAgg3,z3:=Tryz.sizeOf3,v3:=Tryz.zeroValue3,t4:=Tryz.underlying4,a4:=Tryz.isAgg4,z4:=Tryz.sizeOf4,v4:=Tryz.zeroValue4,t5:=Tryz.underlying5,a5:=Tryz.isAgg5,z5:=Tryz.sizeOf5,v5:=Tryz.zeroValue5,t9:=Tryz.underlying9,a9:=Tryz.isAgg9,z9:=Tryz.sizeOf9,v9:=Tryz.zeroValue9,t28:=Tryz.underlying33,a28:=Tryz.isAgg33,z28:=Tryz.sizeOf33,v28:=Tryz.zeroValue33,t46:=Tryz.underlying35,a46:=Tryz.isAgg35,z46:=Tryz.sizeOf35,v46:=Tryz.zeroValue35,t51:=Tryz.underlying133,a51:=Tryz.isAgg133,z51:=Tryz.sizeOf133,v51:=Tryz.zeroValue133,t53:=Tryz.underlying25,a53:=Tryz.isAgg25,z53:=Tryz.sizeOf25,v53:=Tryz.zeroValue25,t131:=Tryz.underlying116,a131:=Tryz.isAgg116,z131:=Tryz.sizeOf116,v131:=Tryz.zeroValue116,t182:=Tryz.underlying125,a182:=Tryz.isAgg125,z182:=Tryz.sizeOf125,v182:=Tryz.zeroValue125,t183:=Tryz.underlying126,a183:=Tryz.isAgg126,z183:=Tryz.sizeOf126,v183:=Tryz.zeroValue126,t218:=Tryz.underlying139,a218:=Tryz.isAgg139,z218:=Tryz.sizeOf139,v218:=Tryz.zeroValue139,t222:=Tryz.underlying143,a222:=Tryz.isAgg143,z222:=Tryz.sizeOf143,v222:=Tryz.zeroValue143,t228:=Tryz.underlying154,a228:=Tryz.isAgg154,z228:=Tryz.sizeOf154,v228:=Tryz.zeroValue154,t229:=Tryz.underlying155,a229:=Tryz.isAgg155,z229:=Tryz.sizeOf155,v229:=Tryz.zeroValue155 }
set_option maxRecDepth 100000 in
theorem tableOk:TableOk Tryz.prog F:=by
 intro f fc h
 unfold F at h
 split at h
 ·cases h;exact EntryOk.comp ok3
 ·cases h;exact EntryOk.comp ok4
 ·cases h;exact EntryOk.comp ok5
 ·cases h;exact EntryOk.comp ok6
 ·cases h;exact EntryOk.comp ok7
 ·cases h;exact EntryOk.comp ok8
 ·cases h;exact EntryOk.comp ok9
 ·cases h;exact EntryOk.comp ok10
 ·cases h;exact EntryOk.comp ok11
 ·cases h;exact EntryOk.comp ok12
 ·cases h;exact EntryOk.comp ok13
 ·cases h;exact EntryOk.comp ok14
 ·cases h;exact EntryOk.comp ok15
 ·cases h;exact EntryOk.comp ok16
 ·cases h;exact EntryOk.comp ok17
 ·cases h;exact EntryOk.comp ok18
 ·cases h;exact EntryOk.comp ok19
 ·cases h;exact EntryOk.comp ok20
 ·cases h;exact EntryOk.comp ok21
 ·cases h;exact EntryOk.comp ok22
 ·cases h;exact EntryOk.comp ok23
 ·cases h;exact EntryOk.comp ok24
 ·cases h;exact EntryOk.comp ok25
 ·cases h;exact EntryOk.comp ok26
 ·cases h;exact EntryOk.comp ok27
 ·cases h;exact EntryOk.comp ok28
 ·cases h;exact EntryOk.comp ok29
 ·cases h;exact EntryOk.comp ok30
 ·cases h;exact EntryOk.comp ok31
 ·cases h;exact EntryOk.comp ok32
 ·cases h;exact EntryOk.comp ok33
 ·cases h;exact EntryOk.comp ok34
 ·cases h;exact EntryOk.comp ok35
 ·cases h;exact EntryOk.comp ok36
 ·cases h;exact EntryOk.comp ok37
 ·cases h;exact EntryOk.comp ok38
 ·cases h;exact EntryOk.comp ok39
 ·cases h;exact EntryOk.comp ok40
 ·cases h;exact EntryOk.comp ok41
 ·cases h;exact EntryOk.comp ok42
 ·cases h;exact EntryOk.comp ok43
 ·cases h;exact EntryOk.comp ok44
 ·cases h;exact EntryOk.comp ok45
 ·cases h;exact EntryOk.comp ok46
 ·cases h;exact EntryOk.comp ok47
 ·cases h;exact EntryOk.comp ok48
 ·cases h;exact EntryOk.comp ok49
 ·cases h;exact EntryOk.comp ok50
 ·cases h;exact EntryOk.comp ok51
 ·cases h;exact EntryOk.comp ok52
 ·cases h;exact EntryOk.comp ok53
 ·cases h;exact EntryOk.comp ok55
 ·cases h;exact EntryOk.comp ok56
 ·cases h;exact EntryOk.comp ok57
 ·cases h;exact EntryOk.comp ok58
 ·cases h;exact EntryOk.comp ok59
 ·cases h;exact EntryOk.comp ok60
 ·cases h;exact EntryOk.comp ok61
 ·cases h;exact EntryOk.comp ok64
 ·cases h;exact EntryOk.comp ok65
 ·cases h;exact EntryOk.comp ok77
 ·cases h;exact EntryOk.comp ok78
 ·cases h;exact EntryOk.comp ok79
 ·cases h;exact EntryOk.comp ok80
 ·cases h;exact EntryOk.comp ok88
 ·cases h;exact EntryOk.comp ok89
 ·cases h;exact EntryOk.comp ok98
 ·cases h;exact EntryOk.comp ok102
 ·cases h
theorem tableB:TableOk Tryz.prog FB:=by
 intro f fc h
 unfold FB at h
 split at h
 ·cases h
 ·cases h
 ·cases h
 ·cases h
 ·cases h;exact EntryOk.known ⟨Tryz.f81,Tryz.func81,by kernel_rfl,by decide +kernel⟩ (kn_trim lays160 (by kernel_rfl))
 ·cases h;exact EntryOk.known ⟨Tryz.f54,Tryz.func54,by kernel_rfl,by decide +kernel⟩ (kn_sort lays189)
 ·cases h;exact EntryOk.known ⟨Tryz.f99,Tryz.func99,by kernel_rfl,by decide +kernel⟩ (kn_count lays138)
 ·cases h;exact EntryOk.known ⟨Tryz.f100,Tryz.func100,by kernel_rfl,by decide +kernel⟩ (kn_index lays143)
 ·exact tableOk f fc h
theorem kn65:KnOk Tryz.prog 32 1 (plainKn gatG):=by
 obtain ⟨fn,h1,h2,_⟩:=ok32
 exact kn_plain tableB h1 h2 fun ls v h _=>by
  obtain ⟨c,l,rfl,rfl⟩:=gatG_some h
  exact gather_walk c32 rfl
theorem srtdG_some {ls:List V} {v:V} (h:srtdG ls=some v):∃ ks vs,ls=[.rm (ofInts ks) vs]∧ks.length≤1000000∧v=lw false (isort ks):=by
 unfold srtdG at h
 split at h
 ·rename_i kc vs
  split at h
  ·rename_i ks hk
   split at h
   ·rename_i hl
    cases h
    exact ⟨ks,vs,by rw [intsOf_eq hk],hl,rfl⟩
   ·cases h
  ·cases h
 ·cases h
theorem kn67:KnOk Tryz.prog 34 1 (plainKn srtdG):=by
 obtain ⟨fn,h1,h2,_⟩:=ok34
 exact kn_plain tableB h1 h2 fun ls v h _=>by
  obtain ⟨ks,vs,rfl,hk,rfl⟩:=srtdG_some h
  exact sorted_walk hk c34 rfl
theorem tableB1:TableOk Tryz.prog FB1:=by
 intro f fc h
 unfold FB1 at h
 split at h
 ·cases h;exact EntryOk.known ⟨Tryz.f32,Tryz.func32,by kernel_rfl,by decide +kernel⟩ (kn65)
 ·cases h;exact EntryOk.known ⟨Tryz.f34,Tryz.func34,by kernel_rfl,by decide +kernel⟩ (kn67)
 ·exact tableB f fc h
theorem kn33:KnOk Tryz.prog 14 1 (plainKn whoG):=by
 obtain ⟨fn,h1,h2,_⟩:=ok14
 exact kn_plain tableB1 h1 h2 fun ls v h _=>by
  obtain ⟨c,l,rfl,hw,rfl⟩:=whoG_some h
  exact hw
theorem tableB2:TableOk Tryz.prog FB2:=by
 intro f fc h
 unfold FB2 at h
 split at h
 ·cases h;exact EntryOk.known ⟨Tryz.f14,Tryz.func14,by kernel_rfl,by decide +kernel⟩ (kn33)
 ·exact tableB1 f fc h
theorem tableB9:TableOk Tryz.prog FB9:=by
 intro f fc h
 unfold FB9 at h
 split at h
 ·cases h;exact EntryOk.known ⟨Tryz.f9,Tryz.func9,by kernel_rfl,by decide +kernel⟩ (kn_fz tableB Tryz.func9 (by kernel_rfl))
 ·exact tableB2 f fc h
end Go.Dr.T
