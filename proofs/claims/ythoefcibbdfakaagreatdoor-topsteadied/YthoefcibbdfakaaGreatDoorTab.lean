/- The functions of the door are those of the program. -/
import Derived.Test.YthoefcibbdfakaaGreatDoorProg
import Derived.Test.YthoefcibbdfakaaGreatDoorR18Lit
import Derived.Test.YthoefcibbdfakaaGreatDoorDrD
import Derived.Test.YthoefcibbdfakaaGreatDoorG18
import Derived.Test.YthoefcibbdfakaaGreatDoorG31
import Derived.Test.YthoefcibbdfakaaGreatDoorR18Lb
import Derived.KernelRfl
namespace Go.Dr.T
open Go.Proofs Go.Shelf
abbrev tabN : String := "internal/strconv.uint64pow10"
instance:GT Tryz.prog:=⟨4,fun w=>Lib.TabIs Tryz.prog w tabN .u64 Lib.pow10Tab,fun hb h=>tab_mono (g:=3) (by kernel_rfl) hb h⟩
theorem Qpi {w:World} (h:Lib.TabIs Tryz.prog w tabN .u64 Lib.pow10Tab):4≤w.heap.size:=Qll (g:=3) (by kernel_rfl) h
def OkAt (f : Nat) (fc : Fc) : Prop := ∃ fn, Tryz.prog.funcs[f]? = some fn ∧ Qbp Tryz.prog fn = some fc ∧ fn.name ≠ "runtime.NumGoroutine"
theorem ok3:OkAt 3 c3:=⟨Tryz.f3,Tryz.func3,by kernel_rfl,by decide +kernel⟩
theorem ok4:OkAt 4 c4:=⟨Tryz.f4,Tryz.func4,by kernel_rfl,by decide +kernel⟩
theorem ok5:OkAt 5 c5:=⟨Tryz.f5,Tryz.func5,by kernel_rfl,by decide +kernel⟩
theorem ok6:OkAt 6 c6:=⟨Tryz.f6,Tryz.func6,by kernel_rfl,by decide +kernel⟩
theorem ok7:OkAt 7 c7:=⟨Tryz.f7,Tryz.func7,by kernel_rfl,by decide +kernel⟩
theorem ok8:OkAt 8 c8:=⟨Tryz.f8,Tryz.func8,by kernel_rfl,by decide +kernel⟩
theorem ok9:OkAt 9 c9:=⟨Tryz.f9,Tryz.func9,by kernel_rfl,by decide +kernel⟩
theorem ok10:OkAt 10 c10:=⟨Tryz.f10,Tryz.func10,by kernel_rfl,by decide +kernel⟩
theorem ok11:OkAt 11 c11:=⟨Tryz.f11,Tryz.func11,by kernel_rfl,by decide +kernel⟩
theorem ok12:OkAt 12 c12:=⟨Tryz.f12,Tryz.func12,by kernel_rfl,by decide +kernel⟩
theorem ok13:OkAt 13 c13:=⟨Tryz.f13,Tryz.func13,by kernel_rfl,by decide +kernel⟩
theorem ok14:OkAt 14 c14:=⟨Tryz.f14,Tryz.func14,by kernel_rfl,by decide +kernel⟩
theorem ok15:OkAt 15 c15:=⟨Tryz.f15,Tryz.func15,by kernel_rfl,by decide +kernel⟩
theorem ok16:OkAt 16 c16:=⟨Tryz.f16,Tryz.func16,by kernel_rfl,by decide +kernel⟩
theorem ok17:OkAt 17 c17:=⟨Tryz.f17,Tryz.func17,by kernel_rfl,by decide +kernel⟩
theorem ok18:OkAt 18 c18:=⟨Tryz.f18,Tryz.func18,by kernel_rfl,by decide +kernel⟩
theorem ok19:OkAt 19 c19:=⟨Tryz.f19,Tryz.func19,by kernel_rfl,by decide +kernel⟩
theorem ok20:OkAt 20 c20:=⟨Tryz.f20,Tryz.func20,by kernel_rfl,by decide +kernel⟩
theorem ok21:OkAt 21 c21:=⟨Tryz.f21,Tryz.func21,by kernel_rfl,by decide +kernel⟩
theorem ok22:OkAt 22 c22:=⟨Tryz.f22,Tryz.func22,by kernel_rfl,by decide +kernel⟩
theorem ok23:OkAt 23 c23:=⟨Tryz.f23,Tryz.func23,by kernel_rfl,by decide +kernel⟩
theorem ok24:OkAt 24 c24:=⟨Tryz.f24,Tryz.func24,by kernel_rfl,by decide +kernel⟩
theorem ok25:OkAt 25 c25:=⟨Tryz.f25,Tryz.func25,by kernel_rfl,by decide +kernel⟩
theorem ok26:OkAt 26 c26:=⟨Tryz.f26,Tryz.func26,by kernel_rfl,by decide +kernel⟩
theorem ok27:OkAt 27 c27:=⟨Tryz.f27,Tryz.func27,by kernel_rfl,by decide +kernel⟩
theorem ok28:OkAt 28 c28:=⟨Tryz.f28,Tryz.func28,by kernel_rfl,by decide +kernel⟩
theorem ok29:OkAt 29 c29:=⟨Tryz.f29,Tryz.func29,by kernel_rfl,by decide +kernel⟩
theorem ok30:OkAt 30 c30:=⟨Tryz.f30,Tryz.func30,by kernel_rfl,by decide +kernel⟩
theorem ok31:OkAt 31 c31:=⟨Tryz.f31,Tryz.func31,by kernel_rfl,by decide +kernel⟩
theorem ok32:OkAt 32 c32:=⟨Tryz.f32,Tryz.func32,by kernel_rfl,by decide +kernel⟩
theorem ok33:OkAt 33 c33:=⟨Tryz.f33,Tryz.func33,by kernel_rfl,by decide +kernel⟩
theorem ok34:OkAt 34 c34:=⟨Tryz.f34,Tryz.func34,by kernel_rfl,by decide +kernel⟩
theorem ok35:OkAt 35 c35:=⟨Tryz.f35,Tryz.func35,by kernel_rfl,by decide +kernel⟩
theorem ok36:OkAt 36 c36:=⟨Tryz.f36,Tryz.func36,by kernel_rfl,by decide +kernel⟩
theorem ok37:OkAt 37 c37:=⟨Tryz.f37,Tryz.func37,by kernel_rfl,by decide +kernel⟩
theorem ok38:OkAt 38 c38:=⟨Tryz.f38,Tryz.func38,by kernel_rfl,by decide +kernel⟩
theorem ok39:OkAt 39 c39:=⟨Tryz.f39,Tryz.func39,by kernel_rfl,by decide +kernel⟩
theorem ok40:OkAt 40 c40:=⟨Tryz.f40,Tryz.func40,by kernel_rfl,by decide +kernel⟩
theorem ok41:OkAt 41 c41:=⟨Tryz.f41,Tryz.func41,by kernel_rfl,by decide +kernel⟩
theorem ok42:OkAt 42 c42:=⟨Tryz.f42,Tryz.func42,by kernel_rfl,by decide +kernel⟩
theorem ok43:OkAt 43 c43:=⟨Tryz.f43,Tryz.func43,by kernel_rfl,by decide +kernel⟩
theorem ok44:OkAt 44 c44:=⟨Tryz.f44,Tryz.func44,by kernel_rfl,by decide +kernel⟩
theorem ok45:OkAt 45 c45:=⟨Tryz.f45,Tryz.func45,by kernel_rfl,by decide +kernel⟩
theorem ok46:OkAt 46 c46:=⟨Tryz.f46,Tryz.func46,by kernel_rfl,by decide +kernel⟩
theorem ok47:OkAt 47 c47:=⟨Tryz.f47,Tryz.func47,by kernel_rfl,by decide +kernel⟩
theorem ok48:OkAt 48 c48:=⟨Tryz.f48,Tryz.func48,by kernel_rfl,by decide +kernel⟩
theorem ok49:OkAt 49 c49:=⟨Tryz.f49,Tryz.func49,by kernel_rfl,by decide +kernel⟩
theorem ok50:OkAt 50 c50:=⟨Tryz.f50,Tryz.func50,by kernel_rfl,by decide +kernel⟩
theorem ok51:OkAt 51 c51:=⟨Tryz.f51,Tryz.func51,by kernel_rfl,by decide +kernel⟩
theorem ok52:OkAt 52 c52:=⟨Tryz.f52,Tryz.func52,by kernel_rfl,by decide +kernel⟩
theorem ok53:OkAt 53 c53:=⟨Tryz.f53,Tryz.func53,by kernel_rfl,by decide +kernel⟩
theorem ok54:OkAt 54 c54:=⟨Tryz.f54,Tryz.func54,by kernel_rfl,by decide +kernel⟩
theorem ok55:OkAt 55 c55:=⟨Tryz.f55,Tryz.func55,by kernel_rfl,by decide +kernel⟩
theorem ok57:OkAt 57 c57:=⟨Tryz.f57,Tryz.func57,by kernel_rfl,by decide +kernel⟩
theorem ok58:OkAt 58 c58:=⟨Tryz.f58,Tryz.func58,by kernel_rfl,by decide +kernel⟩
theorem ok59:OkAt 59 c59:=⟨Tryz.f59,Tryz.func59,by kernel_rfl,by decide +kernel⟩
theorem ok60:OkAt 60 c60:=⟨Tryz.f60,Tryz.func60,by kernel_rfl,by decide +kernel⟩
theorem ok61:OkAt 61 c61:=⟨Tryz.f61,Tryz.func61,by kernel_rfl,by decide +kernel⟩
theorem ok62:OkAt 62 c62:=⟨Tryz.f62,Tryz.func62,by kernel_rfl,by decide +kernel⟩
theorem ok63:OkAt 63 c63:=⟨Tryz.f63,Tryz.func63,by kernel_rfl,by decide +kernel⟩
theorem ok64:OkAt 64 c64:=⟨Tryz.f64,Tryz.func64,by kernel_rfl,by decide +kernel⟩
theorem ok65:OkAt 65 c65:=⟨Tryz.f65,Tryz.func65,by kernel_rfl,by decide +kernel⟩
theorem ok66:OkAt 66 c66:=⟨Tryz.f66,Tryz.func66,by kernel_rfl,by decide +kernel⟩
theorem ok67:OkAt 67 c67:=⟨Tryz.f67,Tryz.func67,by kernel_rfl,by decide +kernel⟩
theorem ok68:OkAt 68 c68:=⟨Tryz.f68,Tryz.func68,by kernel_rfl,by decide +kernel⟩
theorem ok69:OkAt 69 c69:=⟨Tryz.f69,Tryz.func69,by kernel_rfl,by decide +kernel⟩
theorem ok70:OkAt 70 c70:=⟨Tryz.f70,Tryz.func70,by kernel_rfl,by decide +kernel⟩
theorem ok71:OkAt 71 c71:=⟨Tryz.f71,Tryz.func71,by kernel_rfl,by decide +kernel⟩
theorem ok72:OkAt 72 c72:=⟨Tryz.f72,Tryz.func72,by kernel_rfl,by decide +kernel⟩
theorem ok73:OkAt 73 c73:=⟨Tryz.f73,Tryz.func73,by kernel_rfl,by decide +kernel⟩
theorem ok74:OkAt 74 c74:=⟨Tryz.f74,Tryz.func74,by kernel_rfl,by decide +kernel⟩
theorem ok76:OkAt 76 c76:=⟨Tryz.f76,Tryz.func76,by kernel_rfl,by decide +kernel⟩
theorem ok81:OkAt 81 c81:=⟨Tryz.f81,Tryz.func81,by kernel_rfl,by decide +kernel⟩
theorem ok82:OkAt 82 c82:=⟨Tryz.f82,Tryz.func82,by kernel_rfl,by decide +kernel⟩
theorem ok83:OkAt 83 c83:=⟨Tryz.f83,Tryz.func83,by kernel_rfl,by decide +kernel⟩
theorem ok84:OkAt 84 c84:=⟨Tryz.f84,Tryz.func84,by kernel_rfl,by decide +kernel⟩
theorem ok85:OkAt 85 c85:=⟨Tryz.f85,Tryz.func85,by kernel_rfl,by decide +kernel⟩
theorem ok86:OkAt 86 c86:=⟨Tryz.f86,Tryz.func86,by kernel_rfl,by decide +kernel⟩
theorem ok87:OkAt 87 c87:=⟨Tryz.f87,Tryz.func87,by kernel_rfl,by decide +kernel⟩
theorem ok88:OkAt 88 c88:=⟨Tryz.f88,Tryz.func88,by kernel_rfl,by decide +kernel⟩
theorem ok96:OkAt 96 c96:=⟨Tryz.f96,Tryz.func96,by kernel_rfl,by decide +kernel⟩
theorem ok100:OkAt 100 c100:=⟨Tryz.f100,Tryz.func100,by kernel_rfl,by decide +kernel⟩
theorem ok101:OkAt 101 c101:=⟨Tryz.f101,Tryz.func101,by kernel_rfl,by decide +kernel⟩
theorem ok102:OkAt 102 c102:=⟨Tryz.f102,Tryz.func102,by kernel_rfl,by decide +kernel⟩
theorem ok103:OkAt 103 c103:=⟨Tryz.f103,Tryz.func103,by kernel_rfl,by decide +kernel⟩
theorem ok104:OkAt 104 c104:=⟨Tryz.f104,Tryz.func104,by kernel_rfl,by decide +kernel⟩
theorem ok105:OkAt 105 c105:=⟨Tryz.f105,Tryz.func105,by kernel_rfl,by decide +kernel⟩
theorem ok106:OkAt 106 c106:=⟨Tryz.f106,Tryz.func106,by kernel_rfl,by decide +kernel⟩
theorem ok110:OkAt 110 c110:=⟨Tryz.f110,Tryz.func110,by kernel_rfl,by decide +kernel⟩
theorem ok116:OkAt 116 c116:=⟨Tryz.f116,Tryz.func116,by kernel_rfl,by decide +kernel⟩
theorem ok117:OkAt 117 c117:=⟨Tryz.f117,Tryz.func117,by kernel_rfl,by decide +kernel⟩
def Qco:Ren:={ f:=fun | 138=>107 | 195=>118 | 218=>119 | 143=>108 | 219=>120 | 217=>128 | 225=>129 | 224=>130 | 267=>131 | 266=>139 | 314=>140 | n=>n,t:=fun | 9=>9 | 3=>3 | 4=>4 | 5=>5 | 0=>0 | 46=>197 | 146=>209 | 51=>205 | n=>n,g:=fun | 1=>0 | n=>n }
theorem Qq8:Lays.n138 Tryz.prog Qco:={ mixed:=by kernel_rfl,f138:=Tryz.func107.trans (congrArg some (by kernel_rfl)),f143:=Tryz.func108.trans (congrArg some (by kernel_rfl)),f195:=Tryz.func118.trans (congrArg some (by kernel_rfl)),f217:=Tryz.func128.trans (congrArg some (by kernel_rfl)),f218:=Tryz.func119.trans (congrArg some (by kernel_rfl)),f219:=Tryz.func120.trans (congrArg some (by kernel_rfl)),f224:=Tryz.func130.trans (congrArg some (by kernel_rfl)),f225:=Tryz.func129.trans (congrArg some (by kernel_rfl)),f266:=Tryz.func139.trans (congrArg some (by kernel_rfl)),f267:=Tryz.func131.trans (congrArg some (by kernel_rfl)),f314:=Tryz.func140.trans (congrArg some (by kernel_rfl)),t0:=Tryz.underlying0,a0:=Tryz.isAgg0,z0:=Tryz.sizeOf0,v0:=Tryz.zeroValue0,t3:=Tryz.underlying3,a3:=Tryz.isAgg3,z3:=Tryz.sizeOf3,v3:=Tryz.zeroValue3,t4:=Tryz.underlying4,a4:=Tryz.isAgg4,z4:=Tryz.sizeOf4,v4:=Tryz.zeroValue4,t5:=Tryz.underlying5,a5:=Tryz.isAgg5,z5:=Tryz.sizeOf5,v5:=Tryz.zeroValue5,t9:=Tryz.underlying9,a9:=Tryz.isAgg9,z9:=Tryz.sizeOf9,v9:=Tryz.zeroValue9,t46:=Tryz.underlying197,a46:=Tryz.isAgg197,z46:=Tryz.sizeOf197,v46:=Tryz.zeroValue197,t51:=Tryz.underlying205,a51:=Tryz.isAgg205,z51:=Tryz.sizeOf205,v51:=Tryz.zeroValue205,t146:=Tryz.underlying209,a146:=Tryz.isAgg209,z146:=Tryz.sizeOf209,v146:=Tryz.zeroValue209,g1:=by kernel_rfl }
def Qcn:Ren:={ f:=fun | 143=>108 | 219=>120 | 217=>128 | 225=>129 | 224=>130 | 267=>131 | 266=>139 | 314=>140 | n=>n,t:=fun | 9=>9 | 3=>3 | 4=>4 | 5=>5 | 46=>197 | 146=>209 | 51=>205 | n=>n,g:=fun | 1=>0 | n=>n }
theorem Qq7:Lays.n143 Tryz.prog Qcn:={ mixed:=by kernel_rfl,f143:=Tryz.func108.trans (congrArg some (by kernel_rfl)),f217:=Tryz.func128.trans (congrArg some (by kernel_rfl)),f219:=Tryz.func120.trans (congrArg some (by kernel_rfl)),f224:=Tryz.func130.trans (congrArg some (by kernel_rfl)),f225:=Tryz.func129.trans (congrArg some (by kernel_rfl)),f266:=Tryz.func139.trans (congrArg some (by kernel_rfl)),f267:=Tryz.func131.trans (congrArg some (by kernel_rfl)),f314:=Tryz.func140.trans (congrArg some (by kernel_rfl)),t3:=Tryz.underlying3,a3:=Tryz.isAgg3,z3:=Tryz.sizeOf3,v3:=Tryz.zeroValue3,t4:=Tryz.underlying4,a4:=Tryz.isAgg4,z4:=Tryz.sizeOf4,v4:=Tryz.zeroValue4,t5:=Tryz.underlying5,a5:=Tryz.isAgg5,z5:=Tryz.sizeOf5,v5:=Tryz.zeroValue5,t9:=Tryz.underlying9,a9:=Tryz.isAgg9,z9:=Tryz.sizeOf9,v9:=Tryz.zeroValue9,t46:=Tryz.underlying197,a46:=Tryz.isAgg197,z46:=Tryz.sizeOf197,v46:=Tryz.zeroValue197,t51:=Tryz.underlying205,a51:=Tryz.isAgg205,z51:=Tryz.sizeOf205,v51:=Tryz.zeroValue205,t146:=Tryz.underlying209,a146:=Tryz.isAgg209,z146:=Tryz.sizeOf209,v146:=Tryz.zeroValue209,g1:=by kernel_rfl }
def Qcm:Ren:={ f:=fun | 160=>75 | 232=>90 | 231=>89 | 227=>91 | 234=>93 | 233=>92 | 236=>95 | 235=>94 | 228=>109 | 271=>112 | 151=>111 | 197=>110 | 120=>123 | 152=>122 | 260=>121 | 137=>132 | 119=>133 | 224=>130 | 225=>129 | 217=>128 | 266=>139 | n=>n,t:=fun | 9=>9 | 4=>4 | 3=>3 | 5=>5 | 117=>173 | 116=>172 | 0=>0 | 124=>176 | 21=>21 | 105=>181 | 46=>197 | 119=>198 | 139=>201 | 138=>200 | n=>n,g:=fun | 3=>1 | 4=>2 | n=>n }
theorem Qq5:Lays.n160 Tryz.prog Qcm:={ mixed:=by kernel_rfl,f119:=Tryz.func133.trans (congrArg some (by kernel_rfl)),f120:=Tryz.func123.trans (congrArg some (by kernel_rfl)),f137:=Tryz.func132.trans (congrArg some (by kernel_rfl)),f151:=Tryz.func111.trans (congrArg some (by kernel_rfl)),f152:=Tryz.func122.trans (congrArg some (by kernel_rfl)),f160:=Tryz.func75.trans (congrArg some (by kernel_rfl)),f197:=Tryz.func110.trans (congrArg some (by kernel_rfl)),f217:=Tryz.func128.trans (congrArg some (by kernel_rfl)),f224:=Tryz.func130.trans (congrArg some (by kernel_rfl)),f225:=Tryz.func129.trans (congrArg some (by kernel_rfl)),f227:=Tryz.func91.trans (congrArg some (by kernel_rfl)),f228:=Tryz.func109.trans (congrArg some (by kernel_rfl)),f231:=Tryz.func89.trans (congrArg some (by kernel_rfl)),f232:=Tryz.func90.trans (congrArg some (by kernel_rfl)),f233:=Tryz.func92.trans (congrArg some (by kernel_rfl)),f234:=Tryz.func93.trans (congrArg some (by kernel_rfl)),f235:=Tryz.func94.trans (congrArg some (by kernel_rfl)),f236:=Tryz.func95.trans (congrArg some (by kernel_rfl)),f260:=Tryz.func121.trans (congrArg some (by kernel_rfl)),f266:=Tryz.func139.trans (congrArg some (by kernel_rfl)),f271:=Tryz.func112.trans (congrArg some (by kernel_rfl)),t0:=Tryz.underlying0,a0:=Tryz.isAgg0,z0:=Tryz.sizeOf0,v0:=Tryz.zeroValue0,t3:=Tryz.underlying3,a3:=Tryz.isAgg3,z3:=Tryz.sizeOf3,v3:=Tryz.zeroValue3,t4:=Tryz.underlying4,a4:=Tryz.isAgg4,z4:=Tryz.sizeOf4,v4:=Tryz.zeroValue4,t5:=Tryz.underlying5,a5:=Tryz.isAgg5,z5:=Tryz.sizeOf5,v5:=Tryz.zeroValue5,t9:=Tryz.underlying9,a9:=Tryz.isAgg9,z9:=Tryz.sizeOf9,v9:=Tryz.zeroValue9,t21:=Tryz.underlying21,a21:=Tryz.isAgg21,z21:=Tryz.sizeOf21,v21:=Tryz.zeroValue21,t46:=Tryz.underlying197,a46:=Tryz.isAgg197,z46:=Tryz.sizeOf197,v46:=Tryz.zeroValue197,t105:=Tryz.underlying181,a105:=Tryz.isAgg181,z105:=Tryz.sizeOf181,v105:=Tryz.zeroValue181,t116:=Tryz.underlying172,a116:=Tryz.isAgg172,z116:=Tryz.sizeOf172,t117:=Tryz.underlying173,a117:=Tryz.isAgg173,z117:=Tryz.sizeOf173,v117:=Tryz.zeroValue173,t119:=Tryz.underlying198,a119:=Tryz.isAgg198,z119:=Tryz.sizeOf198,t124:=Tryz.underlying176,a124:=Tryz.isAgg176,z124:=Tryz.sizeOf176,v124:=Tryz.zeroValue176,t138:=Tryz.underlying200,a138:=Tryz.isAgg200,z138:=Tryz.sizeOf200,v138:=Tryz.zeroValue200,t139:=Tryz.underlying201,a139:=Tryz.isAgg201,z139:=Tryz.sizeOf201,v139:=Tryz.zeroValue201,g3:=by kernel_rfl,g4:=by kernel_rfl }
def Q72:Ren:={ f:=fun | 156=>56 | 165=>78 | 166=>79 | 169=>80 | 240=>98 | 241=>99 | 276=>114 | 277=>115 | n=>n,t:=fun | 31=>131 | 9=>9 | 3=>3 | 4=>4 | 0=>0 | 20=>20 | 72=>154 | 76=>158 | 70=>152 | 37=>22 | 75=>157 | 127=>145 | 164=>185 | 5=>5 | 80=>82 | n=>n,g:=fun x=>have n:=x;n }
theorem Qq6:Lays.n156 Tryz.prog Q72:={ mixed:=by kernel_rfl,f156:=Tryz.func56.trans (congrArg some (by kernel_rfl)),f165:=Tryz.func78.trans (congrArg some (by kernel_rfl)),f166:=Tryz.func79.trans (congrArg some (by kernel_rfl)),f169:=Tryz.func80.trans (congrArg some (by kernel_rfl)),f240:=Tryz.func98.trans (congrArg some (by kernel_rfl)),f241:=Tryz.func99.trans (congrArg some (by kernel_rfl)),f276:=Tryz.func114.trans (congrArg some (by kernel_rfl)),f277:=Tryz.func115.trans (congrArg some (by kernel_rfl)),t0:=Tryz.underlying0,a0:=Tryz.isAgg0,z0:=Tryz.sizeOf0,v0:=Tryz.zeroValue0,t3:=Tryz.underlying3,a3:=Tryz.isAgg3,z3:=Tryz.sizeOf3,v3:=Tryz.zeroValue3,t4:=Tryz.underlying4,a4:=Tryz.isAgg4,z4:=Tryz.sizeOf4,v4:=Tryz.zeroValue4,t9:=Tryz.underlying9,a9:=Tryz.isAgg9,z9:=Tryz.sizeOf9,v9:=Tryz.zeroValue9,t20:=Tryz.underlying20,a20:=Tryz.isAgg20,z20:=Tryz.sizeOf20,v20:=Tryz.zeroValue20,t31:=Tryz.underlying131,a31:=Tryz.isAgg131,z31:=Tryz.sizeOf131,v31:=Tryz.zeroValue131,t37:=Tryz.underlying22,a37:=Tryz.isAgg22,z37:=Tryz.sizeOf22,v37:=Tryz.zeroValue22,t70:=Tryz.underlying152,a70:=Tryz.isAgg152,z70:=Tryz.sizeOf152,v70:=Tryz.zeroValue152,t72:=Tryz.underlying154,a72:=Tryz.isAgg154,z72:=Tryz.sizeOf154,v72:=Tryz.zeroValue154,t75:=Tryz.underlying157,a75:=Tryz.isAgg157,z75:=Tryz.sizeOf157,v75:=Tryz.zeroValue157,t76:=Tryz.underlying158,a76:=Tryz.isAgg158,z76:=Tryz.sizeOf158,v76:=Tryz.zeroValue158,t127:=Tryz.underlying145,a127:=Tryz.isAgg145,z127:=Tryz.sizeOf145,v127:=Tryz.zeroValue145,t164:=Tryz.underlying185,a164:=Tryz.isAgg185,z164:=Tryz.sizeOf185,v164:=Tryz.zeroValue185 }
def Qcl:Ren:={ f:=fun | 171=>77 | 243=>97 | 246=>113 | 283=>124 | 284=>125 | 285=>126 | 286=>127 | 129=>135 | 317=>134 | 318=>136 | 319=>137 | 320=>138 | 337=>141 | 338=>142 | n=>n,t:=fun | 3=>3 | 9=>9 | 2=>2 | 4=>4 | 171=>191 | 0=>0 | 53=>192 | 37=>22 | 5=>5 | 173=>195 | 212=>204 | 51=>205 | 20=>20 | 213=>206 | 46=>197 | 232=>212 | 233=>213 | n=>n,g:=fun | 17=>3 | 18=>4 | 19=>5 | n=>n }
theorem Qq4:LaysM.n171 Tryz.prog Qcl:={ mixed:=by kernel_rfl,f129:=Tryz.func135.trans (congrArg some (by kernel_rfl)),f171:=Tryz.func77.trans (congrArg some (by kernel_rfl)),f243:=Tryz.func97.trans (congrArg some (by kernel_rfl)),f246:=Tryz.func113.trans (congrArg some (by kernel_rfl)),f283:=Tryz.func124.trans (congrArg some (by kernel_rfl)),f284:=Tryz.func125.trans (congrArg some (by kernel_rfl)),f285:=Tryz.func126.trans (congrArg some (by kernel_rfl)),f286:=Tryz.func127.trans (congrArg some (by kernel_rfl)),f317:=Tryz.func134.trans (congrArg some (by kernel_rfl)),f318:=Tryz.func136.trans (congrArg some (by kernel_rfl)),f319:=Tryz.func137.trans (congrArg some (by kernel_rfl)),f320:=Tryz.func138.trans (congrArg some (by kernel_rfl)),f337:=Tryz.func141.trans (congrArg some (by kernel_rfl)),f338:=Tryz.func142.trans (congrArg some (by kernel_rfl)),t0:=Tryz.underlying0,a0:=Tryz.isAgg0,z0:=Tryz.sizeOf0,v0:=Tryz.zeroValue0,t2:=Tryz.underlying2,a2:=Tryz.isAgg2,z2:=Tryz.sizeOf2,v2:=Tryz.zeroValue2,t3:=Tryz.underlying3,a3:=Tryz.isAgg3,z3:=Tryz.sizeOf3,v3:=Tryz.zeroValue3,t4:=Tryz.underlying4,a4:=Tryz.isAgg4,z4:=Tryz.sizeOf4,v4:=Tryz.zeroValue4,t5:=Tryz.underlying5,a5:=Tryz.isAgg5,z5:=Tryz.sizeOf5,v5:=Tryz.zeroValue5,t9:=Tryz.underlying9,a9:=Tryz.isAgg9,z9:=Tryz.sizeOf9,v9:=Tryz.zeroValue9,t20:=Tryz.underlying20,a20:=Tryz.isAgg20,z20:=Tryz.sizeOf20,v20:=Tryz.zeroValue20,t37:=Tryz.underlying22,a37:=Tryz.isAgg22,z37:=Tryz.sizeOf22,v37:=Tryz.zeroValue22,t46:=Tryz.underlying197,a46:=Tryz.isAgg197,z46:=Tryz.sizeOf197,v46:=Tryz.zeroValue197,t51:=Tryz.underlying205,a51:=Tryz.isAgg205,z51:=Tryz.sizeOf205,v51:=Tryz.zeroValue205,t53:=Tryz.underlying192,a53:=Tryz.isAgg192,z53:=Tryz.sizeOf192,v53:=Tryz.zeroValue192,t171:=Tryz.underlying191,a171:=Tryz.isAgg191,z171:=Tryz.sizeOf191,v171:=Tryz.zeroValue191,t173:=Tryz.underlying195,a173:=Tryz.isAgg195,z173:=Tryz.sizeOf195,v173:=Tryz.zeroValue195,t212:=Tryz.underlying204,a212:=Tryz.isAgg204,z212:=Tryz.sizeOf204,v212:=Tryz.zeroValue204,t213:=Tryz.underlying206,a213:=Tryz.isAgg206,z213:=Tryz.sizeOf206,t232:=Tryz.underlying212,a232:=Tryz.isAgg212,z232:=Tryz.sizeOf212,v232:=Tryz.zeroValue212,t233:=Tryz.underlying213,a233:=Tryz.isAgg213,z233:=Tryz.sizeOf213,v233:=Tryz.zeroValue213,g17:=by kernel_rfl,g18:=by kernel_rfl,g19:=by kernel_rfl,i0:=by kernel_rfl,i2:=by kernel_rfl,i3:=by kernel_rfl,i4:=by kernel_rfl,i5:=by kernel_rfl,i9:=by kernel_rfl,i20:=by kernel_rfl,i37:=by kernel_rfl,i46:=by kernel_rfl,i51:=by kernel_rfl,i53:=by kernel_rfl,i171:=by kernel_rfl,i173:=by kernel_rfl,i212:=by kernel_rfl,i232:=by kernel_rfl,i233:=by kernel_rfl,m17:=by kernel_rfl,m18:=by kernel_rfl,m19:=by kernel_rfl }
theorem Qmp:Builder.Extra Tryz.prog Q72 where
 sizeBuilder:=by kernel_rfl
 liesBuilder:=by kernel_rfl
 t5:=Tryz.underlying5
 a5:=Tryz.isAgg5
 z5:=Tryz.sizeOf5
 v5:=Tryz.zeroValue5
 infoByte:=by kernel_rfl
 cellsByte:=by kernel_rfl
 sizeByte:=by kernel_rfl
 neB5:=by decide
set_option maxRecDepth 100000 in
theorem Qpg:Q1d Tryz.prog F:=by
 intro f fc h
 unfold F at h
 split at h
 ·cases h;exact EntryOk.comp ok3
 ·cases h;exact EntryOk.comp ok4
 ·cases h;exact EntryOk.comp ok5
 ·cases h;exact EntryOk.comp ok6
 ·cases h;exact EntryOk.comp ok7
 ·cases h;exact EntryOk.comp ok8
 ·cases h;exact EntryOk.comp ok9
 ·cases h;exact EntryOk.comp ok10
 ·cases h;exact EntryOk.comp ok11
 ·cases h;exact EntryOk.comp ok12
 ·cases h;exact EntryOk.comp ok13
 ·cases h;exact EntryOk.comp ok14
 ·cases h;exact EntryOk.comp ok15
 ·cases h;exact EntryOk.comp ok16
 ·cases h;exact EntryOk.comp ok17
 ·cases h;exact EntryOk.comp ok18
 ·cases h;exact EntryOk.comp ok19
 ·cases h;exact EntryOk.comp ok20
 ·cases h;exact EntryOk.comp ok21
 ·cases h;exact EntryOk.comp ok22
 ·cases h;exact EntryOk.comp ok23
 ·cases h;exact EntryOk.comp ok24
 ·cases h;exact EntryOk.comp ok25
 ·cases h;exact EntryOk.comp ok26
 ·cases h;exact EntryOk.comp ok27
 ·cases h;exact EntryOk.comp ok28
 ·cases h;exact EntryOk.comp ok29
 ·cases h;exact EntryOk.comp ok30
 ·cases h;exact EntryOk.comp ok31
 ·cases h;exact EntryOk.comp ok32
 ·cases h;exact EntryOk.comp ok33
 ·cases h;exact EntryOk.comp ok34
 ·cases h;exact EntryOk.comp ok35
 ·cases h;exact EntryOk.comp ok36
 ·cases h;exact EntryOk.comp ok37
 ·cases h;exact EntryOk.comp ok38
 ·cases h;exact EntryOk.comp ok39
 ·cases h;exact EntryOk.comp ok40
 ·cases h;exact EntryOk.comp ok41
 ·cases h;exact EntryOk.comp ok42
 ·cases h;exact EntryOk.comp ok43
 ·cases h;exact EntryOk.comp ok44
 ·cases h;exact EntryOk.comp ok45
 ·cases h;exact EntryOk.comp ok46
 ·cases h;exact EntryOk.comp ok47
 ·cases h;exact EntryOk.comp ok48
 ·cases h;exact EntryOk.comp ok49
 ·cases h;exact EntryOk.comp ok50
 ·cases h;exact EntryOk.comp ok51
 ·cases h;exact EntryOk.comp ok52
 ·cases h;exact EntryOk.comp ok53
 ·cases h;exact EntryOk.comp ok54
 ·cases h;exact EntryOk.comp ok55
 ·cases h;exact EntryOk.comp ok57
 ·cases h;exact EntryOk.comp ok58
 ·cases h;exact EntryOk.comp ok59
 ·cases h;exact EntryOk.comp ok60
 ·cases h;exact EntryOk.comp ok61
 ·cases h;exact EntryOk.comp ok62
 ·cases h;exact EntryOk.comp ok63
 ·cases h;exact EntryOk.comp ok64
 ·cases h;exact EntryOk.comp ok65
 ·cases h;exact EntryOk.comp ok66
 ·cases h;exact EntryOk.comp ok67
 ·cases h;exact EntryOk.comp ok68
 ·cases h;exact EntryOk.comp ok69
 ·cases h;exact EntryOk.comp ok70
 ·cases h;exact EntryOk.comp ok71
 ·cases h;exact EntryOk.comp ok72
 ·cases h;exact EntryOk.comp ok73
 ·cases h;exact EntryOk.comp ok74
 ·cases h;exact EntryOk.comp ok76
 ·cases h;exact EntryOk.comp ok81
 ·cases h;exact EntryOk.comp ok82
 ·cases h;exact EntryOk.comp ok83
 ·cases h;exact EntryOk.comp ok84
 ·cases h;exact EntryOk.comp ok85
 ·cases h;exact EntryOk.comp ok86
 ·cases h;exact EntryOk.comp ok87
 ·cases h;exact EntryOk.comp ok88
 ·cases h;exact EntryOk.comp ok96
 ·cases h;exact EntryOk.comp ok100
 ·cases h;exact EntryOk.comp ok101
 ·cases h;exact EntryOk.comp ok102
 ·cases h;exact EntryOk.comp ok103
 ·cases h;exact EntryOk.comp ok104
 ·cases h;exact EntryOk.comp ok105
 ·cases h;exact EntryOk.comp ok106
 ·cases h;exact EntryOk.comp ok110
 ·cases h;exact EntryOk.comp ok116
 ·cases h;exact EntryOk.comp ok117
 ·cases h
theorem Qo0:Q1d Tryz.prog FB:=by
 intro f fc h
 unfold FB at h
 split at h
 ·cases h
 ·cases h;exact EntryOk.known ⟨Tryz.f56,Tryz.func56,by kernel_rfl,by decide +kernel⟩ (Qqc Qq6 Qmp)
 ·cases h;exact EntryOk.known ⟨Tryz.f75,Tryz.func75,by kernel_rfl,by decide +kernel⟩ (Qqb Qq5 (by kernel_rfl))
 ·cases h;exact EntryOk.known ⟨Tryz.f77,Tryz.func77,by kernel_rfl,by decide +kernel⟩ (Qqd Qq4 (fun _ h=>h))
 ·cases h;exact EntryOk.known ⟨Tryz.f107,Tryz.func107,by kernel_rfl,by decide +kernel⟩ (Qmi Qq8)
 ·cases h;exact EntryOk.known ⟨Tryz.f108,Tryz.func108,by kernel_rfl,by decide +kernel⟩ (Qmh Qq7)
 ·exact Qpg f fc h
theorem Qph:Q1d Tryz.prog FB1:=by
 intro f fc h
 unfold FB1 at h
 split at h
 ·cases h;exact EntryOk.known ⟨Tryz.f20,Tryz.func20,by kernel_rfl,by decide +kernel⟩ (kn_vot Qo0 Tryz.func20 (by kernel_rfl))
 ·exact Qo0 f fc h
end Go.Dr.T
