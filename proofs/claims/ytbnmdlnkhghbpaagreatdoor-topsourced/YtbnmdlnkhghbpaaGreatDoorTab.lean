/- The functions of the door are those of the program. -/
import Derived.Test.YtbnmdlnkhghbpaaGreatDoorProg
import Derived.Test.YtbnmdlnkhghbpaaGreatDoorR19Lit
import Derived.Test.YtbnmdlnkhghbpaaGreatDoorDrD
import Derived.Test.YtbnmdlnkhghbpaaGreatDoorG15
import Derived.Test.YtbnmdlnkhghbpaaGreatDoorG17
import Derived.Test.YtbnmdlnkhghbpaaGreatDoorG37
import Derived.Test.YtbnmdlnkhghbpaaGreatDoorR19Lb
import Derived.Test.YtbnmdlnkhghbpaaGreatDoorR20Ge
import Derived.KernelRfl
namespace Go.Dr.T
open Go.Proofs Go.Shelf
abbrev tabN : String := "internal/strconv.uint64pow10"
instance:GT Tryz.prog:=⟨4,fun w=>Lib.TabIs Tryz.prog w tabN .u64 Lib.pow10Tab,fun hb h=>tab_mono (g:=3) (by kernel_rfl) hb h⟩
theorem Qsv {w:World} (h:Lib.TabIs Tryz.prog w tabN .u64 Lib.pow10Tab):4≤w.heap.size:=Qoq (g:=3) (by kernel_rfl) h
def OkAt (f : Nat) (fc : Fc) : Prop := ∃ fn, Tryz.prog.funcs[f]? = some fn ∧ Q9f Tryz.prog fn = some fc ∧ fn.name ≠ "runtime.NumGoroutine"
theorem zK {α:Type} {a:Option α} {f g:α} (h:a=some f) (e:f=g := by kernel_rfl):a=some g:=h.trans (congrArg some e)
theorem zO {f:Nat} {fc:Fc} {fn:Func} (h:Tryz.prog.funcs[f]?=some fn) (a:Q9f Tryz.prog fn=some fc := by kernel_rfl) (b:fn.name≠"runtime.NumGoroutine" := by decide +kernel):OkAt f fc:=⟨fn,h,a,b⟩
theorem ok3:OkAt 3 c3:=zO Tryz.func3
theorem ok4:OkAt 4 c4:=zO Tryz.func4
theorem ok5:OkAt 5 c5:=zO Tryz.func5
theorem ok6:OkAt 6 c6:=zO Tryz.func6
theorem ok7:OkAt 7 c7:=zO Tryz.func7
theorem ok8:OkAt 8 c8:=zO Tryz.func8
theorem ok9:OkAt 9 c9:=zO Tryz.func9
theorem ok10:OkAt 10 c10:=zO Tryz.func10
theorem ok11:OkAt 11 c11:=zO Tryz.func11
theorem ok12:OkAt 12 c12:=zO Tryz.func12
theorem ok13:OkAt 13 c13:=zO Tryz.func13
theorem ok14:OkAt 14 c14:=zO Tryz.func14
theorem ok15:OkAt 15 c15:=zO Tryz.func15
theorem ok16:OkAt 16 c16:=zO Tryz.func16
theorem ok17:OkAt 17 c17:=zO Tryz.func17
theorem ok18:OkAt 18 c18:=zO Tryz.func18
theorem ok19:OkAt 19 c19:=zO Tryz.func19
theorem ok20:OkAt 20 c20:=zO Tryz.func20
theorem ok21:OkAt 21 c21:=zO Tryz.func21
theorem ok22:OkAt 22 c22:=zO Tryz.func22
theorem ok23:OkAt 23 c23:=zO Tryz.func23
theorem ok24:OkAt 24 c24:=zO Tryz.func24
theorem ok25:OkAt 25 c25:=zO Tryz.func25
theorem ok26:OkAt 26 c26:=zO Tryz.func26
theorem ok27:OkAt 27 c27:=zO Tryz.func27
theorem ok28:OkAt 28 c28:=zO Tryz.func28
theorem ok29:OkAt 29 c29:=zO Tryz.func29
theorem ok30:OkAt 30 c30:=zO Tryz.func30
theorem ok31:OkAt 31 c31:=zO Tryz.func31
theorem ok32:OkAt 32 c32:=zO Tryz.func32
theorem ok33:OkAt 33 c33:=zO Tryz.func33
theorem ok34:OkAt 34 c34:=zO Tryz.func34
theorem ok35:OkAt 35 c35:=zO Tryz.func35
theorem ok36:OkAt 36 c36:=zO Tryz.func36
theorem ok37:OkAt 37 c37:=zO Tryz.func37
theorem ok38:OkAt 38 c38:=zO Tryz.func38
theorem ok39:OkAt 39 c39:=zO Tryz.func39
theorem ok40:OkAt 40 c40:=zO Tryz.func40
theorem ok41:OkAt 41 c41:=zO Tryz.func41
theorem ok42:OkAt 42 c42:=zO Tryz.func42
theorem ok43:OkAt 43 c43:=zO Tryz.func43
theorem ok44:OkAt 44 c44:=zO Tryz.func44
theorem ok45:OkAt 45 c45:=zO Tryz.func45
theorem ok46:OkAt 46 c46:=zO Tryz.func46
theorem ok47:OkAt 47 c47:=zO Tryz.func47
theorem ok48:OkAt 48 c48:=zO Tryz.func48
theorem ok50:OkAt 50 c50:=zO Tryz.func50
theorem ok51:OkAt 51 c51:=zO Tryz.func51
theorem ok52:OkAt 52 c52:=zO Tryz.func52
theorem ok53:OkAt 53 c53:=zO Tryz.func53
theorem ok54:OkAt 54 c54:=zO Tryz.func54
theorem ok55:OkAt 55 c55:=zO Tryz.func55
theorem ok56:OkAt 56 c56:=zO Tryz.func56
theorem ok57:OkAt 57 c57:=zO Tryz.func57
theorem ok59:OkAt 59 c59:=zO Tryz.func59
theorem ok60:OkAt 60 c60:=zO Tryz.func60
theorem ok61:OkAt 61 c61:=zO Tryz.func61
theorem ok62:OkAt 62 c62:=zO Tryz.func62
theorem ok63:OkAt 63 c63:=zO Tryz.func63
theorem ok64:OkAt 64 c64:=zO Tryz.func64
theorem ok65:OkAt 65 c65:=zO Tryz.func65
theorem ok66:OkAt 66 c66:=zO Tryz.func66
theorem ok67:OkAt 67 c67:=zO Tryz.func67
theorem ok68:OkAt 68 c68:=zO Tryz.func68
theorem ok69:OkAt 69 c69:=zO Tryz.func69
theorem ok70:OkAt 70 c70:=zO Tryz.func70
theorem ok71:OkAt 71 c71:=zO Tryz.func71
theorem ok72:OkAt 72 c72:=zO Tryz.func72
theorem ok73:OkAt 73 c73:=zO Tryz.func73
theorem ok74:OkAt 74 c74:=zO Tryz.func74
theorem ok75:OkAt 75 c75:=zO Tryz.func75
theorem ok76:OkAt 76 c76:=zO Tryz.func76
theorem ok77:OkAt 77 c77:=zO Tryz.func77
theorem ok78:OkAt 78 c78:=zO Tryz.func78
theorem ok81:OkAt 81 c81:=zO Tryz.func81
theorem ok82:OkAt 82 c82:=zO Tryz.func82
theorem ok83:OkAt 83 c83:=zO Tryz.func83
theorem ok84:OkAt 84 c84:=zO Tryz.func84
theorem ok85:OkAt 85 c85:=zO Tryz.func85
theorem ok87:OkAt 87 c87:=zO Tryz.func87
theorem ok92:OkAt 92 c92:=zO Tryz.func92
theorem ok93:OkAt 93 c93:=zO Tryz.func93
theorem ok94:OkAt 94 c94:=zO Tryz.func94
theorem ok95:OkAt 95 c95:=zO Tryz.func95
theorem ok96:OkAt 96 c96:=zO Tryz.func96
theorem ok108:OkAt 108 c108:=zO Tryz.func108
theorem ok109:OkAt 109 c109:=zO Tryz.func109
theorem ok117:OkAt 117 c117:=zO Tryz.func117
theorem ok121:OkAt 121 c121:=zO Tryz.func121
theorem ok122:OkAt 122 c122:=zO Tryz.func122
theorem ok123:OkAt 123 c123:=zO Tryz.func123
theorem ok124:OkAt 124 c124:=zO Tryz.func124
theorem ok125:OkAt 125 c125:=zO Tryz.func125
theorem ok126:OkAt 126 c126:=zO Tryz.func126
theorem ok133:OkAt 133 c133:=zO Tryz.func133
theorem ok137:OkAt 137 c137:=zO Tryz.func137
theorem ok143:OkAt 143 c143:=zO Tryz.func143
theorem ok144:OkAt 144 c144:=zO Tryz.func144
def Qer:Ren:={ f:=fun|138=>134|195=>146|218=>147|143=>135|219=>148|217=>156|225=>157|224=>158|267=>159|266=>166|314=>167|n=>n,t:=fun|9=>9|3=>3|4=>4|5=>5|0=>0|46=>157|146=>240|51=>191|n=>n,g:=fun|1=>0|n=>n }
theorem Qtw:Lays.n138 Tryz.prog Qer:={ mixed:=by kernel_rfl,f138:=zK Tryz.func134,f143:=zK Tryz.func135,f195:=zK Tryz.func146,f217:=zK Tryz.func156,f218:=zK Tryz.func147,f219:=zK Tryz.func148,f224:=zK Tryz.func158,f225:=zK Tryz.func157,f266:=zK Tryz.func166,f267:=zK Tryz.func159,f314:=zK Tryz.func167,t0:=Tryz.underlying0,a0:=Tryz.isAgg0,z0:=Tryz.sizeOf0,v0:=Tryz.zeroValue0,t3:=Tryz.underlying3,a3:=Tryz.isAgg3,z3:=Tryz.sizeOf3,v3:=Tryz.zeroValue3,t4:=Tryz.underlying4,a4:=Tryz.isAgg4,z4:=Tryz.sizeOf4,v4:=Tryz.zeroValue4,t5:=Tryz.underlying5,a5:=Tryz.isAgg5,z5:=Tryz.sizeOf5,v5:=Tryz.zeroValue5,t9:=Tryz.underlying9,a9:=Tryz.isAgg9,z9:=Tryz.sizeOf9,v9:=Tryz.zeroValue9,t46:=Tryz.underlying157,a46:=Tryz.isAgg157,z46:=Tryz.sizeOf157,v46:=Tryz.zeroValue157,t51:=Tryz.underlying191,a51:=Tryz.isAgg191,z51:=Tryz.sizeOf191,v51:=Tryz.zeroValue191,t146:=Tryz.underlying240,a146:=Tryz.isAgg240,z146:=Tryz.sizeOf240,v146:=Tryz.zeroValue240,g1:=by kernel_rfl }
def Qeq:Ren:={ f:=fun|143=>135|219=>148|217=>156|225=>157|224=>158|267=>159|266=>166|314=>167|n=>n,t:=fun|9=>9|3=>3|4=>4|5=>5|46=>157|146=>240|51=>191|n=>n,g:=fun|1=>0|n=>n }
theorem Qtv:Lays.n143 Tryz.prog Qeq:={ mixed:=by kernel_rfl,f143:=zK Tryz.func135,f217:=zK Tryz.func156,f219:=zK Tryz.func148,f224:=zK Tryz.func158,f225:=zK Tryz.func157,f266:=zK Tryz.func166,f267:=zK Tryz.func159,f314:=zK Tryz.func167,t3:=Tryz.underlying3,a3:=Tryz.isAgg3,z3:=Tryz.sizeOf3,v3:=Tryz.zeroValue3,t4:=Tryz.underlying4,a4:=Tryz.isAgg4,z4:=Tryz.sizeOf4,v4:=Tryz.zeroValue4,t5:=Tryz.underlying5,a5:=Tryz.isAgg5,z5:=Tryz.sizeOf5,v5:=Tryz.zeroValue5,t9:=Tryz.underlying9,a9:=Tryz.isAgg9,z9:=Tryz.sizeOf9,v9:=Tryz.zeroValue9,t46:=Tryz.underlying157,a46:=Tryz.isAgg157,z46:=Tryz.sizeOf157,v46:=Tryz.zeroValue157,t51:=Tryz.underlying191,a51:=Tryz.isAgg191,z51:=Tryz.sizeOf191,v51:=Tryz.zeroValue191,t146:=Tryz.underlying240,a146:=Tryz.isAgg240,z146:=Tryz.sizeOf240,v146:=Tryz.zeroValue240,g1:=by kernel_rfl }
def Qep:Ren:={ f:=fun|160=>86|232=>111|231=>110|227=>112|234=>114|233=>113|236=>116|235=>115|228=>136|271=>139|151=>138|197=>137|120=>151|152=>150|260=>149|137=>160|119=>161|224=>158|225=>157|217=>156|266=>166|n=>n,t:=fun|9=>9|4=>4|3=>3|5=>5|117=>199|116=>198|0=>0|124=>202|21=>21|105=>214|46=>157|119=>232|139=>235|138=>234|n=>n,g:=fun|3=>1|4=>2|n=>n }
theorem Qtt:Lays.n160 Tryz.prog Qep:={ mixed:=by kernel_rfl,f119:=zK Tryz.func161,f120:=zK Tryz.func151,f137:=zK Tryz.func160,f151:=zK Tryz.func138,f152:=zK Tryz.func150,f160:=zK Tryz.func86,f197:=zK Tryz.func137,f217:=zK Tryz.func156,f224:=zK Tryz.func158,f225:=zK Tryz.func157,f227:=zK Tryz.func112,f228:=zK Tryz.func136,f231:=zK Tryz.func110,f232:=zK Tryz.func111,f233:=zK Tryz.func113,f234:=zK Tryz.func114,f235:=zK Tryz.func115,f236:=zK Tryz.func116,f260:=zK Tryz.func149,f266:=zK Tryz.func166,f271:=zK Tryz.func139,t0:=Tryz.underlying0,a0:=Tryz.isAgg0,z0:=Tryz.sizeOf0,v0:=Tryz.zeroValue0,t3:=Tryz.underlying3,a3:=Tryz.isAgg3,z3:=Tryz.sizeOf3,v3:=Tryz.zeroValue3,t4:=Tryz.underlying4,a4:=Tryz.isAgg4,z4:=Tryz.sizeOf4,v4:=Tryz.zeroValue4,t5:=Tryz.underlying5,a5:=Tryz.isAgg5,z5:=Tryz.sizeOf5,v5:=Tryz.zeroValue5,t9:=Tryz.underlying9,a9:=Tryz.isAgg9,z9:=Tryz.sizeOf9,v9:=Tryz.zeroValue9,t21:=Tryz.underlying21,a21:=Tryz.isAgg21,z21:=Tryz.sizeOf21,v21:=Tryz.zeroValue21,t46:=Tryz.underlying157,a46:=Tryz.isAgg157,z46:=Tryz.sizeOf157,v46:=Tryz.zeroValue157,t105:=Tryz.underlying214,a105:=Tryz.isAgg214,z105:=Tryz.sizeOf214,v105:=Tryz.zeroValue214,t116:=Tryz.underlying198,a116:=Tryz.isAgg198,z116:=Tryz.sizeOf198,t117:=Tryz.underlying199,a117:=Tryz.isAgg199,z117:=Tryz.sizeOf199,v117:=Tryz.zeroValue199,t119:=Tryz.underlying232,a119:=Tryz.isAgg232,z119:=Tryz.sizeOf232,t124:=Tryz.underlying202,a124:=Tryz.isAgg202,z124:=Tryz.sizeOf202,v124:=Tryz.zeroValue202,t138:=Tryz.underlying234,a138:=Tryz.isAgg234,z138:=Tryz.sizeOf234,v138:=Tryz.zeroValue234,t139:=Tryz.underlying235,a139:=Tryz.isAgg235,z139:=Tryz.sizeOf235,v139:=Tryz.zeroValue235,g3:=by kernel_rfl,g4:=by kernel_rfl }
def Q8c:Ren:={ f:=fun|156=>58|165=>89|166=>90|169=>91|240=>119|241=>120|276=>141|277=>142|n=>n,t:=fun|31=>138|9=>9|3=>3|4=>4|0=>0|20=>20|72=>168|76=>172|70=>166|37=>40|75=>171|127=>147|164=>218|5=>5|80=>87|n=>n,g:=fun x=>have n:=x;n }
theorem Qtu:Lays.n156 Tryz.prog Q8c:={ mixed:=by kernel_rfl,f156:=zK Tryz.func58,f165:=zK Tryz.func89,f166:=zK Tryz.func90,f169:=zK Tryz.func91,f240:=zK Tryz.func119,f241:=zK Tryz.func120,f276:=zK Tryz.func141,f277:=zK Tryz.func142,t0:=Tryz.underlying0,a0:=Tryz.isAgg0,z0:=Tryz.sizeOf0,v0:=Tryz.zeroValue0,t3:=Tryz.underlying3,a3:=Tryz.isAgg3,z3:=Tryz.sizeOf3,v3:=Tryz.zeroValue3,t4:=Tryz.underlying4,a4:=Tryz.isAgg4,z4:=Tryz.sizeOf4,v4:=Tryz.zeroValue4,t9:=Tryz.underlying9,a9:=Tryz.isAgg9,z9:=Tryz.sizeOf9,v9:=Tryz.zeroValue9,t20:=Tryz.underlying20,a20:=Tryz.isAgg20,z20:=Tryz.sizeOf20,v20:=Tryz.zeroValue20,t31:=Tryz.underlying138,a31:=Tryz.isAgg138,z31:=Tryz.sizeOf138,v31:=Tryz.zeroValue138,t37:=Tryz.underlying40,a37:=Tryz.isAgg40,z37:=Tryz.sizeOf40,v37:=Tryz.zeroValue40,t70:=Tryz.underlying166,a70:=Tryz.isAgg166,z70:=Tryz.sizeOf166,v70:=Tryz.zeroValue166,t72:=Tryz.underlying168,a72:=Tryz.isAgg168,z72:=Tryz.sizeOf168,v72:=Tryz.zeroValue168,t75:=Tryz.underlying171,a75:=Tryz.isAgg171,z75:=Tryz.sizeOf171,v75:=Tryz.zeroValue171,t76:=Tryz.underlying172,a76:=Tryz.isAgg172,z76:=Tryz.sizeOf172,v76:=Tryz.zeroValue172,t127:=Tryz.underlying147,a127:=Tryz.isAgg147,z127:=Tryz.sizeOf147,v127:=Tryz.zeroValue147,t164:=Tryz.underlying218,a164:=Tryz.isAgg218,z164:=Tryz.sizeOf218,v164:=Tryz.zeroValue218 }
def Qeo:Ren:={ f:=fun|171=>88|243=>118|246=>140|283=>152|284=>153|285=>154|286=>155|129=>107|317=>162|318=>163|319=>164|320=>165|337=>168|338=>169|n=>n,t:=fun|3=>3|9=>9|2=>2|4=>4|171=>228|0=>0|53=>193|37=>40|5=>5|173=>230|212=>238|51=>191|20=>20|213=>239|46=>157|232=>242|233=>243|n=>n,g:=fun|17=>3|18=>4|19=>5|n=>n }
theorem Qts:LaysM.n171 Tryz.prog Qeo:={ mixed:=by kernel_rfl,f129:=zK Tryz.func107,f171:=zK Tryz.func88,f243:=zK Tryz.func118,f246:=zK Tryz.func140,f283:=zK Tryz.func152,f284:=zK Tryz.func153,f285:=zK Tryz.func154,f286:=zK Tryz.func155,f317:=zK Tryz.func162,f318:=zK Tryz.func163,f319:=zK Tryz.func164,f320:=zK Tryz.func165,f337:=zK Tryz.func168,f338:=zK Tryz.func169,t0:=Tryz.underlying0,a0:=Tryz.isAgg0,z0:=Tryz.sizeOf0,v0:=Tryz.zeroValue0,t2:=Tryz.underlying2,a2:=Tryz.isAgg2,z2:=Tryz.sizeOf2,v2:=Tryz.zeroValue2,t3:=Tryz.underlying3,a3:=Tryz.isAgg3,z3:=Tryz.sizeOf3,v3:=Tryz.zeroValue3,t4:=Tryz.underlying4,a4:=Tryz.isAgg4,z4:=Tryz.sizeOf4,v4:=Tryz.zeroValue4,t5:=Tryz.underlying5,a5:=Tryz.isAgg5,z5:=Tryz.sizeOf5,v5:=Tryz.zeroValue5,t9:=Tryz.underlying9,a9:=Tryz.isAgg9,z9:=Tryz.sizeOf9,v9:=Tryz.zeroValue9,t20:=Tryz.underlying20,a20:=Tryz.isAgg20,z20:=Tryz.sizeOf20,v20:=Tryz.zeroValue20,t37:=Tryz.underlying40,a37:=Tryz.isAgg40,z37:=Tryz.sizeOf40,v37:=Tryz.zeroValue40,t46:=Tryz.underlying157,a46:=Tryz.isAgg157,z46:=Tryz.sizeOf157,v46:=Tryz.zeroValue157,t51:=Tryz.underlying191,a51:=Tryz.isAgg191,z51:=Tryz.sizeOf191,v51:=Tryz.zeroValue191,t53:=Tryz.underlying193,a53:=Tryz.isAgg193,z53:=Tryz.sizeOf193,v53:=Tryz.zeroValue193,t171:=Tryz.underlying228,a171:=Tryz.isAgg228,z171:=Tryz.sizeOf228,v171:=Tryz.zeroValue228,t173:=Tryz.underlying230,a173:=Tryz.isAgg230,z173:=Tryz.sizeOf230,v173:=Tryz.zeroValue230,t212:=Tryz.underlying238,a212:=Tryz.isAgg238,z212:=Tryz.sizeOf238,v212:=Tryz.zeroValue238,t213:=Tryz.underlying239,a213:=Tryz.isAgg239,z213:=Tryz.sizeOf239,t232:=Tryz.underlying242,a232:=Tryz.isAgg242,z232:=Tryz.sizeOf242,v232:=Tryz.zeroValue242,t233:=Tryz.underlying243,a233:=Tryz.isAgg243,z233:=Tryz.sizeOf243,v233:=Tryz.zeroValue243,g17:=by kernel_rfl,g18:=by kernel_rfl,g19:=by kernel_rfl,i0:=by kernel_rfl,i2:=by kernel_rfl,i3:=by kernel_rfl,i4:=by kernel_rfl,i5:=by kernel_rfl,i9:=by kernel_rfl,i20:=by kernel_rfl,i37:=by kernel_rfl,i46:=by kernel_rfl,i51:=by kernel_rfl,i53:=by kernel_rfl,i171:=by kernel_rfl,i173:=by kernel_rfl,i212:=by kernel_rfl,i232:=by kernel_rfl,i233:=by kernel_rfl,m17:=by kernel_rfl,m18:=by kernel_rfl,m19:=by kernel_rfl }
def Qen:Ren:={ f:=fun|189=>49|125=>80|257=>79|128=>106|129=>107|294=>97|295=>98|296=>99|297=>100|298=>101|299=>102|216=>103|300=>104|301=>105|328=>127|329=>128|330=>129|331=>130|332=>131|215=>132|343=>145|n=>n,t:=fun|28=>23|3=>3|46=>157|0=>0|51=>191|53=>193|4=>4|183=>184|182=>183|131=>109|5=>5|9=>9|218=>205|222=>209|228=>222|229=>223|n=>n,g:=fun x=>have n:=x;n }
theorem Qtr:Lays.n189 Tryz.prog Qen:={ mixed:=by kernel_rfl,f125:=zK Tryz.func80,f128:=zK Tryz.func106,f129:=zK Tryz.func107,f189:=zK Tryz.func49,f215:=zK Tryz.func132,f216:=zK Tryz.func103,f257:=zK Tryz.func79,f294:=zK Tryz.func97,f295:=zK Tryz.func98,f296:=zK Tryz.func99,f297:=zK Tryz.func100,f298:=zK Tryz.func101,f299:=zK Tryz.func102,f300:=zK Tryz.func104,f301:=zK Tryz.func105,f328:=zK Tryz.func127,f329:=zK Tryz.func128,f330:=zK Tryz.func129,f331:=zK Tryz.func130,f332:=zK Tryz.func131,f343:=zK Tryz.func145,t0:=Tryz.underlying0,a0:=Tryz.isAgg0,z0:=Tryz.sizeOf0,v0:=Tryz.zeroValue0,t3:=Tryz.underlying3,a3:=Tryz.isAgg3,z3:=Tryz.sizeOf3,v3:=Tryz.zeroValue3,t4:=Tryz.underlying4,a4:=Tryz.isAgg4,z4:=Tryz.sizeOf4,v4:=Tryz.zeroValue4,t5:=Tryz.underlying5,a5:=Tryz.isAgg5,z5:=Tryz.sizeOf5,v5:=Tryz.zeroValue5,t9:=Tryz.underlying9,a9:=Tryz.isAgg9,z9:=Tryz.sizeOf9,v9:=Tryz.zeroValue9,t28:=Tryz.underlying23,a28:=Tryz.isAgg23,z28:=Tryz.sizeOf23,v28:=Tryz.zeroValue23,t46:=Tryz.underlying157,a46:=Tryz.isAgg157,z46:=Tryz.sizeOf157,v46:=Tryz.zeroValue157,t51:=Tryz.underlying191,a51:=Tryz.isAgg191,z51:=Tryz.sizeOf191,v51:=Tryz.zeroValue191,t53:=Tryz.underlying193,a53:=Tryz.isAgg193,z53:=Tryz.sizeOf193,v53:=Tryz.zeroValue193,t131:=Tryz.underlying109,a131:=Tryz.isAgg109,z131:=Tryz.sizeOf109,v131:=Tryz.zeroValue109,t182:=Tryz.underlying183,a182:=Tryz.isAgg183,z182:=Tryz.sizeOf183,v182:=Tryz.zeroValue183,t183:=Tryz.underlying184,a183:=Tryz.isAgg184,z183:=Tryz.sizeOf184,v183:=Tryz.zeroValue184,t218:=Tryz.underlying205,a218:=Tryz.isAgg205,z218:=Tryz.sizeOf205,v218:=Tryz.zeroValue205,t222:=Tryz.underlying209,a222:=Tryz.isAgg209,z222:=Tryz.sizeOf209,v222:=Tryz.zeroValue209,t228:=Tryz.underlying222,a228:=Tryz.isAgg222,z228:=Tryz.sizeOf222,v228:=Tryz.zeroValue222,t229:=Tryz.underlying223,a229:=Tryz.isAgg223,z229:=Tryz.sizeOf223,v229:=Tryz.zeroValue223 }
theorem Qpy:Builder.Extra Tryz.prog Q8c where
 sizeBuilder:=by kernel_rfl
 liesBuilder:=by kernel_rfl
 t5:=Tryz.underlying5
 a5:=Tryz.isAgg5
 z5:=Tryz.sizeOf5
 v5:=Tryz.zeroValue5
 infoByte:=by kernel_rfl
 cellsByte:=by kernel_rfl
 sizeByte:=by kernel_rfl
 neB5:=by decide
set_option maxRecDepth 100000 in
theorem Qst:Q1h Tryz.prog F:=by
 intro f fc h
 unfold F at h
 split at h
 ·cases h;exact EntryOk.comp ok3
 ·cases h;exact EntryOk.comp ok4
 ·cases h;exact EntryOk.comp ok5
 ·cases h;exact EntryOk.comp ok6
 ·cases h;exact EntryOk.comp ok7
 ·cases h;exact EntryOk.comp ok8
 ·cases h;exact EntryOk.comp ok9
 ·cases h;exact EntryOk.comp ok10
 ·cases h;exact EntryOk.comp ok11
 ·cases h;exact EntryOk.comp ok12
 ·cases h;exact EntryOk.comp ok13
 ·cases h;exact EntryOk.comp ok14
 ·cases h;exact EntryOk.comp ok15
 ·cases h;exact EntryOk.comp ok16
 ·cases h;exact EntryOk.comp ok17
 ·cases h;exact EntryOk.comp ok18
 ·cases h;exact EntryOk.comp ok19
 ·cases h;exact EntryOk.comp ok20
 ·cases h;exact EntryOk.comp ok21
 ·cases h;exact EntryOk.comp ok22
 ·cases h;exact EntryOk.comp ok23
 ·cases h;exact EntryOk.comp ok24
 ·cases h;exact EntryOk.comp ok25
 ·cases h;exact EntryOk.comp ok26
 ·cases h;exact EntryOk.comp ok27
 ·cases h;exact EntryOk.comp ok28
 ·cases h;exact EntryOk.comp ok29
 ·cases h;exact EntryOk.comp ok30
 ·cases h;exact EntryOk.comp ok31
 ·cases h;exact EntryOk.comp ok32
 ·cases h;exact EntryOk.comp ok33
 ·cases h;exact EntryOk.comp ok34
 ·cases h;exact EntryOk.comp ok35
 ·cases h;exact EntryOk.comp ok36
 ·cases h;exact EntryOk.comp ok37
 ·cases h;exact EntryOk.comp ok38
 ·cases h;exact EntryOk.comp ok39
 ·cases h;exact EntryOk.comp ok40
 ·cases h;exact EntryOk.comp ok41
 ·cases h;exact EntryOk.comp ok42
 ·cases h;exact EntryOk.comp ok43
 ·cases h;exact EntryOk.comp ok44
 ·cases h;exact EntryOk.comp ok45
 ·cases h;exact EntryOk.comp ok46
 ·cases h;exact EntryOk.comp ok47
 ·cases h;exact EntryOk.comp ok48
 ·cases h;exact EntryOk.comp ok50
 ·cases h;exact EntryOk.comp ok51
 ·cases h;exact EntryOk.comp ok52
 ·cases h;exact EntryOk.comp ok53
 ·cases h;exact EntryOk.comp ok54
 ·cases h;exact EntryOk.comp ok55
 ·cases h;exact EntryOk.comp ok56
 ·cases h;exact EntryOk.comp ok57
 ·cases h;exact EntryOk.comp ok59
 ·cases h;exact EntryOk.comp ok60
 ·cases h;exact EntryOk.comp ok61
 ·cases h;exact EntryOk.comp ok62
 ·cases h;exact EntryOk.comp ok63
 ·cases h;exact EntryOk.comp ok64
 ·cases h;exact EntryOk.comp ok65
 ·cases h;exact EntryOk.comp ok66
 ·cases h;exact EntryOk.comp ok67
 ·cases h;exact EntryOk.comp ok68
 ·cases h;exact EntryOk.comp ok69
 ·cases h;exact EntryOk.comp ok70
 ·cases h;exact EntryOk.comp ok71
 ·cases h;exact EntryOk.comp ok72
 ·cases h;exact EntryOk.comp ok73
 ·cases h;exact EntryOk.comp ok74
 ·cases h;exact EntryOk.comp ok75
 ·cases h;exact EntryOk.comp ok76
 ·cases h;exact EntryOk.comp ok77
 ·cases h;exact EntryOk.comp ok78
 ·cases h;exact EntryOk.comp ok81
 ·cases h;exact EntryOk.comp ok82
 ·cases h;exact EntryOk.comp ok83
 ·cases h;exact EntryOk.comp ok84
 ·cases h;exact EntryOk.comp ok85
 ·cases h;exact EntryOk.comp ok87
 ·cases h;exact EntryOk.comp ok92
 ·cases h;exact EntryOk.comp ok93
 ·cases h;exact EntryOk.comp ok94
 ·cases h;exact EntryOk.comp ok95
 ·cases h;exact EntryOk.comp ok96
 ·cases h;exact EntryOk.comp ok108
 ·cases h;exact EntryOk.comp ok109
 ·cases h;exact EntryOk.comp ok117
 ·cases h;exact EntryOk.comp ok121
 ·cases h;exact EntryOk.comp ok122
 ·cases h;exact EntryOk.comp ok123
 ·cases h;exact EntryOk.comp ok124
 ·cases h;exact EntryOk.comp ok125
 ·cases h;exact EntryOk.comp ok126
 ·cases h;exact EntryOk.comp ok133
 ·cases h;exact EntryOk.comp ok137
 ·cases h;exact EntryOk.comp ok143
 ·cases h;exact EntryOk.comp ok144
 ·cases h
theorem Qgb:Q1h Tryz.prog FB:=by
 intro f fc h
 unfold FB at h
 split at h
 ·cases h
 ·cases h
 ·cases h
 ·cases h;exact EntryOk.known ⟨Tryz.f49,Tryz.func49,by kernel_rfl,by decide +kernel⟩ (Qu0 Qtr)
 ·cases h;exact EntryOk.known ⟨Tryz.f58,Tryz.func58,by kernel_rfl,by decide +kernel⟩ (Qu1 Qtu Qpy)
 ·cases h;exact EntryOk.known ⟨Tryz.f86,Tryz.func86,by kernel_rfl,by decide +kernel⟩ (Qtz Qtt (by kernel_rfl))
 ·cases h;exact EntryOk.known ⟨Tryz.f88,Tryz.func88,by kernel_rfl,by decide +kernel⟩ (Qu2 Qts (fun _ h=>h))
 ·cases h;exact EntryOk.known ⟨Tryz.f134,Tryz.func134,by kernel_rfl,by decide +kernel⟩ (Qpq Qtw)
 ·cases h;exact EntryOk.known ⟨Tryz.f135,Tryz.func135,by kernel_rfl,by decide +kernel⟩ (Qpp Qtv)
 ·exact Qst f fc h
theorem kn12:KnOk Tryz.prog 12 1 (Q13 T6.gatG):=by
 obtain ⟨fn,h1,h2,_⟩:=ok12
 exact Qh3 Qgb h1 h2 fun ls v h _=>by
  obtain ⟨c,l,rfl,rfl⟩:=T6.gatG_some h
  exact T6.gather_walk c12 rfl
theorem Qic {ls:List V} {v:V} (h:T6.srtdG ls=some v):∃ ks vs,ls=[.rm (Q00 ks) vs]∧ks.length≤1000000∧v=T6.lw false (Q0k ks):=by
 unfold T6.srtdG at h
 split at h
 ·rename_i kc vs
  split at h
  ·rename_i ks hk
   split at h
   ·rename_i hl
    cases h
    exact ⟨ks,vs,by rw [Q8g hk],hl,rfl⟩
   ·cases h
  ·cases h
 ·cases h
theorem kn53:KnOk Tryz.prog 53 1 (Q13 T6.srtdG):=by
 obtain ⟨fn,h1,h2,_⟩:=ok53
 exact Qh3 Qgb h1 h2 fun ls v h _=>by
  obtain ⟨ks,vs,rfl,hk,rfl⟩:=Qic h
  exact T6.sorted_walk hk c53 rfl
set_option maxRecDepth 100000 in
theorem Qsu:Q1h Tryz.prog FB1:=by
 intro f fc h
 unfold FB1 at h
 split at h
 ·cases h;exact EntryOk.known ⟨Tryz.f21,Tryz.func21,by kernel_rfl,by decide +kernel⟩ (kn_vot Qgb Tryz.func21 (by kernel_rfl))
 ·cases h;exact EntryOk.known ⟨Tryz.f12,Tryz.func12,by kernel_rfl,by decide +kernel⟩ (kn12)
 ·cases h;exact EntryOk.known ⟨Tryz.f53,Tryz.func53,by kernel_rfl,by decide +kernel⟩ (kn53)
 ·exact Qgb f fc h
end Go.Dr.T
