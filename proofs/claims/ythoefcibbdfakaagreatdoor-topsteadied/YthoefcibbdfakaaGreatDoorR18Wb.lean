/- Top: law TopSteadied, walked: the film. -/
import Derived.Test.YthoefcibbdfakaaGreatDoorG22
namespace Go.Dr.T
def byC:List (Int × Int)→List V
 | []=>[]
 | b :: l=>.int .i8 b.1 :: .int .i8 b.2 :: byC l
theorem Qoq:∀ {l:List (Int × Int)} {i:Nat} {b:Int × Int},l[i]?=some b→Q0h (byC l) (i * 2+0)=some (.int .i8 b.1)∧Q0h (byC l) (i * 2+1)=some (.int .i8 b.2)
 | x :: l,0,b,h=>by simp only [List.getElem?_cons_zero,Option.some.injEq] at h;subst h;exact ⟨rfl,rfl⟩
 | x :: l,i+1,b,h=>by
  rw [show (i+1) * 2+0=i * 2+0+1+1 by omega,show (i+1) * 2+1=i * 2+1+1+1 by omega]
  exact Qoq (l:=l) (by simpa using h)
theorem Q40 {fp:Fp} {b:Nat}:Q3e fp b []=true:=rfl
theorem Q0e {fp q:Fp} {b i:Nat} {l:List (Nat × Fp)} (h:(b.testBit i || fp.free q)=true) (hl:Q3e fp b l=true):Q3e fp b ((i,q) :: l)=true:=by simp only [Q3e,h,hl,Bool.and_self]
theorem Q8m {b i k j:Nat} (h:k≠j):(b.testBit i || (Fp.new k).free (.new j))=true:=by
 simp [Fp.free,h]
theorem Q8l {b i k j:Nat} (h:k≠j):(b.testBit i || (Fp.new k).free (.some [j] none))=true:=by
 have h2:(j == k)=false:=by simp;omega
 have h3:(k == j)=false:=by simp;omega
 simp [Fp.free,hits,h2,h3,h]
theorem Q8k {b i k j:Nat} (h:k≠j):(b.testBit i || (Fp.some [k] (some k)).free (.some [j] none))=true:=by
 have h2:(j == k)=false:=by simp;omega
 have h3:(k == j)=false:=by simp;omega
 simp [Fp.free,hits,h2,h3,h]
theorem Q8g {b:Bool} {P:Prop} (hb:b=true) (h:P):(match (generalizing:=false) b with | true=>P | false=>False):=by subst hb;exact h
def Qns:MC:=.seq (.reg false 0 [gN 287 0 (.mv (.t 21)),gN 288 1 (.bo .neq (.t 287) (.c (.int .i64 0))),gN 289 3 (.mv (.t 288)),gI 290 289 false 7 (.ld true 2 (.t 24)),gI 291 289 false 7 (.ld true 2 (.t 30)),gI 292 289 false 31 (.eqs true [0,0] (.t 290) (.t 291)),gN 293 63 (.pk (.t 289) (.c (.bool true)) (.t 292)),gN 294 127 (.mv (.t 293)),gI 295 294 false 255 (.mv (.t 25)),gI 296 294 false 511 (.len false (.t 295)),gI 297 294 false 1023 (.bo .eql (.t 296) (.c (.int .i64 0))),gI 298 294 false 255 (.fa 0 (.t 19)),gI 299 294 false 2303 (.ld false 1 (.t 298)),gI 300 294 false 6399 (.bo .eql (.t 299) (.c (.int .i64 0))),gI 301 294 false 14591 (.mv (.t 300)),gI 302 301 true 30975 (.fa 1 (.t 19)),gI 303 301 true 63743 (.ld false 1 (.t 302)),gI 304 301 true 129279 (.bo .eql (.t 303) (.c (.int .i64 0))),gI 305 294 false 260351 (.pk (.t 301) (.t 304) (.c (.bool false))),gI 306 294 false 524287 (.eqv true 1 (.t 297) (.t 305)),gN 307 1048575 (.pk (.t 294) (.c (.bool true)) (.t 306))]) (.cond (.t 307) (.seq (.reg false 0 [gN 4 0 (.mv (.c (.bool false)))]) .ret) .skip)
def Qnt:MC:=.seq (.reg false 1 [gN 246 0 (.mv (.t 5)),gN 247 0 (.mv (.t 9)),gN 248 0 (.mv (.t 18)),gN 249 4 (.bo .add (.t 248) (.c (.int .i64 1))),gN 250 0 (.mv (.t 17)),gN 251 31 (.call (.c (.fn 11 [])) [.t 246,.t 247,.t 249,.t 250]),gN 245 63 (.mv (.t 251)),gN 252 127 (.ex (.t 245) 0),gN 253 127 (.ex (.t 245) 1),gN 254 127 (.ex (.t 245) 2),gN 24 0 (.al 0 [.int .i64 0,.int .i64 0]),gW 1279 (.st 2 (.t 24) (.t 252)),gN 25 3583 (.mv (.t 253)),gN 21 8191 (.mv (.t 254))]) (.seq (.reg true 0 [gN 255 0 (.mv (.t 17)),gN 256 0 (.fa 0 (.t 2)),gN 257 2 (.ld false 1 (.t 256)),gN 258 7 (.bo .rem (.t 255) (.t 257)),gN 259 0 (.fa 0 (.t 19)),gN 260 16 (.ld false 1 (.t 259)),gN 261 63 (.bo .add (.t 258) (.t 260)),gN 262 0 (.mv (.t 17)),gN 263 0 (.fa 0 (.t 2)),gN 264 256 (.ld false 1 (.t 263)),gN 265 896 (.bo .quo (.t 262) (.t 264)),gN 266 0 (.fa 1 (.t 19)),gN 267 2048 (.ld false 1 (.t 266)),gN 268 8064 (.bo .add (.t 265) (.t 267)),gN 26 127 (.mv (.t 261)),gN 27 32767 (.mv (.t 268))]) (.seq (.reg false 0 [gN 270 0 (.ld true 3 (.t 2)),gN 271 0 (.mv (.t 26)),gN 272 0 (.mv (.t 27)),gN 273 7 (.call (.c (.fn 12 [])) [.t 270,.t 271,.t 272]),gN 269 15 (.mv (.t 273)),gN 274 31 (.ex (.t 269) 0),gN 275 31 (.ex (.t 269) 1),gN 28 63 (.mv (.t 274)),gN 29 255 (.mv (.t 275))]) (.seq (.reg false 1 [gN 276 0 (.bd [.int .i64 0,.int .i64 0] [(0,1,.c (.int .i64 (-1))),(1,1,.c (.int .i64 (-1)))]),gN 30 0 (.al 0 [.int .i64 0,.int .i64 0]),gW 3 (.st 2 (.t 30) (.t 276))]) (.seq (.seq (.reg false 0 [gN 277 0 (.mv (.t 29))]) (.cond (.t 277) (.reg false 0 [gN 278 0 (.mv (.t 18)),gN 279 1 (.bo .add (.t 278) (.c (.int .i64 1))),gN 280 0 (.mv (.t 27)),gN 281 0 (.fa 0 (.t 2)),gN 282 8 (.ld false 1 (.t 281)),gN 283 28 (.bo .mul (.t 280) (.t 282)),gN 284 0 (.mv (.t 26)),gN 285 124 (.bo .add (.t 283) (.t 284)),gN 286 255 (.bd [.int .i64 0,.int .i64 0] [(0,1,.t 279),(1,1,.t 285)]),gW 511 (.st 2 (.t 30) (.t 286))]) .skip)) Qns))))
def Qnu:MC:=.seq (.reg false 1 [gN 193 0 (.mv (.t 10)),gN 194 0 (.mv (.t 18)),gN 195 3 (.ia 3 (.t 193) (.t 194)),gN 196 7 (.ld true 3 (.t 195)),gN 19 0 (.al 0 [.int .i64 0,.int .i64 0,.int .i64 0]),gW 31 (.st 3 (.t 19) (.t 196))]) (.seq (.reg true 1 [gN 198 0 (.mv (.t 5)),gN 199 0 (.mv (.t 18)),gN 200 2 (.bo .add (.t 199) (.c (.int .i64 1))),gN 201 7 (.ia 3 (.t 198) (.t 200)),gN 202 15 (.ld true 3 (.t 201)),gN 203 0 (.fa 0 (.t 19)),gN 204 32 (.ld false 1 (.t 203)),gN 205 96 (.un .neg (.t 204)),gN 206 0 (.fa 1 (.t 19)),gN 207 256 (.ld false 1 (.t 206)),gN 208 768 (.un .neg (.t 207)),gN 209 0 (.fa 6 (.t 3)),gN 210 2048 (.ld false 1 (.t 209)),gN 211 8191 (.call (.c (.fn 6 [])) [.t 202,.t 205,.t 208,.t 210]),gN 197 16383 (.mv (.t 211)),gN 212 32767 (.ex (.t 197) 0),gN 213 32767 (.ex (.t 197) 1),gN 20 0 (.al 0 [.int .i64 0,.int .i64 0,.nilsl]),gW 196607 (.st 3 (.t 20) (.t 212)),gN 21 524287 (.mv (.t 213))]) (.seq (.seq (.reg true 0 [gN 214 0 (.mv (.t 21)),gN 215 1 (.bo .neq (.t 214) (.c (.int .i64 0))),gN 216 3 (.mv (.t 215)),gI 217 216 false 7 (.mv (.t 14)),gI 218 216 false 7 (.mv (.t 18)),gI 219 216 false 23 (.bo .add (.t 218) (.c (.int .i64 1))),gI 220 216 false 63 (.ia 3 (.t 217) (.t 219)),gI 221 216 false 127 (.ld true 3 (.t 220)),gI 222 216 false 7 (.ld true 3 (.t 20)),gI 223 216 false 511 (.call (.c (.fn 9 [])) [.t 221,.t 222]),gI 224 216 false 1023 (.un .not (.t 223)),gN 225 2047 (.pk (.t 216) (.c (.bool true)) (.t 224))]) (.cond (.t 225) (.seq (.reg false 0 [gN 4 0 (.mv (.c (.bool false)))]) .ret) .skip)) (.seq (.reg false 0 [gN 227 0 (.ld true 3 (.t 2)),gN 228 0 (.ld true 3 (.t 20)),gN 229 0 (.fa 0 (.t 3)),gN 230 4 (.ld true 4 (.t 229)),gN 231 15 (.call (.c (.fn 10 [])) [.t 227,.t 228,.t 230,.c (.int .i64 0),.c (.int .i64 0)]),gN 226 31 (.mv (.t 231)),gN 232 63 (.ex (.t 226) 0),gN 233 63 (.ex (.t 226) 1),gN 22 127 (.mv (.t 232)),gN 23 511 (.mv (.t 233))]) (.seq (.seq (.reg false 0 [gN 234 0 (.fa 2 (.t 19)),gN 235 1 (.ld false 1 (.t 234)),gN 236 3 (.bo .eql (.t 235) (.c (.int .i64 0))),gN 237 7 (.mv (.t 236)),gI 238 237 true 15 (.mv (.t 23)),gI 239 237 true 31 (.un .not (.t 238)),gI 240 237 true 63 (.mv (.t 239)),gI 241 240 false 127 (.mv (.t 22)),gI 242 240 false 255 (.bo .neq (.t 241) (.c (.int .i64 0))),gI 243 237 true 511 (.pk (.t 240) (.c (.bool true)) (.t 242)),gN 244 1023 (.pk (.t 237) (.t 243) (.c (.bool false)))]) (.cond (.t 244) (.seq (.reg false 0 [gN 4 0 (.mv (.c (.bool false)))]) .ret) .skip)) Qnt))))
def Ql8:MC:=.seq (.reg false 0 [gN 309 0 (.mv (.t 14)),gN 310 0 (.mv (.t 15)),gN 311 3 (.call (.c (.fn 13 [])) [.t 309,.t 310]),gN 308 7 (.mv (.t 311)),gN 312 15 (.ex (.t 308) 0),gN 313 15 (.ex (.t 308) 1),gN 314 15 (.ex (.t 308) 2),gN 31 31 (.mv (.t 312)),gN 32 191 (.mv (.t 313)),gN 16 511 (.mv (.t 314))]) (.seq (.reg false 0 [gN 315 0 (.mv (.t 16)),gN 316 1 (.bo .eql (.t 315) (.c (.int .i64 0))),gN 317 3 (.mv (.t 316)),gI 318 317 true 7 (.mv (.t 31)),gI 319 317 true 7 (.mv (.t 5)),gI 320 317 true 31 (.call (.c (.fn 14 [])) [.t 318,.t 319]),gN 321 63 (.pk (.t 317) (.t 320) (.c (.bool false))),gN 322 127 (.mv (.t 321)),gI 323 322 true 255 (.call (.c (.fn 5 [])) []),gN 324 511 (.pk (.t 322) (.t 323) (.c (.bool false))),gN 4 1023 (.mv (.t 324))]) .ret)
def Qgr:MC:=.seq (.reg false 0 [gN 157 0 (.mv (.t 5)),gN 158 0 (.mv (.t 9)),gN 159 3 (.call (.c (.fn 8 [])) [.t 157,.t 158]),gN 156 7 (.mv (.t 159)),gN 160 15 (.ex (.t 156) 0),gN 161 15 (.ex (.t 156) 1),gN 162 15 (.ex (.t 156) 2),gN 14 31 (.mv (.t 160)),gN 15 191 (.mv (.t 161)),gN 16 511 (.mv (.t 162))]) (.seq (.seq (.reg true 0 [gN 163 0 (.mv (.t 16)),gN 164 1 (.bo .neq (.t 163) (.c (.int .i64 0))),gN 165 3 (.mv (.t 164)),gI 166 165 false 7 (.mv (.t 14)),gI 167 165 false 15 (.len false (.t 166)),gI 168 165 false 7 (.mv (.t 5)),gI 169 165 false 39 (.len false (.t 168)),gI 170 165 false 127 (.bo .neq (.t 167) (.t 169)),gN 171 255 (.pk (.t 165) (.c (.bool true)) (.t 170)),gN 172 511 (.mv (.t 171)),gI 173 172 false 1023 (.mv (.t 14)),gI 174 172 false 2047 (.ia 3 (.t 173) (.c (.int .i64 0))),gI 175 172 false 4095 (.ld true 3 (.t 174)),gI 176 172 false 1023 (.ld true 3 (.t 2)),gI 177 172 false 16383 (.call (.c (.fn 9 [])) [.t 175,.t 176]),gI 178 172 false 32767 (.un .not (.t 177)),gN 179 65535 (.pk (.t 172) (.c (.bool true)) (.t 178))]) (.cond (.t 179) (.seq (.reg false 0 [gN 4 0 (.mv (.c (.bool false)))]) .ret) .skip)) (.seq (.reg false 0 [gN 180 0 (.fa 7 (.t 3)),gN 181 1 (.ld false 1 (.t 180)),gN 182 3 (.ci .i64 (.t 181)),gN 183 0 (.fa 2 (.t 2)),gN 184 8 (.ld false 1 (.t 183)),gN 185 24 (.len false (.t 184)),gN 186 63 (.bo .rem (.t 182) (.t 185)),gN 17 127 (.mv (.t 186))]) (.seq (.seq (.reg false 0 [gN 18 0 (.mv (.c (.int .i64 0)))]) (.block 4 (.loop (.seq (.seq (.reg false 0 [gN 187 0 (.mv (.t 18)),gN 188 0 (.mv (.t 10)),gN 189 2 (.len false (.t 188)),gN 190 7 (.bo .lss (.t 187) (.t 189))]) (.cond (.t 190) .skip (.exit 4))) (.seq (.block 5 Qnu) (.reg false 0 [gN 191 0 (.mv (.t 18)),gN 192 1 (.bo .add (.t 191) (.c (.int .i64 1))),gN 18 3 (.mv (.t 192))])))))) Ql8)))
def Qad:MC:=.seq (.reg false 0 [gN 9 0 (.mv (.c .nilsl))]) (.seq (.reg false 0 [gN 10 0 (.mv (.c .nilsl))]) (.seq (.seq (.reg false 0 [gN 11 0 (.mv (.c (.int .i64 1)))]) (.block 2 (.loop (.seq (.seq (.reg false 0 [gN 98 0 (.mv (.t 11)),gN 99 0 (.mv (.t 5)),gN 100 2 (.len false (.t 99)),gN 101 7 (.bo .lss (.t 98) (.t 100))]) (.cond (.t 101) .skip (.exit 2))) (.seq (.block 3 (.seq (.reg true 1 [gN 105 0 (.ld true 3 (.t 2)),gN 106 0 (.mv (.t 5)),gN 107 0 (.mv (.t 11)),gN 108 6 (.ia 3 (.t 106) (.t 107)),gN 109 14 (.ld true 3 (.t 108)),gN 110 0 (.fa 0 (.t 3)),gN 111 32 (.ld true 4 (.t 110)),gN 112 0 (.fa 4 (.t 3)),gN 113 128 (.ld false 1 (.t 112)),gN 114 511 (.call (.c (.fn 7 [])) [.t 105,.t 109,.t 111,.t 113]),gN 104 1023 (.mv (.t 114)),gN 115 2047 (.ex (.t 104) 0),gN 116 2047 (.ex (.t 104) 1),gN 12 0 (.al 0 [.int .i64 0,.int .i64 0,.int .i64 0]),gW 12287 (.st 3 (.t 12) (.t 115)),gN 13 32767 (.mv (.t 116))]) (.seq (.seq (.reg false 0 [gN 117 0 (.mv (.t 13)),gN 118 1 (.bo .neq (.t 117) (.c (.int .i64 0)))]) (.cond (.t 118) (.seq (.reg false 0 [gN 119 0 (.ld true 3 (.t 12)),gN 120 0 (.bd [.int .i64 0,.int .i64 0,.int .i64 0] []),gN 121 3 (.eqs false [0,0,0] (.t 119) (.t 120)),gN 122 7 (.mv (.t 121)),gI 123 122 true 15 (.call (.c (.fn 5 [])) []),gN 124 31 (.pk (.t 122) (.t 123) (.c (.bool false))),gN 4 63 (.mv (.t 124))]) .ret) .skip)) (.seq (.seq (.reg false 0 [gN 125 0 (.fa 0 (.t 12)),gN 126 1 (.ld false 1 (.t 125)),gN 127 0 (.fa 0 (.t 12)),gN 128 4 (.ld false 1 (.t 127)),gN 129 12 (.un .neg (.t 128)),gN 130 0 (.fa 1 (.t 12)),gN 131 32 (.ld false 1 (.t 130)),gN 132 0 (.fa 1 (.t 12)),gN 133 128 (.ld false 1 (.t 132)),gN 134 384 (.un .neg (.t 133)),gN 135 1023 (.mm true [.t 126,.t 129,.t 131,.t 134]),gN 136 2047 (.bo .gtr (.t 135) (.c (.int .i64 12)))]) (.cond (.t 136) (.seq (.reg false 0 [gN 4 0 (.mv (.c (.bool false)))]) .ret) .skip)) (.seq (.reg false 1 [gN 137 0 (.mv (.t 10)),gN 138 0 (.ld true 3 (.t 12)),gN 139 2 (.bs 1 [.int .i64 0,.int .i64 0,.int .i64 0] [(0,3,.t 138)]),gN 140 7 (.app 0 3 24 true (.t 137) (.t 139)),gN 10 15 (.mv (.t 140))]) (.reg false 2 [gN 141 0 (.mv (.t 9)),gN 142 0 (.mv (.t 11)),gN 143 0 (.mv (.t 11)),gN 144 0 (.fa 0 (.t 12)),gN 145 8 (.ld false 1 (.t 144)),gN 146 24 (.un .neg (.t 145)),gN 147 0 (.fa 1 (.t 12)),gN 148 64 (.ld false 1 (.t 147)),gN 149 192 (.un .neg (.t 148)),gN 150 0 (.fa 6 (.t 3)),gN 151 512 (.ld false 1 (.t 150)),gN 152 1536 (.ci .i64 (.t 151)),gN 153 4094 (.bd [.int .i64 0,.int .i64 0,.int .i64 0,.nilsl,.int .i64 0,.int .i64 0,.int .i64 0,.nilsl] [(0,1,.c (.int .i64 1)),(1,1,.t 142),(2,1,.t 143),(4,1,.t 146),(5,1,.t 149),(6,1,.t 152)]),gN 154 8190 (.bl 0 8 1 [.int .i64 0,.int .i64 0,.int .i64 0,.nilsl,.int .i64 0,.int .i64 0,.int .i64 0,.nilsl] [(0,8,.t 153)]),gN 155 16383 (.app 1 8 96 false (.t 141) (.t 154)),gN 9 32767 (.mv (.t 155))])))))) (.reg false 0 [gN 102 0 (.mv (.t 11)),gN 103 1 (.bo .add (.t 102) (.c (.int .i64 1))),gN 11 3 (.mv (.t 103))])))))) Qgr))
def c3z:Fc:=⟨325,2,[.tmp 4],.seq (.reg false 2 [gN 2 0 (.bx 0 (.t 0)),gN 3 0 (.bx 1 (.t 1)),gN 4 0 (.mv (.c (.bool false)))]) (.seq (.seq (.reg false 0 [gN 33 0 (.ld true 3 (.t 2)),gN 34 1 (.call (.c (.fn 4 [])) [.t 33]),gN 35 3 (.bo .neq (.t 34) (.c (.int .i64 0)))]) (.cond (.t 35) (.seq (.reg false 0 [gN 36 0 (.call (.c (.fn 5 [])) []),gN 4 1 (.mv (.t 36))]) .ret) .skip)) (.seq (.reg false 1 [gN 37 0 (.ld true 3 (.t 2)),gN 38 1 (.bl 0 3 1 [.int .i64 0,.int .i64 0,.nilsl] [(0,3,.t 37)]),gN 5 3 (.mv (.t 38))]) (.seq (.seq (.reg false 0 [gN 6 0 (.mv (.c (.int .i64 0)))]) (.block 0 (.loop (.seq (.seq (.reg false 0 [gN 39 0 (.mv (.t 6)),gN 40 0 (.fa 5 (.t 3)),gN 41 2 (.ld false 1 (.t 40)),gN 42 6 (.len false (.t 41)),gN 43 15 (.bo .lss (.t 39) (.t 42)),gN 44 31 (.mv (.t 43)),gI 45 44 true 63 (.mv (.t 6)),gI 46 44 true 127 (.bo .lss (.t 45) (.c (.int .i64 11))),gN 47 255 (.pk (.t 44) (.t 46) (.c (.bool false)))]) (.cond (.t 47) .skip (.exit 0))) (.seq (.block 1 (.seq (.reg true 1 [gN 51 0 (.ld true 3 (.t 2)),gN 52 0 (.fa 5 (.t 3)),gN 53 2 (.ld false 1 (.t 52)),gN 54 0 (.mv (.t 6)),gN 55 14 (.ia 2 (.t 53) (.t 54)),gN 56 30 (.iaa 1 2 (.t 55) (.c (.int .i64 0))),gN 57 62 (.ld false 1 (.t 56)),gN 58 126 (.ci .i64 (.t 57)),gN 59 254 (.bo .rem (.t 58) (.c (.int .i64 13))),gN 60 0 (.fa 5 (.t 3)),gN 61 512 (.ld false 1 (.t 60)),gN 62 0 (.mv (.t 6)),gN 63 3584 (.ia 2 (.t 61) (.t 62)),gN 64 7680 (.iaa 1 2 (.t 63) (.c (.int .i64 1))),gN 65 15872 (.ld false 1 (.t 64)),gN 66 32256 (.ci .i64 (.t 65)),gN 67 65024 (.bo .rem (.t 66) (.c (.int .i64 13))),gN 68 0 (.fa 6 (.t 3)),gN 69 131072 (.ld false 1 (.t 68)),gN 70 524287 (.call (.c (.fn 6 [])) [.t 51,.t 59,.t 67,.t 69]),gN 50 1048575 (.mv (.t 70)),gN 71 2097151 (.ex (.t 50) 0),gN 72 2097151 (.ex (.t 50) 1),gN 7 0 (.al 0 [.int .i64 0,.int .i64 0,.nilsl]),gW 12582911 (.st 3 (.t 7) (.t 71)),gN 8 33554431 (.mv (.t 72))]) (.seq (.seq (.reg false 0 [gN 73 0 (.mv (.t 8)),gN 74 1 (.bo .neq (.t 73) (.c (.int .i64 0))),gN 75 3 (.mv (.t 74)),gI 76 75 false 7 (.ld true 3 (.t 7)),gI 77 75 false 15 (.call (.c (.fn 4 [])) [.t 76]),gI 78 75 false 31 (.bo .neq (.t 77) (.c (.int .i64 0))),gN 79 63 (.pk (.t 75) (.c (.bool true)) (.t 78)),gN 80 127 (.mv (.t 79)),gI 81 80 false 255 (.fa 0 (.t 7)),gI 82 80 false 511 (.ld false 1 (.t 81)),gI 83 80 false 255 (.fa 0 (.t 2)),gI 84 80 false 1279 (.ld false 1 (.t 83)),gI 85 80 false 4095 (.bo .neq (.t 82) (.t 84)),gN 86 8191 (.pk (.t 80) (.c (.bool true)) (.t 85)),gN 87 16383 (.mv (.t 86)),gI 88 87 false 32767 (.fa 1 (.t 7)),gI 89 87 false 65535 (.ld false 1 (.t 88)),gI 90 87 false 32767 (.fa 1 (.t 2)),gI 91 87 false 163839 (.ld false 1 (.t 90)),gI 92 87 false 524287 (.bo .neq (.t 89) (.t 91)),gN 93 1048575 (.pk (.t 87) (.c (.bool true)) (.t 92))]) (.cond (.t 93) (.seq (.reg false 0 [gN 4 0 (.mv (.c (.bool false)))]) .ret) .skip)) (.reg false 2 [gN 94 0 (.mv (.t 5)),gN 95 0 (.ld true 3 (.t 7)),gN 96 2 (.bl 0 3 1 [.int .i64 0,.int .i64 0,.nilsl] [(0,3,.t 95)]),gN 97 7 (.app 1 3 40 false (.t 94) (.t 96)),gN 5 15 (.mv (.t 97))])))) (.reg false 0 [gN 48 0 (.mv (.t 6)),gN 49 1 (.bo .add (.t 48) (.c (.int .i64 1))),gN 6 3 (.mv (.t 49))])))))) Qad))),none⟩
theorem c3_eq:FB1 3=some c3z:=by with_unfolding_all rfl
attribute [irreducible] Qad Qgr Ql8 Qnu Qnt Qns
def TM3 (W H:Nat) (c cb:Bool) (p:List UInt8) (a b d e r:Int) (Bs:List (Int × Int)) (fill:UInt8) (px:Nat) (v:V) (n6:Int) (g43 g47:Bool) (g45 g46:V):List V:=[.agg [.int .i64 (W:Nat),.int .i64 (H:Nat),.sl c p.length (ofBytes p)],.agg [.int .i64 a,.int .i64 b,.int .i64 d,.int .i64 e,.int .i64 r,.sl cb Bs.length (byC Bs),.int .u8 (fill.toNat:Nat),.int .u16 (px:Nat)],.ref 0 3 0,.ref 1 8 0,.bool false,v,.int .i64 n6,.dead,.dead,.dead,.dead,.dead,.dead,.dead,.dead,.dead,.dead,.dead,.dead,.dead,.dead,.dead,.dead,.dead,.dead,.dead,.dead,.dead,.dead,.dead,.dead,.dead,.dead,.agg [.int .i64 (W:Nat),.int .i64 (H:Nat),.sl c p.length (ofBytes p)],.int .i64 0,.bool !decide ((0:Int)=0),.dead,.agg [.int .i64 (W:Nat),.int .i64 (H:Nat),.sl c p.length (ofBytes p)],.sl true 1 [.int .i64 (W:Nat),.int .i64 (H:Nat),.sl c p.length (ofBytes p)],.int .i64 n6,.ref 1 8 5,.sl cb Bs.length (byC Bs),.int .i64 (Bs.length:Nat),.bool g43,.bool g43,g45,g46,.bool g47,.dead,.dead,.dead,.dead,.dead,.dead,.dead,.dead,.dead,.dead,.dead,.dead,.dead,.dead,.dead,.dead,.dead,.dead,.dead,.dead,.dead,.dead,.dead,.dead,.dead,.dead,.dead,.dead,.dead,.dead,.dead,.dead,.dead,.dead,.dead,.dead,.dead,.dead,.dead,.dead,.dead,.dead,.dead,.dead,.dead,.dead,.dead,.dead,.dead,.dead,.dead,.dead,.dead,.dead,.dead,.dead,.dead,.dead,.dead,.dead,.dead,.dead,.dead,.dead,.dead,.dead,.dead,.dead,.dead,.dead,.dead,.dead,.dead,.dead,.dead,.dead,.dead,.dead,.dead,.dead,.dead,.dead,.dead,.dead,.dead,.dead,.dead,.dead,.dead,.dead,.dead,.dead,.dead,.dead,.dead,.dead,.dead,.dead,.dead,.dead,.dead,.dead,.dead,.dead,.dead,.dead,.dead,.dead,.dead,.dead,.dead,.dead,.dead,.dead,.dead,.dead,.dead,.dead,.dead,.dead,.dead,.dead,.dead,.dead,.dead,.dead,.dead,.dead,.dead,.dead,.dead,.dead,.dead,.dead,.dead,.dead,.dead,.dead,.dead,.dead,.dead,.dead,.dead,.dead,.dead,.dead,.dead,.dead,.dead,.dead,.dead,.dead,.dead,.dead,.dead,.dead,.dead,.dead,.dead,.dead,.dead,.dead,.dead,.dead,.dead,.dead,.dead,.dead,.dead,.dead,.dead,.dead,.dead,.dead,.dead,.dead,.dead,.dead,.dead,.dead,.dead,.dead,.dead,.dead,.dead,.dead,.dead,.dead,.dead,.dead,.dead,.dead,.dead,.dead,.dead,.dead,.dead,.dead,.dead,.dead,.dead,.dead,.dead,.dead,.dead,.dead,.dead,.dead,.dead,.dead,.dead,.dead,.dead,.dead,.dead,.dead,.dead,.dead,.dead,.dead,.dead,.dead,.dead,.dead,.dead,.dead,.dead,.dead,.dead,.dead,.dead,.dead,.dead,.dead,.dead,.dead,.dead,.dead,.dead,.dead,.dead,.dead,.dead,.dead,.dead,.dead,.dead,.dead,.dead,.dead,.dead,.dead,.dead,.dead,.dead,.dead,.dead,.dead,.dead,.dead,.dead,.dead,.dead,.dead,.dead,.dead,.dead,.dead,.dead,.dead,.dead,.dead,.dead,.dead,.dead,.dead,.dead]
def frC (W H:Nat) (c:Bool) (p:List UInt8):List V:=[.int .i64 W,.int .i64 H,.sl c p.length (ofBytes p)]
def shC' (cb:Bool) (a b d e r:Int) (Bs:List (Int × Int)) (fill:UInt8) (px:Nat):List V:=[.int .i64 a,.int .i64 b,.int .i64 d,.int .i64 e,.int .i64 r,.sl cb Bs.length (byC Bs),.int .u8 (fill.toNat:Nat),.int .u16 (px:Nat)]
structure WI where
 i:Nat
 v:V
 G:List B
set_option maxRecDepth 100000 in
set_option maxHeartbeats 20000000 in
theorem Qao {w h:Int} {c cb:Bool} {p:List UInt8} {a b d e r:Int} {Bs:List (Int × Int)} {fill px:Int} (hck:T7.checkL w h p.length≠0):Fun FB1 md 3 [.agg [.int .i64 w,.int .i64 h,.sl c p.length (ofBytes p)],.agg [.int .i64 a,.int .i64 b,.int .i64 d,.int .i64 e,.int .i64 r,.sl cb Bs.length (byC Bs),.int .u8 fill,.int .u16 px]] (.bool true):=by
 have k9:=Qgq
 have k4:Fun FB1 md 4 _ _:=tabF (T7.checkR_any w h c p)
 generalize T7.checkL w h p.length=k at *
 refine Q07 rfl rfl ?_
 repeat' (first
 | (conv=>whnf)
   first
   | (refine Br.decF ?_ ?_;(focus first | assumption | omega))
   | refine Br.not ?_
   | refine Q00 rfl rfl k4 (.inl rfl) ?_
   | refine Q00 rfl rfl k9 (.inl rfl) ?_
   | refine Get.mk _ rfl ?_
   | refine Leaves.of ?_
   | refine Vw.bool ?_
   | (refine Req.mk ?_ ?_;(focus first | rfl | decide | exact ⟨rfl,rfl⟩ | exact ⟨rfl,by decide⟩ | exact (fun _=>rfl) | exact (fun h=>nomatch h) | (simp;done) | omega | (simp [big];done) | exact Q02 (by omega) | exact Q01 (by omega))))
 all_goals first | rfl | (exfalso;omega;done)
set_option maxRecDepth 100000 in
set_option maxHeartbeats 20000000 in
theorem Qc7 {W H:Nat} {c cb:Bool} {p:List UInt8} {a b d e r:Int} {Bs:List (Int × Int)} {fill:UInt8} {px:Nat} (h1:1≤W∧W≤48) (h2:1≤H∧H≤48) (hp:p.length=W * H) (hBs:∀ x∈Bs,(-128≤x.1∧x.1≤127)∧(-128≤x.2∧x.2≤127)) (hpx:px≤65535)
  (hrest:∀ (n6:Int) (g43 g47:Bool) (g45 g46 v:V) (G:List B),((g45 = .tup []∧g46 = .tup [])∨∃ x y,g45 = .int .i64 x∧g46 = .bool y)→WF (frC W H c p) (shC' cb a b d e r Bs fill px) (shF c W H p fill (shD Bs)) v G→wp FB1 md 0 Qad ⟨TM3 W H c cb p a b d e r Bs fill px v n6 g43 g47 g45 g46,G⟩ (Leaves c3z.res (.bool true))):Fun FB1 md 3 [.agg [.int .i64 W,.int .i64 H,.sl c p.length (ofBytes p)],.agg [.int .i64 a,.int .i64 b,.int .i64 d,.int .i64 e,.int .i64 r,.sl cb Bs.length (byC Bs),.int .u8 (fill.toNat:Nat),.int .u16 (px:Nat)]] (.bool true):=by
 have k9:=Qgq
 have k4:Fun FB1 md 4 _ _:=tabF (T7.checkR_any W H c p)
 have hck0:=T7.check_ok h1.1 h1.2 h2.1 h2.2 hp
 rw [hck0] at k4
 have hWH:W * H≤2304:=Nat.mul_le_mul h1.2 h2.2
 refine Q07 c3_eq rfl ?_
 repeat' (first
 | (conv=>whnf)
   first
   | refine Br.f ?_
   | refine Q00 rfl rfl k4 (.inl rfl) ?_
   | refine Get.mk _ rfl ?_
   | (refine Req.mk ?_ ?_;(focus first | rfl | decide | exact ⟨rfl,rfl⟩ | exact ⟨rfl,by decide⟩ | exact (fun _=>rfl) | exact (fun h=>nomatch h) | (simp;done) | omega | (simp [big];done) | exact Q02 (by omega) | exact Q01 (by omega))))
 all_goals try (exfalso;omega;done)
 refine LoopP.by (fun x:WI=>x.i≤(shD Bs).length∧WF [.int .i64 W,.int .i64 H,.sl c p.length (ofBytes p)] [.int .i64 a,.int .i64 b,.int .i64 d,.int .i64 e,.int .i64 r,.sl cb Bs.length (byC Bs),.int .u8 (fill.toNat:Nat),.int .u16 (px:Nat)] (shF c W H p fill ((shD Bs).take x.i)) x.v x.G) (fun x=>[(5,x.v),(6,.int .i64 (x.i:Nat))]) (fun x=>x.G) (fun x=>(shD Bs).length - x.i) ⟨0,_,_⟩ ⟨Nat.zero_le _,?_,?_,rfl,rfl,.inl ⟨rfl,rfl⟩⟩ rfl ?_
 ·rfl
 ·exact Nat.le_of_ble_eq_true rfl
 rintro ⟨i,v,G⟩ ⟨w1,w2⟩
 dsimp only at w1 w2 ⊢
 have hGl:=w2.le
 have d0:=w2.b0
 have d1:=w2.b1
 have hsl:=Qhw (Bs:=Bs)
 by_cases hi:i<(shD Bs).length
 ·obtain ⟨z,hz⟩:∃ z,Bs[i]?=some z:=⟨_,List.getElem?_eq_getElem (by omega)⟩
  have hd:=shD_at hz (by omega)
  have hrg:=Qpn _ (List.mem_of_getElem? hd)
  have hbz:=hBs z (List.mem_of_getElem? hz)
  obtain ⟨z0,z1⟩:=Qoq hz
  have k6:Fun FB1 md 6 _ _:=tabF (T7.move_ok (c:=c) h1.1 h1.2 h2.1 h2.2 hp hrg.1 hrg.2 fill)
  have k4b:Fun FB1 md 4 _ _:=tabF (T7.checkR_any W H false (T7.moveL W H p (z.1.tmod 13) (z.2.tmod 13) fill (W * H)))
  rw [T7.check_ok h1.1 h1.2 h2.1 h2.2 (T7.moveL_length ..)] at k4b
  have hx0:IntKind.i64.wrap z.1=z.1:=wrap_i64 (by omega) (by omega)
  have hx1:IntKind.i64.wrap z.2=z.2:=wrap_i64 (by omega) (by omega)
  have hm0:z.1.tmod 13=z.1.tmod 13:=rfl
  have hm1:z.2.tmod 13=z.2.tmod 13:=rfl
  have hiw:IntKind.i64.wrap ((i:Int)+1)=((i+1:Nat):Int):=by rw [wrap_i64 (by omega) (by omega)];omega
  have hil:i≤Bs.length - 1:=by omega
  have hB0:0<Bs.length:=by omega
  have hFt:=Qls (c:=c) (W:=W) (H:=H) (p:=p) (fill:=fill) hd
  have hFl:=Q2l (c:=c) (W:=W) (H:=H) (p:=p) (fill:=fill) (D:=(shD Bs).take i)
  rw [List.length_take,Nat.min_eq_left (by omega)] at hFl
  have hmv:mvF W H p fill (z.1.tmod 13,z.2.tmod 13)=⟨false,W,H,T7.moveL W H p (z.1.tmod 13) (z.2.tmod 13) fill (W * H)⟩:=rfl
  rw [hmv] at hFt
  clear hmv
  generalize T7.moveL W H p (z.1.tmod 13) (z.2.tmod 13) fill (W * H)=pm at *
  have hX1:hasc G.length [B.blk [.int .i64 (W:Nat),.int .i64 (H:Nat),.sl false pm.length (ofBytes pm)] false]:=⟨rfl,trivial⟩
  rcases w2.film with ⟨f1,rfl⟩ | ⟨q,q1,_,rfl,hq⟩
  ·have hl1:(fmC (shF c W H p fill ((shD Bs).take i))).length=1 * 3∧bget ((G++[B.blk [.int .i64 (W:Nat),.int .i64 (H:Nat),.sl false pm.length (ofBytes pm)] false])++[B.unborn,B.unborn]) ((G++[B.blk [.int .i64 (W:Nat),.int .i64 (H:Nat),.sl false pm.length (ofBytes pm)] false]).length+0+1)=some .unborn:=⟨by rw [Q0c,f1],bget_new (i:=1)⟩
   have hl2:(1:Nat)=1:=rfl
   have hsz:((fmC (shF c W H p fill ((shD Bs).take i))).length+[V.int .i64 (W:Nat),.int .i64 (H:Nat),.sl false pm.length (ofBytes pm)].length) * (40+1)<big:=by rw [Q0c,f1];exact Q01 (by simp only [List.length_cons,List.length_nil];decide)
   repeat' (first
 | (conv=>whnf)
   first
   | refine Bnd.eq hiw ?_
   | refine Bnd.eq hx0 ?_
   | refine Bnd.eq hx1 ?_
   | refine Bnd.eq hm0 ?_
   | refine Bnd.eq hm1 ?_
   | refine Br.f ?_
   | (refine Br.decT ?_ ?_;(focus first | assumption | omega))
   | refine Br.not ?_
   | refine fLen.mk ?_
   | refine fB.i0 ?_
   | refine fB.i1 ?_
   | refine Get.mk _ d1 ?_
   | refine Get.mk _ (bget_app d0) ?_
   | refine Get.mk _ (bget_app d1) ?_
   | refine Get.mk _ z0 ?_
   | refine Get.mk _ z1 ?_
   | refine Idx.nat hil ?_
   | refine Req.mk hB0 ?_
   | refine Q00 rfl rfl k6 (.inl rfl) ?_
   | refine Q00 rfl rfl k4b (.inl rfl) ?_
   | (refine Q8g ?_ ?_;(focus repeat' (first | exact Q40 | refine Q0e rfl ?_ | refine Q0e (Q8l (by omega)) ?_ | refine Q0e (Q8k (by omega)) ?_ | refine Q0e (Q8m (by omega)) ?_)))
   | refine Get.newj 0 rfl rfl ?_
   | refine fB.newj 0 rfl ?_
   | refine Get.mk _ (bget_app (bget_new (i:=0))) ?_
   | refine Req.mk hl1 ?_
   | refine Req.mk hsz ?_
   | refine Get.newj 1 rfl rfl ?_
   | refine fB.newj 1 rfl ?_
   | refine fB.mk ?_
   | (refine Idx.nat ?_ ?_;(focus omega))
   | (refine Idx.int ?_ ?_ ?_;(focus omega);(focus omega))
   | (refine Ifz.pos ?_ ?_;(focus omega))
   | refine Get.mk _ rfl ?_
   | (refine Req.mk ?_ ?_;(focus first | rfl | decide | exact ⟨rfl,rfl⟩ | exact ⟨rfl,by decide⟩ | exact (fun _=>rfl) | exact (fun h=>nomatch h) | (simp;done) | omega | (simp [big];done) | exact Q02 (by omega) | exact Q01 (by omega))))
   all_goals try (exfalso;omega;done)
   have hf:=((w2.app hX1).first (g:=⟨false,W,H,pm⟩) (n:=(fmC (shF c W H p fill ((shD Bs).take i))).length+3) f1 rfl (by rw [Q0c,f1]))
   rw [← hFt] at hf
   exact NextP.of (fun h=>WI.mk (i+1) (.ms 3 ((G++[B.blk [.int .i64 (W:Nat),.int .i64 (H:Nat),.sl false pm.length (ofBytes pm)] false]).length+1) ((fmC (shF c W H p fill ((shD Bs).take i))).length+3) 0 2 false) h) ⟨hi,hf.norm (j:=5) (by exact Nat.le_of_ble_eq_true rfl) (by rw [List.length_append,List.length_append];simp only [List.length_cons,List.length_nil];show 3≤_;omega) rfl⟩ (by dsimp only;omega) rfl
  ·have hlen3:(fmC (shF c W H p fill ((shD Bs).take i))).length=(shF c W H p fill ((shD Bs).take i)).length * 3:=Q0c _
   have hsz:∀ {y:List V},y.length=3→0+(shF c W H p fill ((shD Bs).take i)).length * 3=(shF c W H p fill ((shD Bs).take i)).length * 3∧((fmC (shF c W H p fill ((shD Bs).take i))).length+y.length) * (40+1)<big:=fun {y} h=>⟨Nat.zero_add _,by rw [hlen3,hFl,h];unfold big;omega⟩
   have hsz:=hsz (y:=[V.int .i64 (W:Nat),.int .i64 (H:Nat),.sl false pm.length (ofBytes pm)]) rfl
   have hq2:bget ((G++[B.blk [.int .i64 (W:Nat),.int .i64 (H:Nat),.sl false pm.length (ofBytes pm)] false])++[B.unborn,B.unborn]) q=some (.blk (fmC (shF c W H p fill ((shD Bs).take i))) false):=bget_app (bget_app hq)
   repeat' (first
 | (conv=>whnf)
   first
   | refine Bnd.eq hiw ?_
   | refine Bnd.eq hx0 ?_
   | refine Bnd.eq hx1 ?_
   | refine Bnd.eq hm0 ?_
   | refine Bnd.eq hm1 ?_
   | refine Br.f ?_
   | (refine Br.decT ?_ ?_;(focus first | assumption | omega))
   | refine Br.not ?_
   | refine fLen.mk ?_
   | refine fB.i0 ?_
   | refine fB.i1 ?_
   | refine Get.mk _ d1 ?_
   | refine Get.mk _ (bget_app d0) ?_
   | refine Get.mk _ (bget_app d1) ?_
   | refine Get.mk _ z0 ?_
   | refine Get.mk _ z1 ?_
   | refine Idx.nat hil ?_
   | refine Req.mk hB0 ?_
   | refine Q00 rfl rfl k6 (.inl rfl) ?_
   | refine Q00 rfl rfl k4b (.inl rfl) ?_
   | (refine Q8g ?_ ?_;(focus repeat' (first | exact Q40 | refine Q0e rfl ?_ | refine Q0e (Q8l (by omega)) ?_ | refine Q0e (Q8k (by omega)) ?_ | refine Q0e (Q8m (by omega)) ?_)))
   | refine Get.newj 0 rfl rfl ?_
   | refine fB.newj 0 rfl ?_
   | refine Get.mk _ (bget_app (bget_new (i:=0))) ?_
   | refine Get.mk _ hq2 ?_
   | refine Req.mk hlen3 ?_
   | refine Req.mk hsz ?_
   | refine fB.mk ?_
   | (refine Idx.nat ?_ ?_;(focus omega))
   | (refine Idx.int ?_ ?_ ?_;(focus omega);(focus omega))
   | (refine Ifz.pos ?_ ?_;(focus omega))
   | refine Get.mk _ rfl ?_
   | (refine Req.mk ?_ ?_;(focus first | rfl | decide | exact ⟨rfl,rfl⟩ | exact ⟨rfl,by decide⟩ | exact (fun _=>rfl) | exact (fun h=>nomatch h) | (simp;done) | omega | (simp [big];done) | exact Q02 (by omega) | exact Q01 (by omega))))
   all_goals try (exfalso;omega;done)
   have hf:=(((w2.app hX1).app (X:=[B.unborn,B.unborn]) ⟨rfl,rfl,trivial⟩).more (g:=⟨false,W,H,pm⟩) rfl rfl)
   rw [← hFt] at hf
   exact NextP.of (fun h=>WI.mk (i+1) (.ms 3 q ((shF c W H p fill ((shD Bs).take i)).length * 3+3) 0 ((shF c W H p fill ((shD Bs).take i)).length+1) false) h) ⟨hi,hf.norm (j:=5) (by exact Nat.le_of_ble_eq_true rfl) (by rw [bset_len,List.length_append,List.length_append];simp only [List.length_cons,List.length_nil];show 3≤_;omega) rfl⟩ (by dsimp only;omega) rfl
 obtain rfl:i=(shD Bs).length:=by omega
 rw [List.take_length] at w2
 by_cases hB:Bs.length≤11
 ·have hE:(shD Bs).length=Bs.length:=by omega
  rw [hE]
  repeat' (first
 | (conv=>whnf)
   first
   | refine Br.f ?_
   | (refine Br.decF ?_ ?_;(focus first | assumption | omega))
   | refine fLen.mk ?_
   | refine fB.i0 ?_
   | refine Get.mk _ d1 ?_
   | refine fB.mk ?_
   | refine Get.mk _ rfl ?_
   | (refine Req.mk ?_ ?_;(focus first | rfl | decide | exact ⟨rfl,rfl⟩ | exact ⟨rfl,by decide⟩ | exact (fun _=>rfl) | exact (fun h=>nomatch h) | (simp;done) | omega | (simp [big];done) | exact Q02 (by omega) | exact Q01 (by omega))))
  all_goals try (exfalso;omega;done)
  conv=>whnf
  exact hrest _ _ _ _ _ _ _ (.inl ⟨rfl,rfl⟩) w2
 ·have hE:(shD Bs).length=11:=by omega
  rw [hE]
  repeat' (first
 | (conv=>whnf)
   first
   | refine Br.f ?_
   | (refine Br.decT ?_ ?_;(focus first | assumption | omega))
   | refine fLen.mk ?_
   | refine fB.i0 ?_
   | refine Get.mk _ d1 ?_
   | refine fB.mk ?_
   | refine Get.mk _ rfl ?_
   | (refine Req.mk ?_ ?_;(focus first | rfl | decide | exact ⟨rfl,rfl⟩ | exact ⟨rfl,by decide⟩ | exact (fun _=>rfl) | exact (fun h=>nomatch h) | (simp;done) | omega | (simp [big];done) | exact Q02 (by omega) | exact Q01 (by omega))))
  all_goals try (exfalso;omega;done)
  conv=>whnf
  exact hrest _ _ _ _ _ _ _ (.inr ⟨_,_,rfl,rfl⟩) w2
end Go.Dr.T
