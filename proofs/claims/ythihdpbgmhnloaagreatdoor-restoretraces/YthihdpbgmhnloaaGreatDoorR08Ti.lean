/- Chapter 08: the reference's Trace: what its walks need; the code of its second loop. -/
import Derived.Test.YthihdpbgmhnloaaGreatDoorG23
namespace Go.Dr.T
theorem fsC_one {c:Bool} {W H:Nat} {l:List Fm} {ss:List Sp}:fsC c W H l ss (0+1)=[fsV c W H l ss 0]:=rfl
structure RTS where
 i:Nat
 v:V
 G:List B
structure RT2 where
 k:Nat
 v:V
 G:List B
def inR (L:List Int):V:=.sl (decide (L.length<2)) L.length (ofInts L)
theorem BV.vw2 {r:Nat} {G:List B} {L:List Int} {v:V} {d:Nat} (e:BV r G L v):Vw G (d+1+1) v (inR L):=by
 unfold inR
 rcases e with ⟨rfl,rfl⟩ | ⟨j,rfl,rfl⟩ | ⟨t,t1,t2,t3,rfl,t5⟩
 ·exact Vw.nil
 ·exact Vw.sl
 ·rw [decide_eq_false (by omega)]
  exact VwF.vw (VwF.ms t5 (by simp [ofInts]) (part_all (by simp [ofInts])) (VwLF.ints L))
theorem freeNil' {fp:Fp} {b:Nat}:freeOf fp b []=true:=rfl
theorem freeCons' {fp q:Fp} {b i:Nat} {l:List (Nat × Fp)} (h:(b.testBit i || fp.free q)=true) (hl:freeOf fp b l=true):freeOf fp b ((i,q) :: l)=true:=by simp only [freeOf,h,hl,Bool.and_self]
theorem freeNN {b i k j:Nat} (h:k≠j):(b.testBit i || (Fp.new k).free (.new j))=true:=by
 have h3:(k == j)=false:=by simp;omega
 simp [Fp.free,h]
theorem mBool' {b:Bool} {P:Prop} (hb:b=true) (h:P):(match (generalizing:=false) b with | true=>P | false=>False):=by subst hb;exact h
theorem RH.app {n:Nat} {cs:List V} {v:V} {G X:List B} (e:RH n cs v G) (hX:hasc G.length X):RH n cs v (G++X):=by
 refine ⟨cl_asc e.cl hX,by rw [List.length_append];have:=e.le;omega,bget_app e.b0,?_⟩
 rcases e.fv with h | ⟨q,q1,h,q3⟩
 ·exact .inl h
 ·exact .inr ⟨q,q1,h,bget_app q3⟩
theorem res_traceR {tm:List V} {g:List B} {v z:V} {P:V→Prop} (h1:tg tm 8 = .ref 0 2 0) (hb:bget g 0=some (.blk [v,z] false)) (hk:P (.tup [.agg [v,z],tg tm 9,tg tm 10])):Get (result ⟨tm,g⟩ [.cell 8 true 2,.tmp 9,.tmp 10]) P:=by
 refine ⟨.tup [.agg [v,z],tg tm 9,tg tm 10],?_,hk⟩
 simp only [result,results,h1,hb,loadFrom,List.length_cons,List.length_nil]
 rfl
theorem BV.set0 {r:Nat} {G:List B} {L:List Int} {v:V} {b:B} (e:BV r G L v):BV r (bset G 0 b) L v:=by
 rcases e with h | h | ⟨t,t1,t2,t3,rfl,t5⟩
 ·exact .inl h
 ·exact .inr (.inl h)
 ·exact .inr (.inr ⟨t,t1,t2,t3,rfl,by rw [bset_other (by omega)];exact t5⟩)
theorem BV.new {r:Nat} {G:List B} {C:List V} {L:List Int} {n k a:Nat} (h1:1≤k) (h2:k≠r) (h3:2≤L.length) (hk:k=G.length) (hn:n=L.length) (ha:a=L.length) (hC:C=ofInts L):BV r (G++[.blk C true]) L (.ms 1 k n 0 a false):=by
 subst hk hn ha hC
 exact .inr (.inr ⟨_,h1,h2,h3,rfl,bget_new (i:=0)⟩)
theorem scalars_ints:∀ L:List Int,scalars (ofInts L)=true
 | []=>rfl
 | _ :: L=>scalars_ints L
def TM25 (c d:Bool) (l:List Fm) (W H:Nat) (ss:List Sp) (i q:Nat) (e1:Int) (f0:Fm) (fv:V):List V:=[.sl c l.length (fmC l),.sl d ss.length (spC ss),.int .i64 (i:Nat),.int .i64 (q:Nat),.dead,.dead,.dead,.dead,.ref 0 2 0,.nilsl,.int .i64 0,.int .i64 e1,.int .i64 0,fv,.int .i64 (ss.length:Nat),.dead,.dead,.nilsl,.int .i64 (bIx ss.length 0),.dead,.dead,.dead,.dead,.tup [.int .i64 e1,.int .i64 0],.sl c l.length (fmC l),.sl d ss.length (spC ss),.tup [.int .i64 e1,.int .i64 0],.int .i64 e1,.int .i64 0,.int .i64 0,.bool (decide ((0:Int)=0)),.bool (decide ((0:Int)=0)),.int .i64 (i:Nat),.sl c l.length (fmC l),.int .i64 (l.length:Nat),.int .i64 ((l.length:Int) - 1),.bool !false,.bool !!false,.bool !!false,.int .i64 (q:Nat),.sl c l.length (fmC l),.rp (fmC l) (Int.toNat 0 * 3),.rp (fmC l) (Int.toNat 0 * 3+2),.sl f0.c (W * H) (ofBytes f0.p),.int .i64 ((W * H:Nat):Int),.int .i64 (((W * H:Nat):Int) - 1),.bool !false,.bool !!false,.bool !!false,.bool !!false,.int .i64 0,.bool !decide ((0:Int)=0),.dead,.dead,.sl c l.length (fmC l),.sl true 1 [.sl c l.length (fmC l)],.int .i64 (ss.length:Nat),.sl d ss.length (spC ss),.int .i64 (ss.length:Nat),.bool (decide ((ss.length:Int)<ss.length)),.dead,.dead,.dead,.dead,.dead,.dead,.dead,.dead,.dead,.dead,.dead,.dead,.dead,.dead,.dead,.dead,.dead,.dead,.sl d ss.length (spC ss),.int .i64 (ss.length:Nat),.int .i64 (bIx ss.length 0),.dead,.dead,.dead,.dead,.dead,.dead,.dead,.dead,.dead,.dead,.dead,.dead,.dead,.dead,.dead,.dead,.dead,.dead,.dead,.dead,.dead,.dead,.dead,.dead,.dead,.dead,.dead,.dead,.dead,.dead,.dead,.dead,.dead,.dead,.dead,.dead,.dead,.dead,.dead,.dead,.dead,.dead,.dead,.dead,.dead,.dead,.dead,.dead,.dead,.dead,.dead,.dead,.dead,.dead,.dead,.dead,.dead,.dead,.dead,.dead,.dead,.dead,.dead,.dead,.dead,.dead,.dead,.dead,.dead,.dead,.dead,.dead,.dead,.dead,.dead,.dead,.dead,.dead,.dead,.dead,.dead,.dead,.dead,.dead,.dead,.dead,.dead,.dead,.dead,.dead,.dead,.dead,.dead,.dead,.dead,.dead,.dead]
def BO25:MC:=.seq (.seq (.reg false 0 [⟨some 81,none,0,.mv (.t 18)⟩,⟨some 82,none,1,.bo .geq (.t 81) (.c (.int .i64 0))⟩]) (.cond (.t 82) .skip (.exit 2))) (.seq (.block 3 (.seq (.reg true 2 [⟨some 85,none,0,.mv (.t 1)⟩,⟨some 86,none,0,.mv (.t 18)⟩,⟨some 87,none,3,.ia 8 (.t 85) (.t 86)⟩,⟨some 88,none,7,.ld true 8 (.t 87)⟩,⟨some 89,none,0,.mv (.t 0)⟩,⟨some 90,none,0,.mv (.t 2)⟩,⟨some 91,none,48,.ia 3 (.t 89) (.t 90)⟩,⟨some 92,none,112,.ld true 3 (.t 91)⟩,⟨some 19,none,0,.al 0 [.int .i64 0,.int .i64 0,.int .i64 0,.nilsl,.int .i64 0,.int .i64 0,.int .i64 0,.nilsl]⟩,⟨some 20,none,0,.al 1 [.int .i64 0,.int .i64 0,.nilsl]⟩,⟨none,none,783,.st 8 (.t 19) (.t 88)⟩,⟨none,none,2047,.st 3 (.t 20) (.t 92)⟩]) (.seq (.reg true 0 [⟨some 93,none,0,.mv (.t 3)⟩,⟨some 94,none,0,.fa 0 (.t 20)⟩,⟨some 95,none,2,.ld false 1 (.t 94)⟩,⟨some 96,none,7,.bo .rem (.t 93) (.t 95)⟩,⟨some 97,none,0,.mv (.t 3)⟩,⟨some 98,none,0,.fa 0 (.t 20)⟩,⟨some 99,none,32,.ld false 1 (.t 98)⟩,⟨some 100,none,112,.bo .quo (.t 97) (.t 99)⟩,⟨some 21,none,15,.mv (.t 96)⟩,⟨some 22,none,511,.mv (.t 100)⟩]) (.seq (.seq (.reg false 0 [⟨some 101,none,0,.ld true 8 (.t 19)⟩,⟨some 102,none,0,.mv (.t 2)⟩,⟨some 103,none,0,.mv (.t 21)⟩,⟨some 104,none,0,.mv (.t 22)⟩,⟨some 105,none,15,.call (.c (.fn 59 [])) [.t 101,.t 102,.t 103,.t 104]⟩]) (.cond (.t 105) (.exit 3) .skip)) (.seq (.seq (.reg false 0 [⟨some 106,none,0,.fa 0 (.t 19)⟩,⟨some 107,none,1,.ld false 1 (.t 106)⟩,⟨some 108,none,3,.bo .neq (.t 107) (.c (.int .i64 1))⟩]) (.cond (.t 108) (.seq (.seq (.reg true 0 [⟨some 109,none,0,.mv (.t 13)⟩,⟨some 110,none,0,.mv (.t 18)⟩,⟨some 111,none,3,.ia 1 (.t 109) (.t 110)⟩,⟨some 112,none,7,.ld false 1 (.t 111)⟩,⟨some 113,none,0,.mv (.t 2)⟩,⟨some 114,none,31,.ia 3 (.t 112) (.t 113)⟩,⟨some 115,none,63,.fa 2 (.t 114)⟩,⟨some 116,none,127,.ld false 1 (.t 115)⟩,⟨some 117,none,0,.mv (.t 3)⟩,⟨some 118,none,511,.ia 1 (.t 116) (.t 117)⟩,⟨some 119,none,1023,.ld false 1 (.t 118)⟩,⟨some 120,none,0,.mv (.t 13)⟩,⟨some 121,none,0,.mv (.t 18)⟩,⟨some 122,none,4096,.bo .add (.t 121) (.c (.int .i64 1))⟩,⟨some 123,none,14336,.ia 1 (.t 120) (.t 122)⟩,⟨some 124,none,30720,.ld false 1 (.t 123)⟩,⟨some 125,none,0,.mv (.t 2)⟩,⟨some 126,none,129024,.ia 3 (.t 124) (.t 125)⟩,⟨some 127,none,260096,.fa 2 (.t 126)⟩,⟨some 128,none,522240,.ld false 1 (.t 127)⟩,⟨some 129,none,0,.mv (.t 3)⟩,⟨some 130,none,2095104,.ia 1 (.t 128) (.t 129)⟩,⟨some 131,none,4192256,.ld false 1 (.t 130)⟩,⟨some 132,none,8388607,.bo .neq (.t 119) (.t 131)⟩]) (.cond (.t 132) (.reg false 1 [⟨some 133,none,0,.mv (.t 18)⟩,⟨some 134,none,1,.bs 1 [.int .i64 0] [(0,1,.t 133)]⟩,⟨some 135,none,0,.mv (.t 17)⟩,⟨some 136,none,7,.app 0 1 8 true (.t 134) (.t 135)⟩,⟨some 17,none,15,.mv (.t 136)⟩]) .skip)) (.exit 3)) .skip)) (.seq (.seq (.reg false 0 [⟨some 137,none,0,.fa 4 (.t 19)⟩,⟨some 138,none,1,.ld false 1 (.t 137)⟩,⟨some 139,none,3,.bo .eql (.t 138) (.c (.int .i64 0))⟩,⟨some 140,none,7,.mv (.t 139)⟩,⟨some 141,some (140,true),15,.fa 5 (.t 19)⟩,⟨some 142,some (140,true),31,.ld false 1 (.t 141)⟩,⟨some 143,some (140,true),63,.bo .eql (.t 142) (.c (.int .i64 0))⟩,⟨some 144,none,127,.pk (.t 140) (.t 143) (.c (.bool false))⟩]) (.cond (.t 144) (.exit 3) .skip)) (.seq (.reg false 1 [⟨some 145,none,0,.mv (.t 18)⟩,⟨some 146,none,1,.bs 1 [.int .i64 0] [(0,1,.t 145)]⟩,⟨some 147,none,0,.mv (.t 17)⟩,⟨some 148,none,7,.app 0 1 8 true (.t 146) (.t 147)⟩,⟨some 17,none,15,.mv (.t 148)⟩]) (.seq (.seq (.reg false 0 [⟨some 149,none,0,.ld true 3 (.t 20)⟩,⟨some 150,none,0,.mv (.t 21)⟩,⟨some 151,none,0,.fa 4 (.t 19)⟩,⟨some 152,none,4,.ld false 1 (.t 151)⟩,⟨some 153,none,14,.bo .sub (.t 150) (.t 152)⟩,⟨some 154,none,0,.mv (.t 22)⟩,⟨some 155,none,0,.fa 5 (.t 19)⟩,⟨some 156,none,64,.ld false 1 (.t 155)⟩,⟨some 157,none,224,.bo .sub (.t 154) (.t 156)⟩,⟨some 158,none,511,.call (.c (.fn 60 [])) [.t 149,.t 153,.t 157]⟩,⟨some 159,none,1023,.un .not (.t 158)⟩]) (.cond (.t 159) (.seq (.reg false 0 [⟨some 160,none,0,.bd [.int .i64 0,.int .i64 0] [(0,1,.c (.int .i64 (-1))),(1,1,.c (.int .i64 (-1)))]⟩,⟨some 161,none,0,.mv (.t 17)⟩,⟨none,none,1,.st 2 (.t 8) (.t 160)⟩,⟨some 9,none,7,.mv (.t 161)⟩,⟨some 10,none,15,.mv (.c (.int .i64 0))⟩]) .ret) .skip)) (.reg false 0 [⟨some 162,none,0,.mv (.t 22)⟩,⟨some 163,none,0,.fa 5 (.t 19)⟩,⟨some 164,none,2,.ld false 1 (.t 163)⟩,⟨some 165,none,7,.bo .sub (.t 162) (.t 164)⟩,⟨some 166,none,0,.fa 0 (.t 20)⟩,⟨some 167,none,16,.ld false 1 (.t 166)⟩,⟨some 168,none,63,.bo .mul (.t 165) (.t 167)⟩,⟨some 169,none,0,.mv (.t 21)⟩,⟨some 170,none,255,.bo .add (.t 168) (.t 169)⟩,⟨some 171,none,0,.fa 4 (.t 19)⟩,⟨some 172,none,512,.ld false 1 (.t 171)⟩,⟨some 173,none,2047,.bo .sub (.t 170) (.t 172)⟩,⟨some 3,none,4095,.mv (.t 173)⟩]))))))))) (.reg false 0 [⟨some 83,none,0,.mv (.t 18)⟩,⟨some 84,none,1,.bo .sub (.t 83) (.c (.int .i64 1))⟩,⟨some 18,none,3,.mv (.t 84)⟩]))
def PR (c:Bool) (l:List Fm) (W H:Nat) (ss:List Sp) (i q r n0:Nat) (fv:V) (a:RT2):Prop:=a.k≤ss.length∧(∀ j,j<a.k→trOk W H l ss i q j)∧RH (ss.length+1) (fsC c W H l ss (ss.length+1)) fv a.G∧BV r a.G (tr W H l ss i q a.k).b.reverse a.v∧n0≤a.G.length
def uR (l:List Fm) (W H:Nat) (ss:List Sp) (i q:Nat) (a:RT2):List (Nat × V):=[(3,.int .i64 ((tr W H l ss i q a.k).q:Nat)),(17,a.v),(18,.int .i64 (bIx ss.length a.k))]
def QR (T:List V) (c:Bool) (l:List Fm) (W H:Nat) (ss:List Sp) (i q r n0:Nat) (fv:V) (Q:X→St→Prop) (a0:RT2):X→St→Prop:=fun x s=>match x with
 | .nrm=>NextP (PR c l W H ss i q r n0 fv) (fun a=>(⟨upds T (uR l W H ss i q a),a.G⟩:St)) (fun a=>ss.length - a.k) a0 (norm (maskOf T) n0 s)
 | x=>Q x s
end Go.Dr.T
