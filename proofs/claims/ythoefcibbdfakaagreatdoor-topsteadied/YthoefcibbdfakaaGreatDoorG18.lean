/- Top, of chapter 08: Voted as a known function, whose list lies in a block of its own; the table with it. -/
import Derived.Test.YthoefcibbdfakaaGreatDoorR18Vc
import Derived.Test.YthoefcibbdfakaaGreatDoorDrF
import Derived.Test.YthoefcibbdfakaaGreatDoorR18Gj
import Derived.Test.YthoefcibbdfakaaGreatDoorG15
import Derived.Test.YthoefcibbdfakaaGreatDoorG16
import Derived.Test.YthoefcibbdfakaaGreatDoorG0
namespace Go.Dr.T
def vtOf:List V→Option (List Vt)
 | []=>some []
 | .str w :: .int .i64 s :: .bool b :: r=>(vtOf r).map (⟨w,s,b⟩ :: ·)
 | _=>none
theorem Qnv:∀ l,vtOf (vtC l)=some l
 | []=>rfl
 | v :: l=>by simp only [vtC,vtOf,Qnv l];rfl
theorem Qh8:∀ {cs:List V} {l:List Vt},vtOf cs=some l→cs=vtC l
 | [],l,h=>by cases h;rfl
 | [_],l,h=>by cases ‹V› <;> simp [vtOf] at h
 | [_,_],l,h=>by
  unfold vtOf at h
  split at h
  ·rename_i e;cases e
  ·rename_i e;cases e
  ·cases h
 | a :: b :: c :: r,l,h=>by
  unfold vtOf at h
  split at h
  ·rename_i e;cases e
  ·rename_i w s b r' e
   cases e
   obtain ⟨l', h1,rfl⟩:=map_some h
   rw [Qh8 h1]
   rfl
  ·cases h
def voV (A:List Int) (e:Int):V:=.tup [if A=[] then .sl true 0 [] else .ms 1 0 A.length 0 A.length false,.int .i64 e]
def voH (A:List Int):List B:=if A=[] then [] else [.blk (Q06 A) true]
def votG (_:Nat) (as:List V) (h:List B):Option (V × List B) :=
 match h with
 | []=>match as with
  | [.int .i64 n,.sl _ m cs,.int .i64 need]=>match vtOf cs with
   | some l=>if l.length=m then some (voV (votA n l need) (votE n l need),voH (votA n l need)) else none
   | none=>none
  | _=>none
 | _=>none
theorem Qp6 {ro:Nat} {n need:Int} {c:Bool} {l:List Vt}:votG ro [.int .i64 n,.sl c l.length (vtC l),.int .i64 need] []=some (voV (votA n l need) (votE n l need),voH (votA n l need)):=by
 simp only [votG,Qnv,if_true]
theorem Qhb {ro:Nat} {as:List V} {h h' : List B} {v:V} (e:votG ro as h=some (v,h')):h=[]∧∃ n need c l,as=[.int .i64 n,.sl c l.length (vtC l),.int .i64 need]∧v=voV (votA n l need) (votE n l need)∧h' = voH (votA n l need):=by
 unfold votG at e
 split at e
 ·split at e
  ·rename_i n c m cs need
   split at e
   ·rename_i l hl
    split at e
    ·rename_i hm
     simp only [Option.some.injEq,Prod.mk.injEq] at e
     exact ⟨rfl,n,need,c,l,by rw [Qh8 hl,hm],e.1.symm,e.2.symm⟩
    ·cases e
   ·cases e
  ·cases e
 ·cases e
theorem Ql7 {k k2:K}:∀ {l:List Int} {xs:List Value},RL k (Q06 l) xs→RL k2 (Q06 l) xs
 | [],xs,h=>by simp only [Q06,List.map_nil,RL] at h ⊢; exact h
 | a :: l,xs,h=>by
  simp only [Q06,List.map_cons,RL] at h ⊢
  obtain ⟨x,r,rfl,h1,h2⟩:=h
  refine ⟨x,r,rfl,?_,?_⟩
  ·simp only [R] at h1 ⊢; exact h1
  ·have:=Ql7 (k:=k) (k2:=k2) (l:=l) (xs:=r) (by simpa only [Q06] using h2)
   simpa only [Q06] using this
theorem Qm6 (l:List Int) (n:Nat):(Q06 l).drop n=Q06 (l.drop n):=by simp [Q06,List.map_drop]
theorem kn_vot {P:Program} [GT P] (hF:Q1d P FB) {fn:Func} (hf:P.funcs[20]?=some fn) (hfc:Qbp P fn=some c20):KnOk P 20 3 votG:=by
 intro ro k as xs v h' gk ha hlen hgk Q hQ
 obtain ⟨hh,n,need,c,l,rfl,rfl,rfl⟩:=Qhb hgk
 have hw:=Qfq (c:=c) (n:=n) (need:=need) (l:=l) c20 rfl
 generalize votA n l need=A at *
 generalize votE n l need=e at *
 have hl0:k.h.length=0:=by rw [hh];rfl
 refine Qn9 (ro:=0) hF hf hfc gk ha hlen (Q:=VEnds c20.res A e) (by rw [hh];exact hw) ?_
 rintro x s ⟨h1,h2⟩
 rcases h2 with ⟨hA,h2⟩ | ⟨hA,id,h2,h3⟩
 ·refine ⟨h1,_,h2,fun y k1 hk1 g1 e1 hy => ?_⟩
  have hv:V.view k1.h depth (.tup [.nilsl,.int .i64 e])=some (.tup [.sl true 0 [],.int .i64 e]):=rfl
  obtain ⟨q1,q2,q3⟩:=Qkz gk hh g1 e1 hv hy
  have:=hQ y { k with w:=k1.w } (by rw [voH,if_pos hA];exact hh) q1 (q2 ro) (by rw [voV,if_pos hA];exact q3)
  exact this
 ·refine ⟨h1,_,h2,fun y k1 hk1 g1 e1 hy => ?_⟩
  have hb:bget k1.h id=some (.blk (Q06 A) true):=by rw [hk1];exact h3
  obtain ⟨b1,b2,b3,b4,ys,rest,T,b5,b6⟩:=g1.blk id _ _ hb
  let k2:K:={ n0:=k1.n0,A:=k1.A,h:=[.blk (Q06 A) true],β:=fun _=>k1.β id,w:=k1.w }
  have hg0:∀ i b,bget k2.h i=some b→i=0∧b = .blk (Q06 A) true:=fun i b h=>by
   cases i with
   | zero=>exact ⟨rfl,(Option.some.inj h).symm⟩
   | succ i=>cases h
  have hlv:∀ i,live k2.h i→i=0:=fun i ⟨b,hb,_⟩=>(hg0 i b hb).1
  have g2:Good P k2:=by
   refine ⟨g1.size,fun i c dat h => ?_,fun i r p tm ps a b h => ?_,fun i j hi hj _ => ?_,fun i b h ho => ?_,g1.tab⟩
   ·obtain ⟨_,e⟩:=hg0 i _ h
    cases e
    refine ⟨b1,b2,b3,b4,ys,rest,T,b5,?_⟩
    rw [Qm6] at b6 ⊢
    exact Ql7 b6
   ·cases (hg0 i _ h).2
   ·rw [hlv i hi,hlv j hj]
   ·obtain ⟨_,e⟩:=hg0 i _ h
    subst e
    cases ho
  have hok:∀ b,k1.ok b→k2.ok b:=fun b hb0=>by
   rcases hb0 with h | ⟨h,hn⟩
   ·exact .inl h
   ·refine .inr ⟨h,fun ⟨i,hi,he⟩=>hn ⟨id,live_blk hb,he⟩⟩
  have e2:Ev ro k.h.length k k2:=by
   refine ⟨e1.n0,e1.A,e1.low,fun b hb0 hlt => ?_,fun i hi => ?_,fun i hi => ?_,fun i _ hi => ?_,fun i _ hi => ?_,fun i hi => ?_⟩
   ·have:=e1.prot b hb0 hlt
    exact ⟨hok b this.1,this.2⟩
   all_goals (rw [hl0] at hi;exact absurd hi (Nat.not_lt_zero i))
  have hr:R k2 (voV A e) y:=by
   rw [voV,if_neg hA]
   simp only [R,RL] at hy ⊢
   obtain ⟨vs,rfl,x1,r1,rfl,hm,x2,r2,rfl,hx2,hx3⟩:=hy
   refine ⟨_,rfl,x1,_,rfl,?_,x2,r2,rfl,hx2,hx3⟩
   obtain ⟨b,o', cap,c,dat,rfl,c1,c2,c3,c4,c5⟩:=hm
   rw [hb] at c1
   cases c1
   exact ⟨b,o', cap,Q06 A,true,rfl,rfl,c2,c3,c4,c5⟩
  have:=hQ y k2 (by rw [voH,if_neg hA]) g2 e2 hr
  exact this
def FB1:Nat→Option Fc
 | 20=>some (knFc 3 20 votG)
 | n=>FB n
theorem sub1:Sub' FB FB1:=by
 intro f fc h
 unfold FB1
 split
 ·cases h
 ·exact h
def liV (A:List Int):V:=.sl (decide (A=[])) A.length (Q06 A)
theorem Qle (A:List Int) (e:Int):VwF (voH A) depth (voV A e) (.tup [liV A,.int .i64 e]):=by
 unfold voH voV liV
 cases A with
 | nil =>
  rw [if_pos rfl,if_pos rfl]
  exact VwF.tup (d:=63) (VwLF.cons ⟨rfl,rfl⟩ (VwLF.cons (VwF.int rfl) VwLF.nil))
 | cons x l =>
  rw [if_neg (by simp),if_neg (by simp)]
  have hl:(Q06 (x :: l)).length=(x :: l).length:=by simp [Q06]
  have hi:∀ {d:Nat} (L:List Int),VwLF [B.blk (Q06 (x :: l)) true] (d+1) (Q06 L) (Q06 L):=fun {d} L=>by
   induction L with
   | nil=>exact VwLF.nil
   | cons y L ih=>exact VwLF.cons (VwF.int rfl) ih
  have hv:VwF [B.blk (Q06 (x :: l)) true] 63 (.ms 1 0 (x :: l).length 0 (x :: l).length false) (.sl false (x :: l).length (Q06 (x :: l))):=VwF.ms (d:=62) rfl hl (Q13 (by rw [hl,Nat.mul_one])) (hi _)
  exact VwF.tup (d:=63) (VwLF.cons hv (VwLF.cons (VwF.int rfl) VwLF.nil))
theorem Qfr {c:Bool} {n need:Int} {l:List Vt}:FunF FB1 md 20 [.int .i64 n,.sl c l.length (vtC l),.int .i64 need] (.tup [liV (votA n l need),.int .i64 (votE n l need)]):=by
 have hv:=Qle (votA n l need) (votE n l need)
 refine ⟨knFc 3 20 votG,rfl,rfl,1,.ret,⟨[voV (votA n l need) (votE n l need)],voH (votA n l need)⟩,voV (votA n l need) (votE n l need),fun m hm => ?_,.inr rfl,rfl,hv.1,hv.2⟩
 cases m with
 | zero=>omega
 | succ m =>
  show run FB1 md (m+1) 0 (.kn 3 20) _=_
  have hF:FB1 20=some (knFc 3 20 votG):=rfl
  simp only [run,hF]
  show (match some votG with
   | none=>none
   | some g=>match g 0 (([V.int .i64 n,.sl c l.length (vtC l),.int .i64 need]++Q14 ((knFc 3 20 votG).ntm - (knFc 3 20 votG).np)).take 3) [] with
    | none=>none
    | some (v,h)=>some (X.ret,(⟨[v],h⟩:St)))=_
  have e:([V.int .i64 n,.sl c l.length (vtC l),.int .i64 need]++Q14 ((knFc 3 20 votG).ntm - (knFc 3 20 votG).np)).take 3=[.int .i64 n,.sl c l.length (vtC l),.int .i64 need]:=rfl
  rw [e]
  simp only [Qp6]
theorem FunF.fun {F:Nat→Option Fc} {md:Nat→Nat} {f:Nat} {as:List V} {v:V} (h:FunF F md f as v):Fun F md f as v:=by
 obtain ⟨fc,h1,h2,n,x,st,v0,h3,h4,h5,h6,_⟩:=h
 exact ⟨fc,h1,h2,n,x,st,v0,h3,h4,h5,h6⟩
end Go.Dr.T
namespace Go.Dr.T
def kwn (l:List V) (v:V) (as:List V):Option V:=match veqs as l with
 | true=>some v
 | false=>none
theorem kwn_eq {l:List V} {v w:V} {as:List V} (h:kwn l v as=some w):as=l∧w=v:=by
 unfold kwn at h
 split at h <;> cases h
 rename_i e
 exact ⟨Q59 e,rfl⟩
def filC:List V:=[.int .i64 3,.int .i64 2,.sl true 6 (ofBytes [10,20,30,40,50,60]),.int .i64 3,.int .i64 2,.sl true 6 (ofBytes [10,20,30,40,90,60])]
def filV:V:=.sl true 2 filC
def stL:List V:=[.int .i64 6,.int .i64 0,.int .i64 0,.sl true 1 (Q06 [0,0,1,0]),.int .i64 200,.int .i64 0,.int .i64 0,.sl true 0 []]
def chC:List (Int × Int × Int × Int)→List V
 | []=>[]
 | (a,b,c,d) :: l=>.int .i64 a :: .int .i64 b :: .int .u8 c :: .int .u8 d :: chC l
def liC:List V:=chC [(0,2,30,230),(0,3,40,240),(0,4,50,250),(0,5,60,255)]
def stsC:List V:=[.int .i64 1,.int .i64 0,.int .i64 1,.nilsl,.int .i64 1,.int .i64 0,.int .i64 7,.nilsl,.int .i64 6,.int .i64 1,.int .i64 1,.nilsl,.int .i64 5,.int .i64 0,.int .i64 0,.nilsl]
def vts:List Vt:=[⟨[97,110,110],0,true⟩,⟨[98,111,98],0,true⟩,⟨[97,110,110],1,true⟩,⟨[99,108,101,111],1,true⟩,⟨[98,111,98],1,false⟩,⟨[98,111,98],1,true⟩]
def S0 (_:Nat):Option (List V→Option V):=none
theorem Qes:Qdl FB1 md S0:=by
 intro fn g hg
 cases hg
def txt:List UInt8:=[76,79,71,32,49,10,83,84,69,80,32,52,10,48,32,50,32,51,48,32,50,51,48,10,48,32,51,32,52,48,32,50,52,48,10,48,32,52,32,53,48,32,50,53,48,10,48,32,53,32,54,48,32,50,53,53,10,69,78,68,32,54,10]
def filR:V:=.sl false 2 [.int .i64 3,.int .i64 2,.sl false 6 (ofBytes [10,20,230,240,250,255]),.int .i64 3,.int .i64 2,.sl false 6 (ofBytes [10,20,30,40,90,60])]
theorem do_doc:Fun FB1 md 17 [filV,.agg stL] (.tup [filR,.sl false 4 liC,.int .i64 0]):=Q8j Qes (n:=300) (by decide +kernel)
theorem Qhk:Fun FB1 md 11 [filV,.sl true 2 stsC,.int .i64 0,.int .i64 5] (.tup [.agg [.int .i64 0,.int .i64 4],.sl false 1 (Q06 [0]),.int .i64 0]):=Q8j Qes (n:=300) (by decide +kernel)
theorem Qlf:Fun FB1 md 13 [filV,.sl true 2 [.nilsl,.sl true 4 liC]] (.tup [.sl true 0 [],.int .i64 1,.int .i64 181]):=Q8j Qes (n:=300) (by decide +kernel)
theorem Qgz:Fun FB1 md 22 [.sl true 1 [.sl true 4 liC]] (.tup [.str txt,.int .i64 0]):=Q8j Qes (n:=300) (by decide +kernel)
theorem Qha:votA 2 (vts.take 5) 2=[0]∧votE 2 (vts.take 5) 2=0:=⟨by decide +kernel,by decide +kernel⟩
theorem Qh9:Fun FB1 md 20 [.int .i64 2,.sl false 5 (vtC (vts.take 5)),.int .i64 2] (.tup [.sl false 1 (Q06 [0]),.int .i64 0]):=by
 have:=FunF.fun (Qfr (c:=false) (n:=2) (need:=2) (l:=vts.take 5))
 rw [Qha.1,Qha.2] at this
 exact this
def S1 (n:Nat):Option (List V→Option V) :=
 match n with
 | 17=>some (kwn [filV,.agg stL] (.tup [filR,.sl false 4 liC,.int .i64 0]))
 | 11=>some (kwn [filV,.sl true 2 stsC,.int .i64 0,.int .i64 5] (.tup [.agg [.int .i64 0,.int .i64 4],.sl false 1 (Q06 [0]),.int .i64 0]))
 | 20=>some (kwn [.int .i64 2,.sl false 5 (vtC (vts.take 5)),.int .i64 2] (.tup [.sl false 1 (Q06 [0]),.int .i64 0]))
 | 13=>some (kwn [filV,.sl true 2 [.nilsl,.sl true 4 liC]] (.tup [.sl true 0 [],.int .i64 1,.int .i64 181]))
 | 22=>some (kwn [.sl true 1 [.sl true 4 liC]] (.tup [.str txt,.int .i64 0]))
 | _=>none
theorem known1:Qdl FB1 md S1:=by
 intro fn g hg as v h
 unfold S1 at hg
 split at hg
 all_goals (try (cases hg;done))
 all_goals
  cases hg
  obtain ⟨rfl,rfl⟩:=kwn_eq h
 ·exact do_doc
 ·exact Qhk
 ·exact Qh9
 ·exact Qlf
 ·exact Qgz
theorem Qgq:Fun FB1 md 5 [] (.bool true):=Q8j known1 (n:=300) (by decide +kernel)
end Go.Dr.T
namespace Go.Dr.T
theorem tabF {f:Nat} {l:List V} {v:V} (h:Fun FB md f l v):Fun FB1 md f l v:=h.tab sub1
theorem Qmd {NU:Nat→UInt8} {p:List UInt8} {m:Nat} (h:m<p.length):(mixP NU p p.length).getD m 0=NU m:=by
 unfold mixP
 rw [List.drop_length,List.append_nil,List.getD_eq_getElem?_getD,List.getElem?_map,List.getElem?_range h]
 rfl
end Go.Dr.T
namespace Go.Dr.T
section
variable {c:Bool} {W H:Nat} {l:List Fm} {ss:List Sp}
theorem Qqk {k:Nat} (o:FOk l W H):FOk (fK W H l ss k) W H:=Q6o (Q52 o)
theorem Qez {k:Nat}:(fK W H l ss k).length=l.length:=by unfold fK;rw [Q2m,Q0u]
theorem Qql {k:Nat} {s:Sp} (h:ss[k]?=some s):fK W H l ss (k+1)=doF (fK W H l ss k) W H s:=Qef h
end
end Go.Dr.T
namespace Go.Dr.T
section
variable {W H:Nat} {l:List Fm} {ss sm:List Sp} {i q:Nat}
theorem Qg6 {F:List Fm} {s:Sp} {f:Fm} {x:Nat} (o:FOk F W H) (hf:F[i]?=some f) (h1:s.k=1) (hk:Q37 s i (x % W:Nat) (x / W:Nat)=false) (hx:x<W * H) (hin:tO F.length W H s i x=true):newU F W H s i x=f.p.getD (tQ W s x) 0:=by
 obtain ⟨q1,q2⟩:=Qpk (W:=W) (H:=H) o.w.1 hin
 unfold tO at hin
 unfold newU newP newK
 rw [if_neg (by rw [hk];decide),if_pos h1,orI,if_pos hin,oldN,if_pos hin]
 have e:(((x / W:Nat):Int) - s.b).toNat * W+(((x % W:Nat):Int) - s.a).toNat=tQ W s x:=by
  have e1:(((x / W * W+x % W:Nat):Nat):Int)=(x:Int):=by rw [Nat.div_add_mod']
  rw [Int.natCast_add,Int.natCast_mul] at e1
  unfold oldB outB at hin
  simp only [Bool.not_eq_true', Bool.or_eq_false_iff,decide_eq_false_iff_not,Int.not_lt] at hin
  obtain ⟨⟨_,g1,_⟩,g3,_⟩:=hin
  have g5:((((x / W:Nat):Int) - s.b).toNat:Int)=((x / W:Nat):Int) - s.b:=by omega
  have g6:((((x % W:Nat):Int) - s.a).toNat:Int)=((x % W:Nat):Int) - s.a:=by omega
  have:(((((x / W:Nat):Int) - s.b).toNat * W+(((x % W:Nat):Int) - s.a).toNat:Nat):Int)=((tQ W s x:Nat):Int):=by
   rw [Int.natCast_add,Int.natCast_mul,g5,g6,q2, ← e1,Int.sub_mul]
   omega
  exact Int.ofNat.inj this
 rw [show ((i:Nat):Int).toNat=i by omega,e,Q6i Qce,Q9g hf]
 simp
end
end Go.Dr.T
namespace Go.Dr.T
structure ShS (ss:List Sp):Prop where
 k:∀ (j:Nat) (s:Sp),ss[j]?=some s→s.k=1
 fr:∀ (j:Nat) (s:Sp),ss[j]?=some s→s.fr=((j+1:Nat):Int)
 un:∀ (j:Nat) (s:Sp),ss[j]?=some s→s.un=((j+1:Nat):Int)
 kp:∀ (j:Nat) (s:Sp),ss[j]?=some s→s.kp=[]
section
variable {W H:Nat} {l:List Fm} {ss:List Sp}
theorem ShS.keep {j i:Nat} {s:Sp} (e:ShS ss) (hs:ss[j]?=some s) (x y:Int):Q37 s (i:Int) x y = !decide (i=j+1):=by
 unfold Q37
 rw [e.kp j s hs,e.fr j s hs,e.un j s hs]
 simp only [List.any_nil,Bool.or_false,outB]
 by_cases h:i=j+1
 ·subst h
  simp
 ·rw [decide_eq_false h]
  rcases Nat.lt_or_gt_of_ne h with h | h
  ·rw [decide_eq_true (by omega)];rfl
  ·rw [decide_eq_true (show ((j+1:Nat):Int)<(i:Int) by omega),Bool.or_true];rfl
theorem Qg7 {F G:List Fm} {s:Sp} {i:Nat} (h1:s.k=1) (hl:F.length=G.length) (hp:pxL F i=pxL G i):newU F W H s i=newU G W H s i:=by
 funext x
 have hpi:∀ n,pixI F i n=pixI G i n:=fun n=>by
  unfold pxL at hp
  unfold pixI
  cases hF:F[i]? with
  | none =>
   have:G[i]?=none:=by rw [List.getElem?_eq_none_iff] at hF ⊢; omega
   rw [this]
  | some f =>
   have hi:=(List.getElem?_eq_some_iff.1 hF).1
   obtain ⟨g,hG⟩:∃ g,G[i]?=some g:=⟨_,List.getElem?_eq_getElem (by omega)⟩
   rw [hF,hG] at hp
   rw [hG]
   dsimp only at hp ⊢
   rw [hp]
 unfold newU newP newK
 rw [if_pos h1,if_pos h1,hl]
 unfold oldN
 rw [hl,hpi,show ((i:Nat):Int).toNat=i by omega,hpi]
theorem pxL_z {i:Nat}:pxL (fK W H l ss 0) i=pxL l i:=by
 unfold pxL
 rw [show fK W H l ss 0=czF l from rfl]
 cases h:l[i]? with
 | none=>rw [show (czF l)[i]?=none by rw [List.getElem?_eq_none_iff] at h ⊢; rw [Q0u];exact h]
 | some f=>rw [Q9z h]
theorem Q9t (o:FOk l W H) (e:ShS ss) {i:Nat} (hi:i<l.length):∀ {k:Nat},k≤ss.length→pxL (fK W H l ss k) i=(if 1≤i∧i≤k then (match ss[i - 1]? with | some s=>(List.range (W * H)).map (newU l W H s i) | none=>[]) else pxL l i)
 | 0,_=>by rw [if_neg (by omega),pxL_z]
 | k+1,hk=>by
  have ih:=Q9t o e hi (k:=k) (by omega)
  obtain ⟨s,hs⟩:∃ s,ss[k]?=some s:=⟨_,List.getElem?_eq_getElem (by omega)⟩
  have hFo:=Qqk (ss:=ss) (k:=k) o
  obtain ⟨f,hf,_,_,hfp⟩:=hFo.at (i:=i) (by rw [Qez];exact hi)
  rw [Qql hs,Q26 (Q9y hf)]
  dsimp only
  by_cases h:i=k+1
  ·subst h
   rw [if_pos ⟨by omega,Nat.le_refl _⟩,Nat.add_sub_cancel,hs]
   dsimp only
   rw [if_neg (by omega)] at ih
   rw [Qg7 (e.k k s hs) (Qez (W:=W) (H:=H) (l:=l) (ss:=ss) (k:=k)) ih]
   unfold mixP
   rw [List.drop_length,List.append_nil,hfp]
  ·have hm:mixP (newU (fK W H l ss k) W H s i) f.p f.p.length=f.p:=by
    refine List.ext_getElem? fun n => ?_
    by_cases hn:n<f.p.length
    ·have h1:=Qmd (NU:=newU (fK W H l ss k) W H s i) hn
     rw [Q6y hf (by rw [e.keep hs,decide_eq_false h];rfl)] at h1
     have hl:=Q3u (NU:=newU (fK W H l ss k) W H s i) (p:=f.p) (Nat.le_refl _)
     rw [List.getD_eq_getElem?_getD,List.getD_eq_getElem?_getD] at h1
     rw [List.getElem?_eq_getElem (by omega),List.getElem?_eq_getElem hn] at h1 ⊢
     simpa using h1
    ·rw [List.getElem?_eq_none (by rw [Q3u (Nat.le_refl _)];omega),List.getElem?_eq_none (by omega)]
   rw [hm, ← Q26 hf,ih]
   by_cases h2:1≤i∧i≤k
   ·rw [if_pos h2,if_pos ⟨h2.1,by omega⟩]
   ·rw [if_neg h2,if_neg fun h3=>h2 ⟨h3.1,by omega⟩]
theorem tr_shift (e:ShS ss) {j q:Nat} {s:Sp} (hs:ss[j]?=some s):∀ {k:Nat},k≤ss.length→tr W H l ss (j+1) q k=if ss.length≤j+k∧¬ (s.a=0∧s.b=0) then ⟨tQ W s q,[(j:Int)]⟩ else ⟨q,[]⟩
 | 0,_=>by
  have hj:=(List.getElem?_eq_some_iff.1 hs).1
  rw [if_neg (by omega)]
  rfl
 | k+1,hk=>by
  have ih:=tr_shift e hs (q:=q) (k:=k) (by omega)
  obtain ⟨t,ht⟩:∃ t,ss[ss.length - (k+1)]?=some t:=⟨_,List.getElem?_eq_getElem (by omega)⟩
  have hy:∀ F x,tY F W H t (j+1) x=(decide (ss.length - (k+1)=j) && !(decide (t.a=0) && decide (t.b=0))):=fun F x=>by
   unfold tY
   rw [if_pos (e.k _ t ht),e.keep ht,Bool.not_not]
   congr 1
   exact decide_eq_decide.2 (by omega)
  rw [Qlk ht,hy]
  have hj:=(List.getElem?_eq_some_iff.1 hs).1
  by_cases h:ss.length - (k+1)=j
  ·rw [h] at ht
   rw [hs] at ht
   cases ht
   have ih2:tr W H l ss (j+1) q k=⟨q,[]⟩:=by rw [ih,if_neg fun h3=>by omega]
   rw [decide_eq_true h,Bool.true_and,ih2]
   by_cases hz:s.a=0∧s.b=0
   ·rw [decide_eq_true hz.1,decide_eq_true hz.2,if_neg (by decide),if_neg fun h2=>h2.2 hz]
   ·have hd:(decide (s.a=0) && decide (s.b=0))=false:=by simpa using hz
    rw [hd,if_pos (by decide),if_pos (e.k j s hs),if_pos ⟨by omega,hz⟩,h]
    rfl
  ·rw [decide_eq_false h,Bool.false_and,if_neg (by decide),ih]
   by_cases h2:ss.length≤j+k∧¬ (s.a=0∧s.b=0)
   ·rw [if_pos h2,if_pos ⟨by omega,h2.2⟩]
   ·rw [if_neg h2,if_neg fun h3=>h2 ⟨by omega,h3.2⟩]
theorem Qhm (e:ShS ss) {j q:Nat} {s:Sp} (hs:ss[j]?=some s):trR W H l ss (j+1) q=if s.a=0∧s.b=0 then ⟨((j+1:Nat):Int),(q:Int),[],0⟩ else if tO l.length W H s (j+1) q=true then ⟨((j+1:Nat):Int),((tQ W s q:Nat):Int),[(j:Int)],0⟩ else ⟨-1, -1,[(j:Int)],0⟩:=by
 have hj:=(List.getElem?_eq_some_iff.1 hs).1
 have hok:∀ k,k<ss.length→ss.length - (k+1)≠j→trOk W H l ss (j+1) q k:=fun k hk hne t ht _ hy=>by
  unfold tY at hy
  rw [if_pos (e.k _ t ht),e.keep ht,decide_eq_false (by omega)] at hy
  simp at hy
 have hkj:ss.length - (ss.length - (j+1)+1)=j:=by omega
 have hq:(tr W H l ss (j+1) q (ss.length - (j+1))).q=q:=by
  rw [tr_shift e hs (by omega),if_neg (by omega)]
 have hend:=tr_shift (W:=W) (H:=H) (l:=l) e hs (q:=q) (Nat.le_refl _)
 by_cases hz:s.a=0∧s.b=0
 ·rw [if_pos hz,Qhn fun k hk => ?_]
  ·rw [hend,if_neg fun h=>h.2 hz]
   rfl
  ·by_cases hk2:ss.length - (k+1)=j
   ·intro t ht _ hy
    rw [hk2,hs] at ht
    cases ht
    unfold tY at hy
    rw [if_pos (e.k j s hs),decide_eq_true hz.1,decide_eq_true hz.2] at hy
    simp at hy
   ·exact hok k hk hk2
 ·rw [if_neg hz]
  cases hin:tO l.length W H s (j+1) q with
  | true =>
   rw [if_pos rfl,Qhn fun k hk => ?_]
   ·rw [hend,if_pos ⟨by omega,hz⟩]
    rfl
   ·by_cases hk2:ss.length - (k+1)=j
    ·intro t ht _ _
     rw [hk2,hs] at ht
     cases ht
     have:k=ss.length - (j+1):=by omega
     rw [this,hq]
     exact hin
    ·exact hok k hk hk2
  | false =>
   rw [if_neg (by decide),Qnx (k:=ss.length - (j+1)) (by omega) (fun k hk=>hok k (by omega) (by omega)) fun h => ?_]
   ·rw [tr_shift e hs (by omega),if_neg (by omega),hkj]
    rfl
   ·have h2:=h s (by rw [hkj];exact hs) (e.k j s hs)
    rw [hq] at h2
    have hy:tY (fK W H l ss (ss.length - (ss.length - (j+1)+1))) W H s (j+1) q=true:=by
     have hd:(decide (s.a=0) && decide (s.b=0))=false:=by simpa using hz
     unfold tY
     rw [if_pos (e.k j s hs),e.keep hs,decide_eq_true rfl,hd]
     rfl
    have:=h2 hy
    rw [hin] at this
    cases this
end
end Go.Dr.T
namespace Go.Dr.T7
abbrev F:=T.FB
abbrev md:=T.md
theorem Q6t (n lo hi:Int):Fun F md 27 [.int .i64 n,.int .i64 lo,.int .i64 hi] (.bool (decide (n<lo) || decide (hi<n))):=by
 refine Q07 rfl rfl ?_
 repeat' (first
 | (conv=>whnf)
   first
   | (refine Br.decT ?_ ?_;(focus first | assumption | omega))
   | (refine Br.decF ?_ ?_;(focus first | assumption | omega))
   | refine Br.dec (fun _ => ?_) (fun _ => ?_)
   | refine Get.mk _ rfl ?_
   | refine Leaves.of ?_
   | refine Vw.bool ?_)
 all_goals (simp_all <;> omega)
theorem Qjf (n lo hi:Int):Fun F md 15 [.int .i64 n,.int .i64 lo,.int .i64 hi] (.bool (decide (lo≤n) && decide (n≤hi))):=by
 refine Q07 rfl rfl ?_
 repeat' (first
 | (conv=>whnf)
   first
   | (refine Br.decT ?_ ?_;(focus first | assumption | omega))
   | (refine Br.decF ?_ ?_;(focus first | assumption | omega))
   | refine Br.dec (fun _ => ?_) (fun _ => ?_)
   | refine Get.mk _ rfl ?_
   | refine Leaves.of ?_
   | refine Vw.bool ?_)
 all_goals (simp_all <;> omega)
theorem Qqg (w h x y:Int) (c:Bool) (n:Nat) (px:List V) (hw:0≤w∧w≤1000000) (hh:0≤h∧h≤1000000) :
  Fun F md 30 [.agg [.int .i64 w,.int .i64 h,.sl c n px],.int .i64 x,.int .i64 y] (.bool (!(decide (x<0) || decide (w - 1<x)) && !(decide (y<0) || decide (h - 1<y)))):=by
 refine Q07 rfl rfl ?_
 repeat' (first
 | (conv=>whnf)
   first
   | (refine Br.decT ?_ ?_;(focus first | assumption | omega))
   | (refine Br.decF ?_ ?_;(focus first | assumption | omega))
   | refine Br.dec (fun _ => ?_) (fun _ => ?_)
   | refine Br.not ?_
   | refine Br.or ?_
   | (refine Bnd.i64 ?_ ?_ ?_;(focus omega);(focus omega))
   | refine Q00 rfl rfl (Q6t _ _ _) (.inl rfl) ?_
   | refine Get.mk _ rfl ?_
   | refine Leaves.of ?_
   | refine Vw.bool ?_
   | (refine Req.mk ?_ ?_;(focus first | rfl | decide | exact ⟨rfl,rfl⟩ | exact ⟨rfl,by decide⟩ | exact (fun _=>rfl) | exact (fun h=>nomatch h) | (simp;done) | omega | (simp [big];done) | exact Q02 (by omega) | exact Q01 (by omega))))
 all_goals (simp_all <;> omega)
theorem Q65 (n:Int) (hn : -1000000000000≤n∧n≤1000000000000):Fun F md 34 [.int .i64 n] (.int .i64 (max n (-n))):=by
 refine Q07 rfl rfl ?_
 repeat' (first
 | (conv=>whnf)
   first
   | (refine Bnd.i64 ?_ ?_ ?_;(focus omega);(focus omega))
   | refine Bnd.any ?_
   | refine Get.mk _ rfl ?_
   | refine Leaves.of ?_
   | refine Vw.int ?_)
 all_goals (simp_all <;> omega)
theorem at_any (w h x y:Int) (c:Bool) (n:Nat) (px:List V) (i:Nat) (b:Int) (hi:y * w+x=i) (hn:i<n) (hn2:n≤1000000000) (hb : -1000000000≤y * w∧y * w≤1000000000) (hx : -1000000000≤x∧x≤1000000000) (hp:Q0h px i=some (.int .u8 b)) (h0:0≤b∧b≤255) :
  Fun F md 31 [.agg [.int .i64 w,.int .i64 h,.sl c n px],.int .i64 x,.int .i64 y] (.int .i64 b):=by
 refine Q07 rfl rfl ?_
 repeat' (first
 | (conv=>whnf)
   first
   | (refine Bnd.i64 ?_ ?_ ?_;(focus omega);(focus omega))
   | refine Get.mk _ (by rw [hi];simpa using hp) ?_
   | (refine Idx.int ?_ ?_ ?_;(focus omega);(focus omega))
   | refine Get.mk _ rfl ?_
   | refine Leaves.of ?_
   | refine Vw.int ?_
   | (refine Req.mk ?_ ?_;(focus first | rfl | decide | exact ⟨rfl,rfl⟩ | exact ⟨rfl,by decide⟩ | exact (fun _=>rfl) | exact (fun h=>nomatch h) | (simp;done) | omega | (simp [big];done) | exact Q02 (by omega) | exact Q01 (by omega))))
 all_goals (first | omega | rfl)
end Go.Dr.T7
