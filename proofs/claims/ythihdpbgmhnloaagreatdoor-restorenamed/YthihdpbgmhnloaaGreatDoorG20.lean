/- Chapter 08: Voted as a known function, whose list lies in a block of its own; the table with it. -/
import Derived.Test.YthihdpbgmhnloaaGreatDoorR08Vc
import Derived.Test.YthihdpbgmhnloaaGreatDoorDrF
import Derived.Test.YthihdpbgmhnloaaGreatDoorG16
import Derived.Test.YthihdpbgmhnloaaGreatDoorG18
namespace Go.Dr.T
def vtOf:List V→Option (List Vt)
 | []=>some []
 | .str w :: .int .i64 s :: .bool b :: r=>(vtOf r).map (⟨w,s,b⟩ :: ·)
 | _=>none
theorem vtOf_C:∀ l,vtOf (vtC l)=some l
 | []=>rfl
 | v :: l=>by simp only [vtC,vtOf,vtOf_C l];rfl
theorem vtOf_eq:∀ {cs:List V} {l:List Vt},vtOf cs=some l→cs=vtC l
 | [],l,h=>by cases h;rfl
 | [_],l,h=>by cases ‹V› <;> simp [vtOf] at h
 | [_,_],l,h=>by
  unfold vtOf at h
  split at h
  ·rename_i e;cases e
  ·rename_i e;cases e
  ·cases h
 | a :: b :: c :: r,l,h=>by
  unfold vtOf at h
  split at h
  ·rename_i e;cases e
  ·rename_i w s b r' e
   cases e
   obtain ⟨l', h1,rfl⟩:=map_some h
   rw [vtOf_eq h1]
   rfl
  ·cases h
def voV (A:List Int) (e:Int):V:=.tup [if A=[] then .sl true 0 [] else .ms 1 0 A.length 0 A.length false,.int .i64 e]
def voH (A:List Int):List B:=if A=[] then [] else [.blk (ofInts A) true]
def votG (_:Nat) (as:List V) (h:List B):Option (V × List B) :=
 match h with
 | []=>match as with
  | [.int .i64 n,.sl _ m cs,.int .i64 need]=>match vtOf cs with
   | some l=>if l.length=m then some (voV (votA n l need) (votE n l need),voH (votA n l need)) else none
   | none=>none
  | _=>none
 | _=>none
theorem votG_eq {ro:Nat} {n need:Int} {c:Bool} {l:List Vt}:votG ro [.int .i64 n,.sl c l.length (vtC l),.int .i64 need] []=some (voV (votA n l need) (votE n l need),voH (votA n l need)):=by
 simp only [votG,vtOf_C,if_true]
theorem votG_some {ro:Nat} {as:List V} {h h' : List B} {v:V} (e:votG ro as h=some (v,h')):h=[]∧∃ n need c l,as=[.int .i64 n,.sl c l.length (vtC l),.int .i64 need]∧v=voV (votA n l need) (votE n l need)∧h' = voH (votA n l need):=by
 unfold votG at e
 split at e
 ·split at e
  ·rename_i n c m cs need
   split at e
   ·rename_i l hl
    split at e
    ·rename_i hm
     simp only [Option.some.injEq,Prod.mk.injEq] at e
     exact ⟨rfl,n,need,c,l,by rw [vtOf_eq hl,hm],e.1.symm,e.2.symm⟩
    ·cases e
   ·cases e
  ·cases e
 ·cases e
theorem RL_ints {k k2:K}:∀ {l:List Int} {xs:List Value},RL k (ofInts l) xs→RL k2 (ofInts l) xs
 | [],xs,h=>by simp only [ofInts,List.map_nil,RL] at h ⊢; exact h
 | a :: l,xs,h=>by
  simp only [ofInts,List.map_cons,RL] at h ⊢
  obtain ⟨x,r,rfl,h1,h2⟩:=h
  refine ⟨x,r,rfl,?_,?_⟩
  ·simp only [R] at h1 ⊢; exact h1
  ·have:=RL_ints (k:=k) (k2:=k2) (l:=l) (xs:=r) (by simpa only [ofInts] using h2)
   simpa only [ofInts] using this
theorem ofI_drop (l:List Int) (n:Nat):(ofInts l).drop n=ofInts (l.drop n):=by simp [ofInts,List.map_drop]
theorem kn_vot {P:Program} [GT P] (hF:TableOk P FB) {fn:Func} (hf:P.funcs[27]?=some fn) (hfc:cFunc P fn=some c27):KnOk P 27 3 votG:=by
 intro ro k as xs v h' gk ha hlen hgk Q hQ
 obtain ⟨hh,n,need,c,l,rfl,rfl,rfl⟩:=votG_some hgk
 have hw:=voted_walk (c:=c) (n:=n) (need:=need) (l:=l) c27 rfl
 generalize votA n l need=A at *
 generalize votE n l need=e at *
 have hl0:k.h.length=0:=by rw [hh];rfl
 refine call_wpm (ro:=0) hF hf hfc gk ha hlen (Q:=VEnds c27.res A e) (by rw [hh];exact hw) ?_
 rintro x s ⟨h1,h2⟩
 rcases h2 with ⟨hA,h2⟩ | ⟨hA,id,h2,h3⟩
 ·refine ⟨h1,_,h2,fun y k1 hk1 g1 e1 hy => ?_⟩
  have hv:V.view k1.h depth (.tup [.nilsl,.int .i64 e])=some (.tup [.sl true 0 [],.int .i64 e]):=rfl
  obtain ⟨q1,q2,q3⟩:=back_none gk hh g1 e1 hv hy
  have:=hQ y { k with w:=k1.w } (by rw [voH,if_pos hA];exact hh) q1 (q2 ro) (by rw [voV,if_pos hA];exact q3)
  exact this
 ·refine ⟨h1,_,h2,fun y k1 hk1 g1 e1 hy => ?_⟩
  have hb:bget k1.h id=some (.blk (ofInts A) true):=by rw [hk1];exact h3
  obtain ⟨b1,b2,b3,b4,ys,rest,T,b5,b6⟩:=g1.blk id _ _ hb
  let k2:K:={ n0:=k1.n0,A:=k1.A,h:=[.blk (ofInts A) true],β:=fun _=>k1.β id,w:=k1.w }
  have hg0:∀ i b,bget k2.h i=some b→i=0∧b = .blk (ofInts A) true:=fun i b h=>by
   cases i with
   | zero=>exact ⟨rfl,(Option.some.inj h).symm⟩
   | succ i=>cases h
  have hlv:∀ i,live k2.h i→i=0:=fun i ⟨b,hb,_⟩=>(hg0 i b hb).1
  have g2:Good P k2:=by
   refine ⟨g1.size,fun i c dat h => ?_,fun i r p tm ps a b h => ?_,fun i j hi hj _ => ?_,fun i b h ho => ?_,g1.tab⟩
   ·obtain ⟨_,e⟩:=hg0 i _ h
    cases e
    refine ⟨b1,b2,b3,b4,ys,rest,T,b5,?_⟩
    rw [ofI_drop] at b6 ⊢
    exact RL_ints b6
   ·cases (hg0 i _ h).2
   ·rw [hlv i hi,hlv j hj]
   ·obtain ⟨_,e⟩:=hg0 i _ h
    subst e
    cases ho
  have hok:∀ b,k1.ok b→k2.ok b:=fun b hb0=>by
   rcases hb0 with h | ⟨h,hn⟩
   ·exact .inl h
   ·refine .inr ⟨h,fun ⟨i,hi,he⟩=>hn ⟨id,live_blk hb,he⟩⟩
  have e2:Ev ro k.h.length k k2:=by
   refine ⟨e1.n0,e1.A,e1.low,fun b hb0 hlt => ?_,fun i hi => ?_,fun i hi => ?_,fun i _ hi => ?_,fun i _ hi => ?_,fun i hi => ?_⟩
   ·have:=e1.prot b hb0 hlt
    exact ⟨hok b this.1,this.2⟩
   all_goals (rw [hl0] at hi;exact absurd hi (Nat.not_lt_zero i))
  have hr:R k2 (voV A e) y:=by
   rw [voV,if_neg hA]
   simp only [R,RL] at hy ⊢
   obtain ⟨vs,rfl,x1,r1,rfl,hm,x2,r2,rfl,hx2,hx3⟩:=hy
   refine ⟨_,rfl,x1,_,rfl,?_,x2,r2,rfl,hx2,hx3⟩
   obtain ⟨b,o', cap,c,dat,rfl,c1,c2,c3,c4,c5⟩:=hm
   rw [hb] at c1
   cases c1
   exact ⟨b,o', cap,ofInts A,true,rfl,rfl,c2,c3,c4,c5⟩
  have:=hQ y k2 (by rw [voH,if_neg hA]) g2 e2 hr
  exact this
def FB1:Nat→Option Fc
 | 27=>some (knFc 3 27 votG)
 | n=>FB n
theorem sub1:Sub' FB FB1:=by
 intro f fc h
 unfold FB1
 split
 ·cases h
 ·exact h
def liV (A:List Int):V:=.sl (decide (A=[])) A.length (ofInts A)
theorem voV_view (A:List Int) (e:Int):VwF (voH A) depth (voV A e) (.tup [liV A,.int .i64 e]):=by
 unfold voH voV liV
 cases A with
 | nil =>
  rw [if_pos rfl,if_pos rfl]
  exact VwF.tup (d:=63) (VwLF.cons ⟨rfl,rfl⟩ (VwLF.cons (VwF.int rfl) VwLF.nil))
 | cons x l =>
  rw [if_neg (by simp),if_neg (by simp)]
  have hl:(ofInts (x :: l)).length=(x :: l).length:=by simp [ofInts]
  have hi:∀ {d:Nat} (L:List Int),VwLF [B.blk (ofInts (x :: l)) true] (d+1) (ofInts L) (ofInts L):=fun {d} L=>by
   induction L with
   | nil=>exact VwLF.nil
   | cons y L ih=>exact VwLF.cons (VwF.int rfl) ih
  have hv:VwF [B.blk (ofInts (x :: l)) true] 63 (.ms 1 0 (x :: l).length 0 (x :: l).length false) (.sl false (x :: l).length (ofInts (x :: l))):=VwF.ms (d:=62) rfl hl (part_all (by rw [hl,Nat.mul_one])) (hi _)
  exact VwF.tup (d:=63) (VwLF.cons hv (VwLF.cons (VwF.int rfl) VwLF.nil))
theorem voted_funF {c:Bool} {n need:Int} {l:List Vt}:FunF FB1 md 27 [.int .i64 n,.sl c l.length (vtC l),.int .i64 need] (.tup [liV (votA n l need),.int .i64 (votE n l need)]):=by
 have hv:=voV_view (votA n l need) (votE n l need)
 refine ⟨knFc 3 27 votG,rfl,rfl,1,.ret,⟨[voV (votA n l need) (votE n l need)],voH (votA n l need)⟩,voV (votA n l need) (votE n l need),fun m hm => ?_,.inr rfl,rfl,hv.1,hv.2⟩
 cases m with
 | zero=>omega
 | succ m =>
  show run FB1 md (m+1) 0 (.kn 3 27) _=_
  have hF:FB1 27=some (knFc 3 27 votG):=rfl
  simp only [run,hF]
  show (match some votG with
   | none=>none
   | some g=>match g 0 (([V.int .i64 n,.sl c l.length (vtC l),.int .i64 need]++deads ((knFc 3 27 votG).ntm - (knFc 3 27 votG).np)).take 3) [] with
    | none=>none
    | some (v,h)=>some (X.ret,(⟨[v],h⟩:St)))=_
  have e:([V.int .i64 n,.sl c l.length (vtC l),.int .i64 need]++deads ((knFc 3 27 votG).ntm - (knFc 3 27 votG).np)).take 3=[.int .i64 n,.sl c l.length (vtC l),.int .i64 need]:=rfl
  rw [e]
  simp only [votG_eq]
theorem FunF.fun {F:Nat→Option Fc} {md:Nat→Nat} {f:Nat} {as:List V} {v:V} (h:FunF F md f as v):Fun F md f as v:=by
 obtain ⟨fc,h1,h2,n,x,st,v0,h3,h4,h5,h6,_⟩:=h
 exact ⟨fc,h1,h2,n,x,st,v0,h3,h4,h5,h6⟩
end Go.Dr.T
namespace Go.Dr.T
def kwn (l:List V) (v:V) (as:List V):Option V:=match veqs as l with
 | true=>some v
 | false=>none
theorem kwn_eq {l:List V} {v w:V} {as:List V} (h:kwn l v as=some w):as=l∧w=v:=by
 unfold kwn at h
 split at h <;> cases h
 rename_i e
 exact ⟨veqs_eq e,rfl⟩
def filC:List V:=[.int .i64 3,.int .i64 2,.sl true 6 (ofBytes [10,20,30,40,50,60]),.int .i64 3,.int .i64 2,.sl true 6 (ofBytes [10,20,30,40,90,60])]
def filV:V:=.sl true 2 filC
def stL:List V:=[.int .i64 6,.int .i64 0,.int .i64 0,.sl true 1 (ofInts [0,0,1,0]),.int .i64 200,.int .i64 0,.int .i64 0,.sl true 0 []]
def chC:List (Int × Int × Int × Int)→List V
 | []=>[]
 | (a,b,c,d) :: l=>.int .i64 a :: .int .i64 b :: .int .u8 c :: .int .u8 d :: chC l
def liC:List V:=chC [(0,2,30,230),(0,3,40,240),(0,4,50,250),(0,5,60,255)]
def stsC:List V:=[.int .i64 1,.int .i64 0,.int .i64 1,.nilsl,.int .i64 1,.int .i64 0,.int .i64 7,.nilsl,.int .i64 6,.int .i64 1,.int .i64 1,.nilsl,.int .i64 5,.int .i64 0,.int .i64 0,.nilsl]
def vts:List Vt:=[⟨[97,110,110],0,true⟩,⟨[98,111,98],0,true⟩,⟨[97,110,110],1,true⟩,⟨[99,108,101,111],1,true⟩,⟨[98,111,98],1,false⟩,⟨[98,111,98],1,true⟩]
def S0 (_:Nat):Option (List V→Option V):=none
theorem known0:Known FB1 md S0:=by
 intro fn g hg
 cases hg
theorem film_doc:Fun FB1 md 37 [] filV:=fun_is known0 (n:=100) (by decide +kernel)
theorem lift_doc:Fun FB1 md 41 [] (.tup [.agg stL,.sl true 4 liC]):=fun_is known0 (n:=100) (by decide +kernel)
theorem steps_doc:Fun FB1 md 38 [] (.sl true 2 stsC):=fun_is known0 (n:=100) (by decide +kernel)
theorem votes_doc:Fun FB1 md 39 [] (.sl true 6 (vtC vts)):=fun_is known0 (n:=100) (by decide +kernel)
def txt:List UInt8:=[76,79,71,32,49,10,83,84,69,80,32,52,10,48,32,50,32,51,48,32,50,51,48,10,48,32,51,32,52,48,32,50,52,48,10,48,32,52,32,53,48,32,50,53,48,10,48,32,53,32,54,48,32,50,53,53,10,69,78,68,32,54,10]
theorem text_doc:Fun FB1 md 40 [] (.str txt):=fun_is known0 (n:=100) (by decide +kernel)
def filR:V:=.sl false 2 [.int .i64 3,.int .i64 2,.sl false 6 (ofBytes [10,20,230,240,250,255]),.int .i64 3,.int .i64 2,.sl false 6 (ofBytes [10,20,30,40,90,60])]
theorem do_doc:Fun FB1 md 16 [filV,.agg stL] (.tup [filR,.sl false 4 liC,.int .i64 0]):=fun_is known0 (n:=300) (by decide +kernel)
theorem trace_doc:Fun FB1 md 24 [filV,.sl true 2 stsC,.int .i64 0,.int .i64 5] (.tup [.agg [.int .i64 0,.int .i64 4],.sl false 1 (ofInts [0]),.int .i64 0]):=fun_is known0 (n:=300) (by decide +kernel)
theorem undo_doc:Fun FB1 md 29 [filV,.sl true 2 [.nilsl,.sl true 4 liC]] (.tup [.sl true 0 [],.int .i64 1,.int .i64 181]):=fun_is known0 (n:=300) (by decide +kernel)
theorem write_doc:Fun FB1 md 33 [.sl true 1 [.sl true 4 liC]] (.tup [.str txt,.int .i64 0]):=fun_is known0 (n:=300) (by decide +kernel)
theorem vot_doc:votA 2 (vts.take 5) 2=[0]∧votE 2 (vts.take 5) 2=0:=⟨by decide +kernel,by decide +kernel⟩
theorem voted_doc:Fun FB1 md 27 [.int .i64 2,.sl false 5 (vtC (vts.take 5)),.int .i64 2] (.tup [.sl false 1 (ofInts [0]),.int .i64 0]):=by
 have:=FunF.fun (voted_funF (c:=false) (n:=2) (need:=2) (l:=vts.take 5))
 rw [vot_doc.1,vot_doc.2] at this
 exact this
def S1 (n:Nat):Option (List V→Option V) :=
 match n with
 | 16=>some (kwn [filV,.agg stL] (.tup [filR,.sl false 4 liC,.int .i64 0]))
 | 24=>some (kwn [filV,.sl true 2 stsC,.int .i64 0,.int .i64 5] (.tup [.agg [.int .i64 0,.int .i64 4],.sl false 1 (ofInts [0]),.int .i64 0]))
 | 27=>some (kwn [.int .i64 2,.sl false 5 (vtC (vts.take 5)),.int .i64 2] (.tup [.sl false 1 (ofInts [0]),.int .i64 0]))
 | 29=>some (kwn [filV,.sl true 2 [.nilsl,.sl true 4 liC]] (.tup [.sl true 0 [],.int .i64 1,.int .i64 181]))
 | 33=>some (kwn [.sl true 1 [.sl true 4 liC]] (.tup [.str txt,.int .i64 0]))
 | _=>none
theorem known1:Known FB1 md S1:=by
 intro fn g hg as v h
 unfold S1 at hg
 split at hg
 all_goals (try (cases hg;done))
 all_goals
  cases hg
  obtain ⟨rfl,rfl⟩:=kwn_eq h
 ·exact do_doc
 ·exact trace_doc
 ·exact voted_doc
 ·exact undo_doc
 ·exact write_doc
theorem awake:Fun FB1 md 23 [] (.bool true):=fun_is known1 (n:=300) (by decide +kernel)
end Go.Dr.T
namespace Go.Dr.T
theorem tabF {f:Nat} {l:List V} {v:V} (h:Fun FB md f l v):Fun FB1 md f l v:=h.tab sub1
theorem mixP_get {NU:Nat→UInt8} {p:List UInt8} {m:Nat} (h:m<p.length):(mixP NU p p.length).getD m 0=NU m:=by
 unfold mixP
 rw [List.drop_length,List.append_nil,List.getD_eq_getElem?_getD,List.getElem?_map,List.getElem?_range h]
 rfl
end Go.Dr.T
namespace Go.Dr.T
theorem u8_add {a b:UInt8}:IntKind.u8.wrap ((a.toNat:Int)+(b.toNat:Int))=((a+b).toNat:Int):=by
 rw [UInt8.toNat_add]
 have h1:=UInt8.toNat_lt a
 have h2:=UInt8.toNat_lt b
 have h3:IntKind.u8.wrap (((a.toNat+b.toNat:Nat):Int))=(((a.toNat+b.toNat) % 256:Nat):Int):=by
  generalize a.toNat+b.toNat=n
  unfold IntKind.wrap
  simp only [IntKind.bits,IntKind.signed]
  simp
 rw [← Int.natCast_add]
 exact h3
theorem u8_ne {a b:UInt8} (h:b≠0):a+b≠a:=fun e=>h (by
 have h1:=congrArg UInt8.toNat e
 rw [UInt8.toNat_add] at h1
 have h2:=UInt8.toNat_lt a
 have h3:=UInt8.toNat_lt b
 apply UInt8.toNat_inj.1
 show b.toNat=0
 omega)
def fgC (x:Cg) (old:Bool) (y:UInt8):Cg:=if old=true then ⟨x.f,x.p,x.o+y,x.n⟩ else ⟨x.f,x.p,x.o,x.n+y⟩
theorem fgC_pl {x:Cg} {old:Bool} {y:UInt8}:(fgC x old y).f=x.f∧(fgC x old y).p=x.p:=by unfold fgC;split <;> exact ⟨rfl,rfl⟩
theorem pairwise_set {cs:List Cg} {k:Nat} {x z:Cg} (h:cs.Pairwise cgLt) (hx:cs[k]?=some x) (e1:z.f=x.f) (e2:z.p=x.p):(cs.set k z).Pairwise cgLt:=by
 rw [List.pairwise_iff_getElem] at h ⊢
 intro i j hi hj hij
 rw [List.length_set] at hi hj
 have hh:=h i j hi hj hij
 obtain ⟨hk,hx⟩:=List.getElem?_eq_some_iff.1 hx
 rw [List.getElem_set,List.getElem_set]
 unfold cgLt at hh ⊢
 by_cases ei:k=i
 ·subst ei
  rw [if_pos rfl,if_neg (by omega),e1,e2, ← hx]
  exact hh
 ·rw [if_neg ei]
  by_cases ej:k=j
  ·subst ej
   rw [if_pos rfl,e1,e2, ← hx]
   exact hh
  ·rw [if_neg ej]
   exact hh
theorem COk.fg {n m:Nat} {cs:List Cg} {k:Nat} {x z:Cg} (c:COk n m cs) (hx:cs[k]?=some x) (e1:z.f=x.f) (e2:z.p=x.p) (hne:z.o≠z.n):COk n m (cs.set k z):=by
 refine ⟨fun y hy => ?_,pairwise_set c.asc hx e1 e2⟩
 rcases List.mem_or_eq_of_mem_set hy with h | h
 ·exact c.rng y h
 ·subst h
  obtain ⟨h1,h2,_⟩:=c.rng x (List.mem_of_getElem? hx)
  exact ⟨by rw [e1];exact h1,by rw [e2];exact h2,hne⟩
theorem rdT_set {A:Nat→List UInt8} {L:List (List Cg)} {s:Nat} {cs:List Cg}:∀ {k:Nat},k≤s→rdT A (L.set s cs) k=rdT A L k
 | 0,_=>rfl
 | k+1,h=>by
  rw [rdT,rdT,rdT_set (k:=k) (by omega),List.getElem?_set_ne (by omega)]
theorem unT_set {A:Nat→List UInt8} {L:List (List Cg)} {s:Nat} {cs:List Cg}:∀ {k:Nat},k+s<L.length→unT A (L.set s cs) k=unT A L k
 | 0,_=>rfl
 | k+1,h=>by
  rw [unT,unT,unT_set (k:=k) (by omega),List.length_set,List.getElem?_set_ne (by omega)]
theorem lg_view {h:List B} {d:Nat} {v:V} {cs:List Cg}:∀ {L:List (List Cg)} {s:Nat},VwL h (d+1) [v] [cgL cs]→VwL h (d+1) ((lgC L).set s v) (lgC (L.set s cs))
 | [],s,_=>by cases s <;> exact VwL.nil
 | x :: L,0,hv=>VwL.append (l:=[v]) (m:=[cgL cs]) hv lgC_vw
 | x :: L,s+1,hv=>VwL.cons Vw.sl (lg_view (L:=L) (s:=s) hv)
theorem cgC_vw {h:List B} {d:Nat} (l:List Cg):VwL h (d+1) (cgC l) (cgC l):=by
 induction l with
 | nil=>exact VwL.nil
 | cons x l ih=>exact VwL.cons (Vw.int rfl) (VwL.cons (Vw.int rfl) (VwL.cons (Vw.int rfl) (VwL.cons (Vw.int rfl) ih)))
theorem over_cg {z:Cg}:∀ {cs:List Cg} {k:Nat},k<cs.length→over (cgC cs) (k * 4) [.int .i64 z.f,.int .i64 z.p,.int .u8 z.o.toNat,.int .u8 z.n.toNat]=cgC (cs.set k z)
 | x :: cs,0,_=>by
  have ho:∀ l:List V,over l 0 []=l:=fun l=>by cases l <;> rfl
  show _ :: _ :: _ :: _ :: over (cgC cs) 0 []=_
  rw [ho];rfl
 | x :: cs,k+1,h=>by
  rw [show (k+1) * 4=k * 4+1+1+1+1 by omega]
  have ih:=over_cg (z:=z) (cs:=cs) (k:=k) (by simpa using h)
  show _ :: _ :: _ :: _ :: over (cgC cs) (k * 4) _=_
  rw [ih];rfl
theorem redo_forged {c d:Bool} {l:List Fm} {W H:Nat} {ss:List Sp} {s k:Nat} {cs:List Cg} {x:Cg} {y:UInt8} (o:FOk l W H) (h20:ss.length≤20) (hs:(rnC W H (czF l) ss)[s]?=some cs) (hx:cs[k]?=some x) (hy:y≠0) (hne:(fgC x true y).o≠(fgC x true y).n):FunF FB md 32 [.sl c l.length (fmC l),.sl d ss.length (lgC ((rnC W H (czF l) ss).set s (cs.set k (fgC x true y))))] (.tup [.sl true 0 [],.int .i64 (s:Nat),.int .i64 181]):=by
 have oz:=czF_ok o
 have hL:(rnC W H (czF l) ss).length=ss.length:=rnC_len
 have hsl:s<ss.length:=by rw [← hL];exact (List.getElem?_eq_some_iff.1 hs).1
 obtain ⟨st,hst⟩:∃ t,ss[s]?=some t:=⟨_,List.getElem?_eq_getElem hsl⟩
 have hcs:=rnC_get (W:=W) (H:=H) (l:=czF l) hst
 rw [hs] at hcs
 cases hcs
 have of:=rnF_ok (ss:=ss.take s) oz
 have hq:=rnC_cok (ss:=ss) oz
 have hc:COk l.length (W * H) (doC (rnF W H (czF l) (ss.take s)) W H st):=by
  have:=(hq _ (List.mem_of_getElem? hs)).1
  rwa [czF_len] at this
 have hu:=rd_all (ss:=ss) oz ss.length (Nat.le_refl _)
 have hus:=rd_all (ss:=ss) oz s (by omega)
 rw [pxL_cz] at hu hus
 have hbad:¬ rdOk (pxL l) ((rnC W H (czF l) ss).set s ((doC (rnF W H (czF l) (ss.take s)) W H st).set k (fgC x true y))) s:=fun h=>by
  have h1:=h _ (by rw [List.getElem?_set_self (by omega)])
  rw [rdT_set (Nat.le_refl _),hus.1] at h1
  have hk:=(List.getElem?_eq_some_iff.1 hx).1
  refine apAll_not (x:=fgC x true y) (k:=k) (hc.fg hx fgC_pl.1 fgC_pl.2 hne).pl (by rw [List.getElem?_set_self hk]) ?_ h1
  obtain ⟨i,f,m,h1,h2,h3,h4,rfl⟩:=cgA_mem.1 (List.mem_of_getElem? hx)
  show ¬ (pxL (rnF W H (czF l) (ss.take s)) i).getD m 0=f.p.getD m 0+y
  rw [pxL_at h2]
  exact fun e=>u8_ne hy e.symm
 have hgood:∀ j,j<s→rdOk (pxL l) ((rnC W H (czF l) ss).set s ((doC (rnF W H (czF l) (ss.take s)) W H st).set k (fgC x true y))) j:=fun j hj cs' hcs' => by
  rw [List.getElem?_set_ne (by omega)] at hcs'
  rw [rdT_set (by omega)]
  exact hu.2 j (by omega) cs' hcs'
 have h:=redo_any (c:=c) (d:=d) (l:=l) (L:=(rnC W H (czF l) ss).set s ((doC (rnF W H (czF l) (ss.take s)) W H st).set k (fgC x true y))) (W:=W) (H:=H) (v:=.tup [.sl true 0 [],.int .i64 (s:Nat),.int .i64 181]) o (by rw [List.length_set];omega) (fun z hz=>by
  rcases List.mem_or_eq_of_mem_set hz with h | h
  ·have:=hq z h
   rw [czF_len] at this
   exact this
  ·subst h
   exact ⟨hc.fg hx fgC_pl.1 fgC_pl.2 hne,by rw [List.length_set];exact doC_len of⟩) o.fl (fun hall=>absurd (hall s (by rw [List.length_set];omega)) hbad) (fun i hi hpre hno=>by
  have:i=s:=by
   rcases Nat.lt_trichotomy i s with h | h | h
   ·exact absurd (hgood i h) hno
   ·exact h
   ·exact absurd (hpre s h) hbad
  rw [this])
 rw [List.length_set,hL] at h
 exact h
theorem undo_forged {c d:Bool} {l:List Fm} {W H:Nat} {ss:List Sp} {s k:Nat} {cs:List Cg} {x:Cg} {y:UInt8} (o:FOk l W H) (h20:ss.length≤20) (hs:(rnC W H (czF l) ss)[s]?=some cs) (hx:cs[k]?=some x) (hy:y≠0) (hne:(fgC x false y).o≠(fgC x false y).n):FunF FB md 29 [.sl c l.length (fmC (rnF W H (czF l) ss)),.sl d ss.length (lgC ((rnC W H (czF l) ss).set s (cs.set k (fgC x false y))))] (.tup [.sl true 0 [],.int .i64 (s:Nat),.int .i64 181]):=by
 have oz:=czF_ok o
 have hL:(rnC W H (czF l) ss).length=ss.length:=rnC_len
 have hsl:s<ss.length:=by rw [← hL];exact (List.getElem?_eq_some_iff.1 hs).1
 obtain ⟨st,hst⟩:∃ t,ss[s]?=some t:=⟨_,List.getElem?_eq_getElem hsl⟩
 have hcs:=rnC_get (W:=W) (H:=H) (l:=czF l) hst
 rw [hs] at hcs
 cases hcs
 have of:=rnF_ok (ss:=ss.take s) oz
 have oF:=rnF_ok (ss:=ss) oz
 have hFl:(rnF W H (czF l) ss).length=l.length:=by rw [rnF_len,czF_len]
 have hq:=rnC_cok (ss:=ss) oz
 have hc:COk l.length (W * H) (doC (rnF W H (czF l) (ss.take s)) W H st):=by
  have:=(hq _ (List.mem_of_getElem? hs)).1
  rwa [czF_len] at this
 have hu:=un_all (ss:=ss) oz ss.length (Nat.le_refl _)
 have hus:=un_all (ss:=ss) oz (ss.length - (s+1)) (by omega)
 rw [show ss.length - (ss.length - (s+1))=s+1 by omega,rnF_take hst] at hus
 have hbad:¬ unOk (pxL (rnF W H (czF l) ss)) ((rnC W H (czF l) ss).set s ((doC (rnF W H (czF l) (ss.take s)) W H st).set k (fgC x false y))) (ss.length - (s+1)):=fun h=>by
  have h1:=h ((doC (rnF W H (czF l) (ss.take s)) W H st).set k (fgC x false y)) (by rw [List.length_set,hL,show ss.length - (ss.length - (s+1)+1)=s by omega,List.getElem?_set_self (by omega)])
  rw [unT_set (by omega),hus.1] at h1
  have hk:=(List.getElem?_eq_some_iff.1 hx).1
  refine apAll_not (x:=swC (fgC x false y)) (k:=k) (plD_sw (hc.fg hx fgC_pl.1 fgC_pl.2 hne).pl) (by rw [List.getElem?_map,List.getElem?_set_self hk];rfl) ?_ h1
  obtain ⟨i,f,m,h1,h2,h3,h4,rfl⟩:=cgA_mem.1 (List.mem_of_getElem? hx)
  show ¬ (pxL (doF (rnF W H (czF l) (ss.take s)) W H st) i).getD m 0=newU (rnF W H (czF l) (ss.take s)) W H st i m+y
  rw [pxL_doF h2,mixP_at h3]
  exact fun e=>u8_ne hy e.symm
 have hgood:∀ j,j<ss.length - (s+1)→unOk (pxL (rnF W H (czF l) ss)) ((rnC W H (czF l) ss).set s ((doC (rnF W H (czF l) (ss.take s)) W H st).set k (fgC x false y))) j:=fun j hj cs' hcs' => by
  rw [List.length_set,List.getElem?_set_ne (by omega)] at hcs'
  rw [unT_set (by omega)]
  exact hu.2 j (by omega) cs' hcs'
 have h:=undo_any (c:=c) (d:=d) (l:=rnF W H (czF l) ss) (L:=(rnC W H (czF l) ss).set s ((doC (rnF W H (czF l) (ss.take s)) W H st).set k (fgC x false y))) (W:=W) (H:=H) (v:=.tup [.sl true 0 [],.int .i64 (s:Nat),.int .i64 181]) oF (by rw [List.length_set];omega) (fun z hz=>by
  rw [hFl]
  rcases List.mem_or_eq_of_mem_set hz with h | h
  ·have:=hq z h
   rw [czF_len] at this
   exact this
  ·subst h
   exact ⟨hc.fg hx fgC_pl.1 fgC_pl.2 hne,by rw [List.length_set];exact doC_len of⟩) oF.fl (fun hall=>absurd (hall (ss.length - (s+1)) (by rw [List.length_set];omega)) hbad) (fun i hi hpre hno=>by
  rw [List.length_set,hL] at hi ⊢
  have:i=ss.length - (s+1):=by
   rcases Nat.lt_trichotomy i (ss.length - (s+1)) with h | h | h
   ·exact absurd (hgood i h) hno
   ·exact h
   ·exact absurd (hpre _ h) hbad
  rw [this,show ss.length - (ss.length - (s+1)+1)=s by omega])
 rw [List.length_set,hL,hFl] at h
 exact h
end Go.Dr.T
