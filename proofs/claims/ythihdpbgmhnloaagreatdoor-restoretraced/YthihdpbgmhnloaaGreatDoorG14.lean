/- Chapter 08: Voted as a known function, whose list lies in a block of its own; the table with it. -/
import Derived.Test.YthihdpbgmhnloaaGreatDoorR08Vc
import Derived.Test.YthihdpbgmhnloaaGreatDoorDrF
import Derived.Test.YthihdpbgmhnloaaGreatDoorG10
import Derived.Test.YthihdpbgmhnloaaGreatDoorG12
namespace Go.Dr.T
def vtOf:List V→Option (List Vt)
 | []=>some []
 | .str w :: .int .i64 s :: .bool b :: r=>(vtOf r).map (⟨w,s,b⟩ :: ·)
 | _=>none
theorem vtOf_C:∀ l,vtOf (vtC l)=some l
 | []=>rfl
 | v :: l=>by simp only [vtC,vtOf,vtOf_C l];rfl
theorem vtOf_eq:∀ {cs:List V} {l:List Vt},vtOf cs=some l→cs=vtC l
 | [],l,h=>by cases h;rfl
 | [_],l,h=>by cases ‹V› <;> simp [vtOf] at h
 | [_,_],l,h=>by
  unfold vtOf at h
  split at h
  ·rename_i e;cases e
  ·rename_i e;cases e
  ·cases h
 | a :: b :: c :: r,l,h=>by
  unfold vtOf at h
  split at h
  ·rename_i e;cases e
  ·rename_i w s b r' e
   cases e
   obtain ⟨l', h1,rfl⟩:=map_some h
   rw [vtOf_eq h1]
   rfl
  ·cases h
def voV (A:List Int) (e:Int):V:=.tup [if A=[] then .sl true 0 [] else .ms 1 0 A.length 0 A.length false,.int .i64 e]
def voH (A:List Int):List B:=if A=[] then [] else [.blk (ofInts A) true]
def votG (_:Nat) (as:List V) (h:List B):Option (V × List B) :=
 match h with
 | []=>match as with
  | [.int .i64 n,.sl _ m cs,.int .i64 need]=>match vtOf cs with
   | some l=>if l.length=m then some (voV (votA n l need) (votE n l need),voH (votA n l need)) else none
   | none=>none
  | _=>none
 | _=>none
theorem votG_eq {ro:Nat} {n need:Int} {c:Bool} {l:List Vt}:votG ro [.int .i64 n,.sl c l.length (vtC l),.int .i64 need] []=some (voV (votA n l need) (votE n l need),voH (votA n l need)):=by
 simp only [votG,vtOf_C,if_true]
theorem votG_some {ro:Nat} {as:List V} {h h' : List B} {v:V} (e:votG ro as h=some (v,h')):h=[]∧∃ n need c l,as=[.int .i64 n,.sl c l.length (vtC l),.int .i64 need]∧v=voV (votA n l need) (votE n l need)∧h' = voH (votA n l need):=by
 unfold votG at e
 split at e
 ·split at e
  ·rename_i n c m cs need
   split at e
   ·rename_i l hl
    split at e
    ·rename_i hm
     simp only [Option.some.injEq,Prod.mk.injEq] at e
     exact ⟨rfl,n,need,c,l,by rw [vtOf_eq hl,hm],e.1.symm,e.2.symm⟩
    ·cases e
   ·cases e
  ·cases e
 ·cases e
theorem RL_ints {k k2:K}:∀ {l:List Int} {xs:List Value},RL k (ofInts l) xs→RL k2 (ofInts l) xs
 | [],xs,h=>by simp only [ofInts,List.map_nil,RL] at h ⊢; exact h
 | a :: l,xs,h=>by
  simp only [ofInts,List.map_cons,RL] at h ⊢
  obtain ⟨x,r,rfl,h1,h2⟩:=h
  refine ⟨x,r,rfl,?_,?_⟩
  ·simp only [R] at h1 ⊢; exact h1
  ·have:=RL_ints (k:=k) (k2:=k2) (l:=l) (xs:=r) (by simpa only [ofInts] using h2)
   simpa only [ofInts] using this
theorem ofI_drop (l:List Int) (n:Nat):(ofInts l).drop n=ofInts (l.drop n):=by simp [ofInts,List.map_drop]
theorem kn_vot {P:Program} [GT P] (hF:TableOk P FB) {fn:Func} (hf:P.funcs[27]?=some fn) (hfc:cFunc P fn=some c27):KnOk P 27 3 votG:=by
 intro ro k as xs v h' gk ha hlen hgk Q hQ
 obtain ⟨hh,n,need,c,l,rfl,rfl,rfl⟩:=votG_some hgk
 have hw:=voted_walk (c:=c) (n:=n) (need:=need) (l:=l) c27 rfl
 generalize votA n l need=A at *
 generalize votE n l need=e at *
 have hl0:k.h.length=0:=by rw [hh];rfl
 refine call_wpm (ro:=0) hF hf hfc gk ha hlen (Q:=VEnds c27.res A e) (by rw [hh];exact hw) ?_
 rintro x s ⟨h1,h2⟩
 rcases h2 with ⟨hA,h2⟩ | ⟨hA,id,h2,h3⟩
 ·refine ⟨h1,_,h2,fun y k1 hk1 g1 e1 hy => ?_⟩
  have hv:V.view k1.h depth (.tup [.nilsl,.int .i64 e])=some (.tup [.sl true 0 [],.int .i64 e]):=rfl
  obtain ⟨q1,q2,q3⟩:=back_none gk hh g1 e1 hv hy
  have:=hQ y { k with w:=k1.w } (by rw [voH,if_pos hA];exact hh) q1 (q2 ro) (by rw [voV,if_pos hA];exact q3)
  exact this
 ·refine ⟨h1,_,h2,fun y k1 hk1 g1 e1 hy => ?_⟩
  have hb:bget k1.h id=some (.blk (ofInts A) true):=by rw [hk1];exact h3
  obtain ⟨b1,b2,b3,b4,ys,rest,T,b5,b6⟩:=g1.blk id _ _ hb
  let k2:K:={ n0:=k1.n0,A:=k1.A,h:=[.blk (ofInts A) true],β:=fun _=>k1.β id,w:=k1.w }
  have hg0:∀ i b,bget k2.h i=some b→i=0∧b = .blk (ofInts A) true:=fun i b h=>by
   cases i with
   | zero=>exact ⟨rfl,(Option.some.inj h).symm⟩
   | succ i=>cases h
  have hlv:∀ i,live k2.h i→i=0:=fun i ⟨b,hb,_⟩=>(hg0 i b hb).1
  have g2:Good P k2:=by
   refine ⟨g1.size,fun i c dat h => ?_,fun i r p tm ps a b h => ?_,fun i j hi hj _ => ?_,fun i b h ho => ?_,g1.tab⟩
   ·obtain ⟨_,e⟩:=hg0 i _ h
    cases e
    refine ⟨b1,b2,b3,b4,ys,rest,T,b5,?_⟩
    rw [ofI_drop] at b6 ⊢
    exact RL_ints b6
   ·cases (hg0 i _ h).2
   ·rw [hlv i hi,hlv j hj]
   ·obtain ⟨_,e⟩:=hg0 i _ h
    subst e
    cases ho
  have hok:∀ b,k1.ok b→k2.ok b:=fun b hb0=>by
   rcases hb0 with h | ⟨h,hn⟩
   ·exact .inl h
   ·refine .inr ⟨h,fun ⟨i,hi,he⟩=>hn ⟨id,live_blk hb,he⟩⟩
  have e2:Ev ro k.h.length k k2:=by
   refine ⟨e1.n0,e1.A,e1.low,fun b hb0 hlt => ?_,fun i hi => ?_,fun i hi => ?_,fun i _ hi => ?_,fun i _ hi => ?_,fun i hi => ?_⟩
   ·have:=e1.prot b hb0 hlt
    exact ⟨hok b this.1,this.2⟩
   all_goals (rw [hl0] at hi;exact absurd hi (Nat.not_lt_zero i))
  have hr:R k2 (voV A e) y:=by
   rw [voV,if_neg hA]
   simp only [R,RL] at hy ⊢
   obtain ⟨vs,rfl,x1,r1,rfl,hm,x2,r2,rfl,hx2,hx3⟩:=hy
   refine ⟨_,rfl,x1,_,rfl,?_,x2,r2,rfl,hx2,hx3⟩
   obtain ⟨b,o', cap,c,dat,rfl,c1,c2,c3,c4,c5⟩:=hm
   rw [hb] at c1
   cases c1
   exact ⟨b,o', cap,ofInts A,true,rfl,rfl,c2,c3,c4,c5⟩
  have:=hQ y k2 (by rw [voH,if_neg hA]) g2 e2 hr
  exact this
def FB1:Nat→Option Fc
 | 27=>some (knFc 3 27 votG)
 | n=>FB n
theorem sub1:Sub' FB FB1:=by
 intro f fc h
 unfold FB1
 split
 ·cases h
 ·exact h
def liV (A:List Int):V:=.sl (decide (A=[])) A.length (ofInts A)
theorem voV_view (A:List Int) (e:Int):VwF (voH A) depth (voV A e) (.tup [liV A,.int .i64 e]):=by
 unfold voH voV liV
 cases A with
 | nil =>
  rw [if_pos rfl,if_pos rfl]
  exact VwF.tup (d:=63) (VwLF.cons ⟨rfl,rfl⟩ (VwLF.cons (VwF.int rfl) VwLF.nil))
 | cons x l =>
  rw [if_neg (by simp),if_neg (by simp)]
  have hl:(ofInts (x :: l)).length=(x :: l).length:=by simp [ofInts]
  have hi:∀ {d:Nat} (L:List Int),VwLF [B.blk (ofInts (x :: l)) true] (d+1) (ofInts L) (ofInts L):=fun {d} L=>by
   induction L with
   | nil=>exact VwLF.nil
   | cons y L ih=>exact VwLF.cons (VwF.int rfl) ih
  have hv:VwF [B.blk (ofInts (x :: l)) true] 63 (.ms 1 0 (x :: l).length 0 (x :: l).length false) (.sl false (x :: l).length (ofInts (x :: l))):=VwF.ms (d:=62) rfl hl (part_all (by rw [hl,Nat.mul_one])) (hi _)
  exact VwF.tup (d:=63) (VwLF.cons hv (VwLF.cons (VwF.int rfl) VwLF.nil))
theorem voted_funF {c:Bool} {n need:Int} {l:List Vt}:FunF FB1 md 27 [.int .i64 n,.sl c l.length (vtC l),.int .i64 need] (.tup [liV (votA n l need),.int .i64 (votE n l need)]):=by
 have hv:=voV_view (votA n l need) (votE n l need)
 refine ⟨knFc 3 27 votG,rfl,rfl,1,.ret,⟨[voV (votA n l need) (votE n l need)],voH (votA n l need)⟩,voV (votA n l need) (votE n l need),fun m hm => ?_,.inr rfl,rfl,hv.1,hv.2⟩
 cases m with
 | zero=>omega
 | succ m =>
  show run FB1 md (m+1) 0 (.kn 3 27) _=_
  have hF:FB1 27=some (knFc 3 27 votG):=rfl
  simp only [run,hF]
  show (match some votG with
   | none=>none
   | some g=>match g 0 (([V.int .i64 n,.sl c l.length (vtC l),.int .i64 need]++deads ((knFc 3 27 votG).ntm - (knFc 3 27 votG).np)).take 3) [] with
    | none=>none
    | some (v,h)=>some (X.ret,(⟨[v],h⟩:St)))=_
  have e:([V.int .i64 n,.sl c l.length (vtC l),.int .i64 need]++deads ((knFc 3 27 votG).ntm - (knFc 3 27 votG).np)).take 3=[.int .i64 n,.sl c l.length (vtC l),.int .i64 need]:=rfl
  rw [e]
  simp only [votG_eq]
theorem FunF.fun {F:Nat→Option Fc} {md:Nat→Nat} {f:Nat} {as:List V} {v:V} (h:FunF F md f as v):Fun F md f as v:=by
 obtain ⟨fc,h1,h2,n,x,st,v0,h3,h4,h5,h6,_⟩:=h
 exact ⟨fc,h1,h2,n,x,st,v0,h3,h4,h5,h6⟩
end Go.Dr.T
namespace Go.Dr.T
def kwn (l:List V) (v:V) (as:List V):Option V:=match veqs as l with
 | true=>some v
 | false=>none
theorem kwn_eq {l:List V} {v w:V} {as:List V} (h:kwn l v as=some w):as=l∧w=v:=by
 unfold kwn at h
 split at h <;> cases h
 rename_i e
 exact ⟨veqs_eq e,rfl⟩
def filC:List V:=[.int .i64 3,.int .i64 2,.sl true 6 (ofBytes [10,20,30,40,50,60]),.int .i64 3,.int .i64 2,.sl true 6 (ofBytes [10,20,30,40,90,60])]
def filV:V:=.sl true 2 filC
def stL:List V:=[.int .i64 6,.int .i64 0,.int .i64 0,.sl true 1 (ofInts [0,0,1,0]),.int .i64 200,.int .i64 0,.int .i64 0,.sl true 0 []]
def chC:List (Int × Int × Int × Int)→List V
 | []=>[]
 | (a,b,c,d) :: l=>.int .i64 a :: .int .i64 b :: .int .u8 c :: .int .u8 d :: chC l
def liC:List V:=chC [(0,2,30,230),(0,3,40,240),(0,4,50,250),(0,5,60,255)]
def stsC:List V:=[.int .i64 1,.int .i64 0,.int .i64 1,.nilsl,.int .i64 1,.int .i64 0,.int .i64 7,.nilsl,.int .i64 6,.int .i64 1,.int .i64 1,.nilsl,.int .i64 5,.int .i64 0,.int .i64 0,.nilsl]
def vts:List Vt:=[⟨[97,110,110],0,true⟩,⟨[98,111,98],0,true⟩,⟨[97,110,110],1,true⟩,⟨[99,108,101,111],1,true⟩,⟨[98,111,98],1,false⟩,⟨[98,111,98],1,true⟩]
def S0 (_:Nat):Option (List V→Option V):=none
theorem known0:Known FB1 md S0:=by
 intro fn g hg
 cases hg
def txt:List UInt8:=[76,79,71,32,49,10,83,84,69,80,32,52,10,48,32,50,32,51,48,32,50,51,48,10,48,32,51,32,52,48,32,50,52,48,10,48,32,52,32,53,48,32,50,53,48,10,48,32,53,32,54,48,32,50,53,53,10,69,78,68,32,54,10]
def filR:V:=.sl false 2 [.int .i64 3,.int .i64 2,.sl false 6 (ofBytes [10,20,230,240,250,255]),.int .i64 3,.int .i64 2,.sl false 6 (ofBytes [10,20,30,40,90,60])]
theorem do_doc:Fun FB1 md 16 [filV,.agg stL] (.tup [filR,.sl false 4 liC,.int .i64 0]):=fun_is known0 (n:=300) (by decide +kernel)
theorem trace_doc:Fun FB1 md 24 [filV,.sl true 2 stsC,.int .i64 0,.int .i64 5] (.tup [.agg [.int .i64 0,.int .i64 4],.sl false 1 (ofInts [0]),.int .i64 0]):=fun_is known0 (n:=300) (by decide +kernel)
theorem undo_doc:Fun FB1 md 29 [filV,.sl true 2 [.nilsl,.sl true 4 liC]] (.tup [.sl true 0 [],.int .i64 1,.int .i64 181]):=fun_is known0 (n:=300) (by decide +kernel)
theorem write_doc:Fun FB1 md 33 [.sl true 1 [.sl true 4 liC]] (.tup [.str txt,.int .i64 0]):=fun_is known0 (n:=300) (by decide +kernel)
theorem vot_doc:votA 2 (vts.take 5) 2=[0]∧votE 2 (vts.take 5) 2=0:=⟨by decide +kernel,by decide +kernel⟩
theorem voted_doc:Fun FB1 md 27 [.int .i64 2,.sl false 5 (vtC (vts.take 5)),.int .i64 2] (.tup [.sl false 1 (ofInts [0]),.int .i64 0]):=by
 have:=FunF.fun (voted_funF (c:=false) (n:=2) (need:=2) (l:=vts.take 5))
 rw [vot_doc.1,vot_doc.2] at this
 exact this
def S1 (n:Nat):Option (List V→Option V) :=
 match n with
 | 16=>some (kwn [filV,.agg stL] (.tup [filR,.sl false 4 liC,.int .i64 0]))
 | 24=>some (kwn [filV,.sl true 2 stsC,.int .i64 0,.int .i64 5] (.tup [.agg [.int .i64 0,.int .i64 4],.sl false 1 (ofInts [0]),.int .i64 0]))
 | 27=>some (kwn [.int .i64 2,.sl false 5 (vtC (vts.take 5)),.int .i64 2] (.tup [.sl false 1 (ofInts [0]),.int .i64 0]))
 | 29=>some (kwn [filV,.sl true 2 [.nilsl,.sl true 4 liC]] (.tup [.sl true 0 [],.int .i64 1,.int .i64 181]))
 | 33=>some (kwn [.sl true 1 [.sl true 4 liC]] (.tup [.str txt,.int .i64 0]))
 | _=>none
theorem known1:Known FB1 md S1:=by
 intro fn g hg as v h
 unfold S1 at hg
 split at hg
 all_goals (try (cases hg;done))
 all_goals
  cases hg
  obtain ⟨rfl,rfl⟩:=kwn_eq h
 ·exact do_doc
 ·exact trace_doc
 ·exact voted_doc
 ·exact undo_doc
 ·exact write_doc
theorem awake:Fun FB1 md 23 [] (.bool true):=fun_is known1 (n:=300) (by decide +kernel)
end Go.Dr.T
namespace Go.Dr.T
theorem tabF {f:Nat} {l:List V} {v:V} (h:Fun FB md f l v):Fun FB1 md f l v:=h.tab sub1
theorem mixP_get {NU:Nat→UInt8} {p:List UInt8} {m:Nat} (h:m<p.length):(mixP NU p p.length).getD m 0=NU m:=by
 unfold mixP
 rw [List.drop_length,List.append_nil,List.getD_eq_getElem?_getD,List.getElem?_map,List.getElem?_range h]
 rfl
end Go.Dr.T
namespace Go.Dr.T
section
variable {c:Bool} {W H:Nat} {l:List Fm} {ss:List Sp}
theorem fK_ok {k:Nat} (o:FOk l W H):FOk (fK W H l ss k) W H:=rnF_ok (czF_ok o)
theorem fK_len {k:Nat}:(fK W H l ss k).length=l.length:=by unfold fK;rw [rnF_len,czF_len]
theorem fK_next {k:Nat} {s:Sp} (h:ss[k]?=some s):fK W H l ss (k+1)=doF (fK W H l ss k) W H s:=rnF_take h
theorem fK_0:fK W H l ss 0=czF l:=rfl
end
theorem tY_keep {F:List Fm} {W H:Nat} {s:Sp} {i q:Nat} {f:Fm} (hf:F[i]?=some f) (h:keepB s i (q % W:Nat) (q / W:Nat)=true):tY F W H s i q=false:=by
 unfold tY
 split
 ·rw [h];rfl
 ·rw [newU_keep hf h,pxL_at hf]
  simp
end Go.Dr.T
namespace Go.Dr.T
def sAt (ss:List Sp) (x:Int):Sp:=(ss[x.toNat]?).getD ⟨0,0,0,false,[],0,0,0,false,[]⟩
theorem sAt_eq {ss:List Sp} {j:Nat} {s:Sp} (h:ss[j]?=some s):sAt ss (j:Nat)=s:=by
 unfold sAt
 rw [show ((j:Nat):Int).toNat=j by omega,h]
 rfl
section
variable {W H:Nat} {l:List Fm} {ss sm:List Sp} {i q:Nat}
theorem tr_fall:∀ {k:Nat},k≤ss.length→(∀ x∈(tr W H l ss i q k).b,((ss.length - k:Nat):Int)≤x∧x<(ss.length:Int))∧(tr W H l ss i q k).b.Pairwise (· > ·)
 | 0,_=>⟨fun x hx=>by simp [tr] at hx,by simp [tr]⟩
 | k+1,hk=>by
  obtain ⟨h1,h2⟩:=tr_fall (k:=k) (by omega)
  obtain ⟨s,hs⟩:∃ s,ss[ss.length - (k+1)]?=some s:=⟨_,List.getElem?_eq_getElem (by omega)⟩
  rw [tr_at hs]
  split
  ·dsimp only
   refine ⟨fun x hx => ?_,?_⟩
   ·rcases List.mem_append.1 hx with hx | hx
    ·have:=h1 x hx
     omega
    ·simp only [List.mem_cons,List.not_mem_nil,or_false] at hx
     subst hx
     omega
   ·refine List.pairwise_append.2 ⟨h2,by simp,fun a ha b hb => ?_⟩
    simp only [List.mem_cons,List.not_mem_nil,or_false] at hb
    subst hb
    have:=h1 a ha
    omega
  ·exact ⟨fun x hx=>by have:=h1 x hx;omega,h2⟩
theorem tY_nokeep {F:List Fm} {s:Sp} {f:Fm} {q:Nat} (hf:F[i]?=some f) (h:tY F W H s i q=true):outB (i:Int) s.fr s.un=false:=by
 cases hk:keepB s i (q % W:Nat) (q / W:Nat) with
 | true=>rw [tY_keep hf hk] at h;cases h
 | false =>
  unfold keepB at hk
  exact (Bool.or_eq_false_iff.1 hk).1
theorem tY_shift {F G:List Fm} {s:Sp} {q:Nat} (h1:s.k=1):tY F W H s i q=tY G W H s i q:=by
 unfold tY
 rw [if_pos h1,if_pos h1]
theorem tr_steps (o:FOk l W H) (hi:i<l.length):∀ {k:Nat},k≤ss.length→∀ x∈(tr W H l ss i q k).b,∃ (j:Nat) (s:Sp),x=(j:Int)∧ss[j]?=some s∧outB (i:Int) s.fr s.un=false
 | 0,_=>fun x hx=>by simp [tr] at hx
 | k+1,hk=>by
  have ih:=tr_steps o hi (k:=k) (by omega)
  obtain ⟨s,hs⟩:∃ s,ss[ss.length - (k+1)]?=some s:=⟨_,List.getElem?_eq_getElem (by omega)⟩
  rw [tr_at hs]
  split
  ·rename_i hy
   intro x hx
   rcases List.mem_append.1 hx with hx | hx
   ·exact ih x hx
   ·simp only [List.mem_cons,List.not_mem_nil,or_false] at hx
    subst hx
    obtain ⟨f,hf,_,_,_⟩:=(fK_ok (ss:=ss) (k:=ss.length - (k+1)) o).at (i:=i) (by rw [fK_len];exact hi)
    exact ⟨_,s,rfl,hs,tY_nokeep hf hy⟩
  ·exact ih
theorem tr_alone:∀ {k:Nat},k≤ss.length→(∀ j,j<k→trOk W H l ss i q j)→(tr W H l ss i q k).b.length≤sm.length→(∀ t x,(tr W H l ss i q k).b[t]?=some x→sm[sm.length - (t+1)]?=some (sAt ss x))→(∀ t,t<(tr W H l ss i q k).b.length→trOk W H l sm i q t)∧(tr W H l sm i q (tr W H l ss i q k).b.length).q=(tr W H l ss i q k).q
 | 0,_,_,_,_=>⟨fun t ht=>absurd ht (Nat.not_lt_zero _),rfl⟩
 | k+1,hk,hok,hl,hs=>by
  have ih:=tr_alone (k:=k) (by omega) (fun j hj=>hok j (by omega))
  obtain ⟨s,hcs⟩:∃ s,ss[ss.length - (k+1)]?=some s:=⟨_,List.getElem?_eq_getElem (by omega)⟩
  have hk1:=hok k (Nat.lt_succ_self k) s hcs
  have e:=tr_at (W:=W) (H:=H) (l:=l) (i:=i) (q:=q) hcs
  split at e
  ·rename_i hy
   rw [e] at hl hs ⊢
   dsimp only at hl hs ⊢
   rw [List.length_append] at hl ⊢
   simp only [List.length_cons,List.length_nil] at hl ⊢
   obtain ⟨i1,i2⟩:=ih (by omega) fun t x ht=>hs t x (by rw [List.getElem?_append_left (List.getElem?_eq_some_iff.1 ht).1];exact ht)
   have hsm:=hs _ _ (List.getElem?_append_right (l₂:=[((ss.length - (k+1):Nat):Int)]) (Nat.le_refl _) |>.trans (by rw [Nat.sub_self];rfl))
   rw [sAt_eq hcs] at hsm
   refine ⟨fun t ht => ?_,?_⟩
   ·by_cases et:t<(tr W H l ss i q k).b.length
    ·exact i1 t et
    ·obtain rfl:t=(tr W H l ss i q k).b.length:=by omega
     intro s' hs' h1 hy'
     rw [hsm] at hs'
     cases hs'
     rw [i2]
     exact hk1 h1 hy
   ·rw [tr_at hsm,i2]
    by_cases h1:s.k=1
    ·rw [if_pos ((tY_shift h1).trans hy)]
    ·simp only [if_neg h1]
     split
     ·rfl
     ·exact i2
  ·rw [e] at hl hs ⊢
   exact ih hl hs
def smF (ss:List Sp) (by' : List Int):List Sp:=by'.map (sAt ss)
theorem smF_len {ss:List Sp} {b:List Int}:(smF ss b).length=b.length:=by simp [smF]
theorem smF_rev {ss:List Sp} {b:List Int} {t:Nat} {x:Int} (h:b[t]?=some x):(smF ss b.reverse)[(smF ss b.reverse).length - (t+1)]?=some (sAt ss x):=by
 have ht:=(List.getElem?_eq_some_iff.1 h).1
 rw [smF_len,List.length_reverse]
 unfold smF
 rw [List.getElem?_map,List.getElem?_reverse (by omega),show b.length - 1 - (b.length - (t+1))=t by omega,h]
 rfl
theorem trR_alone (hi:i<l.length):(trR W H l (smF ss (trR W H l ss i q).by') i q).a=(trR W H l ss i q).a∧(trR W H l (smF ss (trR W H l ss i q).by') i q).b=(trR W H l ss i q).b∧(trR W H l (smF ss (trR W H l ss i q).by') i q).e=0:=by
 by_cases hall:∀ k,k<ss.length→trOk W H l ss i q k
 ·rw [trR_ok hall]
  dsimp only
  obtain ⟨h1,h2⟩:=tr_alone (sm:=smF ss (tr W H l ss i q ss.length).b.reverse) (Nat.le_refl _) hall (by rw [smF_len,List.length_reverse];exact Nat.le_refl _) fun t x ht=>smF_rev ht
  have hl:(smF ss (tr W H l ss i q ss.length).b.reverse).length=(tr W H l ss i q ss.length).b.length:=by rw [smF_len,List.length_reverse]
  rw [trR_ok fun k hk=>h1 k (by rw [← hl];exact hk)]
  dsimp only
  rw [hl,h2]
  exact ⟨rfl,rfl,rfl⟩
 ·obtain ⟨k,hk,hpre,hno⟩:=tr_first hall
  rw [trR_no hk hpre hno]
  dsimp only
  obtain ⟨s,hcs⟩:∃ s,ss[ss.length - (k+1)]?=some s:=⟨_,List.getElem?_eq_getElem (by omega)⟩
  have hl:(smF ss ((tr W H l ss i q k).b++[((ss.length - (k+1):Nat):Int)]).reverse).length=(tr W H l ss i q k).b.length+1:=by rw [smF_len,List.length_reverse,List.length_append];rfl
  have hr:∀ (t:Nat) (x:Int),((tr W H l ss i q k).b++[((ss.length - (k+1):Nat):Int)])[t]?=some x→_:=fun t x ht=>smF_rev (ss:=ss) ht
  generalize smF ss ((tr W H l ss i q k).b++[((ss.length - (k+1):Nat):Int)]).reverse=sm at *
  obtain ⟨h1,h2⟩:=tr_alone (sm:=sm) (Nat.le_of_lt hk) hpre (by omega) fun t x ht=>hr t x (by rw [List.getElem?_append_left (List.getElem?_eq_some_iff.1 ht).1];exact ht)
  have hsm:=hr _ _ (List.getElem?_append_right (l₂:=[((ss.length - (k+1):Nat):Int)]) (Nat.le_refl _) |>.trans (by rw [Nat.sub_self];rfl))
  rw [sAt_eq hcs] at hsm
  have hno2:¬ trOk W H l sm i q (tr W H l ss i q k).b.length:=by
   obtain ⟨e1,e2,e3⟩:=trOk_no hcs hno
   intro h
   have:=h s hsm e1 (by rw [h2];exact (tY_shift e1).trans e2)
   rw [h2,e3] at this
   cases this
  rw [trR_no (by omega) h1 hno2]
  exact ⟨rfl,rfl,rfl⟩
theorem newU_shift {F:List Fm} {s:Sp} {f:Fm} {x:Nat} (o:FOk F W H) (hf:F[i]?=some f) (h1:s.k=1) (hk:keepB s i (x % W:Nat) (x / W:Nat)=false) (hx:x<W * H) (hin:tO F.length W H s i x=true):newU F W H s i x=f.p.getD (tQ W s x) 0:=by
 obtain ⟨q1,q2⟩:=tQ_in (W:=W) (H:=H) o.w.1 hin
 unfold tO at hin
 unfold newU newP newK
 rw [if_neg (by rw [hk];decide),if_pos h1,orI,if_pos hin,oldN,if_pos hin]
 have e:(((x / W:Nat):Int) - s.b).toNat * W+(((x % W:Nat):Int) - s.a).toNat=tQ W s x:=by
  have e1:(((x / W * W+x % W:Nat):Nat):Int)=(x:Int):=by rw [Nat.div_add_mod']
  rw [Int.natCast_add,Int.natCast_mul] at e1
  unfold oldB outB at hin
  simp only [Bool.not_eq_true', Bool.or_eq_false_iff,decide_eq_false_iff_not,Int.not_lt] at hin
  obtain ⟨⟨_,g1,_⟩,g3,_⟩:=hin
  have g5:((((x / W:Nat):Int) - s.b).toNat:Int)=((x / W:Nat):Int) - s.b:=by omega
  have g6:((((x % W:Nat):Int) - s.a).toNat:Int)=((x % W:Nat):Int) - s.a:=by omega
  have:(((((x / W:Nat):Int) - s.b).toNat * W+(((x % W:Nat):Int) - s.a).toNat:Nat):Int)=((tQ W s x:Nat):Int):=by
   rw [Int.natCast_add,Int.natCast_mul,g5,g6,q2, ← e1,Int.sub_mul]
   omega
  exact Int.ofNat.inj this
 rw [show ((i:Nat):Int).toNat=i by omega,e,wrap_u8 pixI_lt,pixI_eq hf]
 simp
theorem newU_no {F:List Fm} {s:Sp} {f:Fm} {x:Nat} (o:FOk F W H) (hf:F[i]?=some f) (hx:x<W * H) (h:tY F W H s i x=false):newU F W H s i x=f.p.getD x 0:=by
 by_cases h1:s.k=1
 ·cases hk:keepB s i (x % W:Nat) (x / W:Nat) with
  | true=>exact newU_keep hf hk
  | false =>
   unfold tY at h
   rw [if_pos h1,hk] at h
   simp only [Bool.not_false,Bool.true_and,Bool.not_eq_false', Bool.and_eq_true,decide_eq_true_eq] at h
   have m1:x % W<W:=Nat.mod_lt _ (by have:=o.w;omega)
   have m2:x / W<H:=by
    rw [Nat.div_lt_iff_lt_mul (by have:=o.w;omega),Nat.mul_comm]
    exact hx
   have hi:=(List.getElem?_eq_some_iff.1 hf).1
   have hin:tO F.length W H s i x=true:=by
    unfold tO
    rw [h.1,h.2,Int.sub_zero,Int.sub_zero]
    exact oldB_nat hi m1 m2
   have e:=newU_shift o hf h1 hk hx hin
   rw [e]
   unfold tQ
   rw [h.1,h.2,Int.zero_mul,Int.add_zero,Int.sub_zero]
   rfl
 ·unfold tY at h
  rw [if_neg h1,pxL_at hf] at h
  simpa using h
theorem tr_moved (o:FOk l W H) (hi:i<l.length) (hq:q<W * H):∀ {k:Nat},k≤ss.length→(∀ j,j<k→trOk W H l ss i q j)→(∀ x∈(tr W H l ss i q k).b,(sAt ss x).k=1)→(pxL (fK W H l ss ss.length) i).getD q 0=(pxL (fK W H l ss (ss.length - k)) i).getD (tr W H l ss i q k).q 0
 | 0,_,_,_=>rfl
 | k+1,hk,hok,hm=>by
  have hle:=tr_lt o.w.1 hq (fun j hj=>hok j (by omega):∀ j,j<k→trOk W H l ss i q j)
  obtain ⟨s,hcs⟩:∃ s,ss[ss.length - (k+1)]?=some s:=⟨_,List.getElem?_eq_getElem (by omega)⟩
  have e:=tr_at (W:=W) (H:=H) (l:=l) (i:=i) (q:=q) hcs
  have ih:=tr_moved o hi hq (k:=k) (by omega) (fun j hj=>hok j (by omega)) (fun x hx=>hm x (by
   rw [e]
   split
   ·exact List.mem_append_left _ hx
   ·exact hx))
  rw [ih,show ss.length - k=ss.length - (k+1)+1 by omega,fK_next hcs]
  have hFo:=fK_ok (ss:=ss) (k:=ss.length - (k+1)) o
  obtain ⟨f,hf,_,_,hfp⟩:=hFo.at (i:=i) (by rw [fK_len];exact hi)
  rw [pxL_at (doF_get hf),pxL_at hf]
  dsimp only
  rw [mixP_get (by rw [hfp];exact hle)]
  cases hy:tY (fK W H l ss (ss.length - (k+1))) W H s i (tr W H l ss i q k).q with
  | false =>
   rw [e,if_neg (by rw [hy];decide)]
   exact newU_no hFo hf hle hy
  | true =>
   rw [if_pos hy] at e
   have h1:s.k=1:=by
    have:=hm ((ss.length - (k+1):Nat):Int) (by rw [e];simp)
    rw [sAt_eq hcs] at this
    exact this
   rw [e,if_pos h1]
   dsimp only
   have hin:=hok k (Nat.lt_succ_self k) s hcs h1 hy
   refine newU_shift hFo hf h1 ?_ hle (by rw [fK_len];exact hin)
   unfold tY at hy
   rw [if_pos h1] at hy
   cases hk2:keepB s i ((tr W H l ss i q k).q % W:Nat) ((tr W H l ss i q k).q / W:Nat) with
   | false=>rfl
   | true=>rw [hk2] at hy;cases hy
end
end Go.Dr.T
