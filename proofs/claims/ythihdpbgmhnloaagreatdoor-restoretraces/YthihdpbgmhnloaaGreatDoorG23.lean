/- Chapter 08: Voted as a known function, whose list lies in a block of its own; the table with it. -/
import Derived.Test.YthihdpbgmhnloaaGreatDoorR08Vc
import Derived.Test.YthihdpbgmhnloaaGreatDoorDrF
import Derived.Test.YthihdpbgmhnloaaGreatDoorG12
import Derived.Test.YthihdpbgmhnloaaGreatDoorG17
import Derived.Test.YthihdpbgmhnloaaGreatDoorG13
import Derived.Test.YthihdpbgmhnloaaGreatDoorG21
namespace Go.Dr.T
def vtOf:List V→Option (List Vt)
 | []=>some []
 | .str w :: .int .i64 s :: .bool b :: r=>(vtOf r).map (⟨w,s,b⟩ :: ·)
 | _=>none
theorem vtOf_C:∀ l,vtOf (vtC l)=some l
 | []=>rfl
 | v :: l=>by simp only [vtC,vtOf,vtOf_C l];rfl
theorem vtOf_eq:∀ {cs:List V} {l:List Vt},vtOf cs=some l→cs=vtC l
 | [],l,h=>by cases h;rfl
 | [_],l,h=>by cases ‹V› <;> simp [vtOf] at h
 | [_,_],l,h=>by
  unfold vtOf at h
  split at h
  ·rename_i e;cases e
  ·rename_i e;cases e
  ·cases h
 | a :: b :: c :: r,l,h=>by
  unfold vtOf at h
  split at h
  ·rename_i e;cases e
  ·rename_i w s b r' e
   cases e
   obtain ⟨l', h1,rfl⟩:=map_some h
   rw [vtOf_eq h1]
   rfl
  ·cases h
def voV (A:List Int) (e:Int):V:=.tup [if A=[] then .sl true 0 [] else .ms 1 0 A.length 0 A.length false,.int .i64 e]
def voH (A:List Int):List B:=if A=[] then [] else [.blk (ofInts A) true]
def votG (_:Nat) (as:List V) (h:List B):Option (V × List B) :=
 match h with
 | []=>match as with
  | [.int .i64 n,.sl _ m cs,.int .i64 need]=>match vtOf cs with
   | some l=>if l.length=m then some (voV (votA n l need) (votE n l need),voH (votA n l need)) else none
   | none=>none
  | _=>none
 | _=>none
theorem votG_eq {ro:Nat} {n need:Int} {c:Bool} {l:List Vt}:votG ro [.int .i64 n,.sl c l.length (vtC l),.int .i64 need] []=some (voV (votA n l need) (votE n l need),voH (votA n l need)):=by
 simp only [votG,vtOf_C,if_true]
theorem votG_some {ro:Nat} {as:List V} {h h' : List B} {v:V} (e:votG ro as h=some (v,h')):h=[]∧∃ n need c l,as=[.int .i64 n,.sl c l.length (vtC l),.int .i64 need]∧v=voV (votA n l need) (votE n l need)∧h' = voH (votA n l need):=by
 unfold votG at e
 split at e
 ·split at e
  ·rename_i n c m cs need
   split at e
   ·rename_i l hl
    split at e
    ·rename_i hm
     simp only [Option.some.injEq,Prod.mk.injEq] at e
     exact ⟨rfl,n,need,c,l,by rw [vtOf_eq hl,hm],e.1.symm,e.2.symm⟩
    ·cases e
   ·cases e
  ·cases e
 ·cases e
theorem RL_ints {k k2:K}:∀ {l:List Int} {xs:List Value},RL k (ofInts l) xs→RL k2 (ofInts l) xs
 | [],xs,h=>by simp only [ofInts,List.map_nil,RL] at h ⊢; exact h
 | a :: l,xs,h=>by
  simp only [ofInts,List.map_cons,RL] at h ⊢
  obtain ⟨x,r,rfl,h1,h2⟩:=h
  refine ⟨x,r,rfl,?_,?_⟩
  ·simp only [R] at h1 ⊢; exact h1
  ·have:=RL_ints (k:=k) (k2:=k2) (l:=l) (xs:=r) (by simpa only [ofInts] using h2)
   simpa only [ofInts] using this
theorem ofI_drop (l:List Int) (n:Nat):(ofInts l).drop n=ofInts (l.drop n):=by simp [ofInts,List.map_drop]
theorem kn_vot {P:Program} [GT P] (hF:TableOk P FB) {fn:Func} (hf:P.funcs[27]?=some fn) (hfc:cFunc P fn=some c27):KnOk P 27 3 votG:=by
 intro ro k as xs v h' gk ha hlen hgk Q hQ
 obtain ⟨hh,n,need,c,l,rfl,rfl,rfl⟩:=votG_some hgk
 have hw:=voted_walk (c:=c) (n:=n) (need:=need) (l:=l) c27 rfl
 generalize votA n l need=A at *
 generalize votE n l need=e at *
 have hl0:k.h.length=0:=by rw [hh];rfl
 refine call_wpm (ro:=0) hF hf hfc gk ha hlen (Q:=VEnds c27.res A e) (by rw [hh];exact hw) ?_
 rintro x s ⟨h1,h2⟩
 rcases h2 with ⟨hA,h2⟩ | ⟨hA,id,h2,h3⟩
 ·refine ⟨h1,_,h2,fun y k1 hk1 g1 e1 hy => ?_⟩
  have hv:V.view k1.h depth (.tup [.nilsl,.int .i64 e])=some (.tup [.sl true 0 [],.int .i64 e]):=rfl
  obtain ⟨q1,q2,q3⟩:=back_none gk hh g1 e1 hv hy
  have:=hQ y { k with w:=k1.w } (by rw [voH,if_pos hA];exact hh) q1 (q2 ro) (by rw [voV,if_pos hA];exact q3)
  exact this
 ·refine ⟨h1,_,h2,fun y k1 hk1 g1 e1 hy => ?_⟩
  have hb:bget k1.h id=some (.blk (ofInts A) true):=by rw [hk1];exact h3
  obtain ⟨b1,b2,b3,b4,ys,rest,T,b5,b6⟩:=g1.blk id _ _ hb
  let k2:K:={ n0:=k1.n0,A:=k1.A,h:=[.blk (ofInts A) true],β:=fun _=>k1.β id,w:=k1.w }
  have hg0:∀ i b,bget k2.h i=some b→i=0∧b = .blk (ofInts A) true:=fun i b h=>by
   cases i with
   | zero=>exact ⟨rfl,(Option.some.inj h).symm⟩
   | succ i=>cases h
  have hlv:∀ i,live k2.h i→i=0:=fun i ⟨b,hb,_⟩=>(hg0 i b hb).1
  have g2:Good P k2:=by
   refine ⟨g1.size,fun i c dat h => ?_,fun i r p tm ps a b h => ?_,fun i j hi hj _ => ?_,fun i b h ho => ?_,g1.tab⟩
   ·obtain ⟨_,e⟩:=hg0 i _ h
    cases e
    refine ⟨b1,b2,b3,b4,ys,rest,T,b5,?_⟩
    rw [ofI_drop] at b6 ⊢
    exact RL_ints b6
   ·cases (hg0 i _ h).2
   ·rw [hlv i hi,hlv j hj]
   ·obtain ⟨_,e⟩:=hg0 i _ h
    subst e
    cases ho
  have hok:∀ b,k1.ok b→k2.ok b:=fun b hb0=>by
   rcases hb0 with h | ⟨h,hn⟩
   ·exact .inl h
   ·refine .inr ⟨h,fun ⟨i,hi,he⟩=>hn ⟨id,live_blk hb,he⟩⟩
  have e2:Ev ro k.h.length k k2:=by
   refine ⟨e1.n0,e1.A,e1.low,fun b hb0 hlt => ?_,fun i hi => ?_,fun i hi => ?_,fun i _ hi => ?_,fun i _ hi => ?_,fun i hi => ?_⟩
   ·have:=e1.prot b hb0 hlt
    exact ⟨hok b this.1,this.2⟩
   all_goals (rw [hl0] at hi;exact absurd hi (Nat.not_lt_zero i))
  have hr:R k2 (voV A e) y:=by
   rw [voV,if_neg hA]
   simp only [R,RL] at hy ⊢
   obtain ⟨vs,rfl,x1,r1,rfl,hm,x2,r2,rfl,hx2,hx3⟩:=hy
   refine ⟨_,rfl,x1,_,rfl,?_,x2,r2,rfl,hx2,hx3⟩
   obtain ⟨b,o', cap,c,dat,rfl,c1,c2,c3,c4,c5⟩:=hm
   rw [hb] at c1
   cases c1
   exact ⟨b,o', cap,ofInts A,true,rfl,rfl,c2,c3,c4,c5⟩
  have:=hQ y k2 (by rw [voH,if_neg hA]) g2 e2 hr
  exact this
def FB1:Nat→Option Fc
 | 27=>some (knFc 3 27 votG)
 | n=>FB n
theorem sub1:Sub' FB FB1:=by
 intro f fc h
 unfold FB1
 split
 ·cases h
 ·exact h
def liV (A:List Int):V:=.sl (decide (A=[])) A.length (ofInts A)
theorem voV_view (A:List Int) (e:Int):VwF (voH A) depth (voV A e) (.tup [liV A,.int .i64 e]):=by
 unfold voH voV liV
 cases A with
 | nil =>
  rw [if_pos rfl,if_pos rfl]
  exact VwF.tup (d:=63) (VwLF.cons ⟨rfl,rfl⟩ (VwLF.cons (VwF.int rfl) VwLF.nil))
 | cons x l =>
  rw [if_neg (by simp),if_neg (by simp)]
  have hl:(ofInts (x :: l)).length=(x :: l).length:=by simp [ofInts]
  have hi:∀ {d:Nat} (L:List Int),VwLF [B.blk (ofInts (x :: l)) true] (d+1) (ofInts L) (ofInts L):=fun {d} L=>by
   induction L with
   | nil=>exact VwLF.nil
   | cons y L ih=>exact VwLF.cons (VwF.int rfl) ih
  have hv:VwF [B.blk (ofInts (x :: l)) true] 63 (.ms 1 0 (x :: l).length 0 (x :: l).length false) (.sl false (x :: l).length (ofInts (x :: l))):=VwF.ms (d:=62) rfl hl (part_all (by rw [hl,Nat.mul_one])) (hi _)
  exact VwF.tup (d:=63) (VwLF.cons hv (VwLF.cons (VwF.int rfl) VwLF.nil))
theorem voted_funF {c:Bool} {n need:Int} {l:List Vt}:FunF FB1 md 27 [.int .i64 n,.sl c l.length (vtC l),.int .i64 need] (.tup [liV (votA n l need),.int .i64 (votE n l need)]):=by
 have hv:=voV_view (votA n l need) (votE n l need)
 refine ⟨knFc 3 27 votG,rfl,rfl,1,.ret,⟨[voV (votA n l need) (votE n l need)],voH (votA n l need)⟩,voV (votA n l need) (votE n l need),fun m hm => ?_,.inr rfl,rfl,hv.1,hv.2⟩
 cases m with
 | zero=>omega
 | succ m =>
  show run FB1 md (m+1) 0 (.kn 3 27) _=_
  have hF:FB1 27=some (knFc 3 27 votG):=rfl
  simp only [run,hF]
  show (match some votG with
   | none=>none
   | some g=>match g 0 (([V.int .i64 n,.sl c l.length (vtC l),.int .i64 need]++deads ((knFc 3 27 votG).ntm - (knFc 3 27 votG).np)).take 3) [] with
    | none=>none
    | some (v,h)=>some (X.ret,(⟨[v],h⟩:St)))=_
  have e:([V.int .i64 n,.sl c l.length (vtC l),.int .i64 need]++deads ((knFc 3 27 votG).ntm - (knFc 3 27 votG).np)).take 3=[.int .i64 n,.sl c l.length (vtC l),.int .i64 need]:=rfl
  rw [e]
  simp only [votG_eq]
theorem FunF.fun {F:Nat→Option Fc} {md:Nat→Nat} {f:Nat} {as:List V} {v:V} (h:FunF F md f as v):Fun F md f as v:=by
 obtain ⟨fc,h1,h2,n,x,st,v0,h3,h4,h5,h6,_⟩:=h
 exact ⟨fc,h1,h2,n,x,st,v0,h3,h4,h5,h6⟩
end Go.Dr.T
namespace Go.Dr.T
def kwn (l:List V) (v:V) (as:List V):Option V:=match veqs as l with
 | true=>some v
 | false=>none
theorem kwn_eq {l:List V} {v w:V} {as:List V} (h:kwn l v as=some w):as=l∧w=v:=by
 unfold kwn at h
 split at h <;> cases h
 rename_i e
 exact ⟨veqs_eq e,rfl⟩
def filC:List V:=[.int .i64 3,.int .i64 2,.sl true 6 (ofBytes [10,20,30,40,50,60]),.int .i64 3,.int .i64 2,.sl true 6 (ofBytes [10,20,30,40,90,60])]
def filV:V:=.sl true 2 filC
def stL:List V:=[.int .i64 6,.int .i64 0,.int .i64 0,.sl true 1 (ofInts [0,0,1,0]),.int .i64 200,.int .i64 0,.int .i64 0,.sl true 0 []]
def chC:List (Int × Int × Int × Int)→List V
 | []=>[]
 | (a,b,c,d) :: l=>.int .i64 a :: .int .i64 b :: .int .u8 c :: .int .u8 d :: chC l
def liC:List V:=chC [(0,2,30,230),(0,3,40,240),(0,4,50,250),(0,5,60,255)]
def stsC:List V:=[.int .i64 1,.int .i64 0,.int .i64 1,.nilsl,.int .i64 1,.int .i64 0,.int .i64 7,.nilsl,.int .i64 6,.int .i64 1,.int .i64 1,.nilsl,.int .i64 5,.int .i64 0,.int .i64 0,.nilsl]
def vts:List Vt:=[⟨[97,110,110],0,true⟩,⟨[98,111,98],0,true⟩,⟨[97,110,110],1,true⟩,⟨[99,108,101,111],1,true⟩,⟨[98,111,98],1,false⟩,⟨[98,111,98],1,true⟩]
def S0 (_:Nat):Option (List V→Option V):=none
theorem known0:Known FB1 md S0:=by
 intro fn g hg
 cases hg
def txt:List UInt8:=[76,79,71,32,49,10,83,84,69,80,32,52,10,48,32,50,32,51,48,32,50,51,48,10,48,32,51,32,52,48,32,50,52,48,10,48,32,52,32,53,48,32,50,53,48,10,48,32,53,32,54,48,32,50,53,53,10,69,78,68,32,54,10]
def filR:V:=.sl false 2 [.int .i64 3,.int .i64 2,.sl false 6 (ofBytes [10,20,230,240,250,255]),.int .i64 3,.int .i64 2,.sl false 6 (ofBytes [10,20,30,40,90,60])]
theorem do_doc:Fun FB1 md 16 [filV,.agg stL] (.tup [filR,.sl false 4 liC,.int .i64 0]):=fun_is known0 (n:=300) (by decide +kernel)
theorem trace_doc:Fun FB1 md 24 [filV,.sl true 2 stsC,.int .i64 0,.int .i64 5] (.tup [.agg [.int .i64 0,.int .i64 4],.sl false 1 (ofInts [0]),.int .i64 0]):=fun_is known0 (n:=300) (by decide +kernel)
theorem undo_doc:Fun FB1 md 29 [filV,.sl true 2 [.nilsl,.sl true 4 liC]] (.tup [.sl true 0 [],.int .i64 1,.int .i64 181]):=fun_is known0 (n:=300) (by decide +kernel)
theorem write_doc:Fun FB1 md 33 [.sl true 1 [.sl true 4 liC]] (.tup [.str txt,.int .i64 0]):=fun_is known0 (n:=300) (by decide +kernel)
theorem vot_doc:votA 2 (vts.take 5) 2=[0]∧votE 2 (vts.take 5) 2=0:=⟨by decide +kernel,by decide +kernel⟩
theorem voted_doc:Fun FB1 md 27 [.int .i64 2,.sl false 5 (vtC (vts.take 5)),.int .i64 2] (.tup [.sl false 1 (ofInts [0]),.int .i64 0]):=by
 have:=FunF.fun (voted_funF (c:=false) (n:=2) (need:=2) (l:=vts.take 5))
 rw [vot_doc.1,vot_doc.2] at this
 exact this
def S1 (n:Nat):Option (List V→Option V) :=
 match n with
 | 16=>some (kwn [filV,.agg stL] (.tup [filR,.sl false 4 liC,.int .i64 0]))
 | 24=>some (kwn [filV,.sl true 2 stsC,.int .i64 0,.int .i64 5] (.tup [.agg [.int .i64 0,.int .i64 4],.sl false 1 (ofInts [0]),.int .i64 0]))
 | 27=>some (kwn [.int .i64 2,.sl false 5 (vtC (vts.take 5)),.int .i64 2] (.tup [.sl false 1 (ofInts [0]),.int .i64 0]))
 | 29=>some (kwn [filV,.sl true 2 [.nilsl,.sl true 4 liC]] (.tup [.sl true 0 [],.int .i64 1,.int .i64 181]))
 | 33=>some (kwn [.sl true 1 [.sl true 4 liC]] (.tup [.str txt,.int .i64 0]))
 | _=>none
theorem known1:Known FB1 md S1:=by
 intro fn g hg as v h
 unfold S1 at hg
 split at hg
 all_goals (try (cases hg;done))
 all_goals
  cases hg
  obtain ⟨rfl,rfl⟩:=kwn_eq h
 ·exact do_doc
 ·exact trace_doc
 ·exact voted_doc
 ·exact undo_doc
 ·exact write_doc
theorem awake:Fun FB1 md 23 [] (.bool true):=fun_is known1 (n:=300) (by decide +kernel)
end Go.Dr.T
namespace Go.Dr.T
theorem tabF {f:Nat} {l:List V} {v:V} (h:Fun FB md f l v):Fun FB1 md f l v:=h.tab sub1
theorem mixP_get {NU:Nat→UInt8} {p:List UInt8} {m:Nat} (h:m<p.length):(mixP NU p p.length).getD m 0=NU m:=by
 unfold mixP
 rw [List.drop_length,List.append_nil,List.getD_eq_getElem?_getD,List.getElem?_map,List.getElem?_range h]
 rfl
end Go.Dr.T
namespace Go.Dr.T
section
variable {c:Bool} {W H:Nat} {l:List Fm} {ss:List Sp}
def fsV (c:Bool) (W H:Nat) (l:List Fm) (ss:List Sp) (k:Nat):V:=if k=0 then .sl c l.length (fmC l) else .sl false l.length (fmC (fK W H l ss k))
def fsC (c:Bool) (W H:Nat) (l:List Fm) (ss:List Sp) (n:Nat):List V:=(List.range n).map (fsV c W H l ss)
theorem fsC_len {n:Nat}:(fsC c W H l ss n).length=n:=by simp [fsC]
theorem fsC_snoc {n:Nat}:fsC c W H l ss (n+1)=fsC c W H l ss n++[fsV c W H l ss n]:=by simp [fsC,List.range_succ]
theorem fsC_at {n k:Nat} (h:k<n):cellAt (fsC c W H l ss n) (k * 1)=some (fsV c W H l ss k):=by
 rw [cellAt_eq,Nat.mul_one,fsC,List.getElem?_map,List.getElem?_range h]
 rfl
theorem fsV_blo {k n:Nat}:(fsV c W H l ss k).blo n=true:=by
 unfold fsV
 split <;> rfl
theorem fsC_blos {n m:Nat}:blos m (fsC c W H l ss n)=true:=by
 refine blos_of fun v hv => ?_
 unfold fsC at hv
 obtain ⟨k,_,rfl⟩:=List.mem_map.1 hv
 exact fsV_blo
theorem fK_ok {k:Nat} (o:FOk l W H):FOk (fK W H l ss k) W H:=rnF_ok (czF_ok o)
theorem fK_len {k:Nat}:(fK W H l ss k).length=l.length:=by unfold fK;rw [rnF_len,czF_len]
theorem fK_next {k:Nat} {s:Sp} (h:ss[k]?=some s):fK W H l ss (k+1)=doF (fK W H l ss k) W H s:=rnF_take h
theorem fK_0:fK W H l ss 0=czF l:=rfl
theorem fsV_next {k:Nat} {s:Sp} (o:FOk l W H) (p:SOk s l.length W H) (h:ss[k]?=some s):∃ C,FunF FB md 46 [fsV c W H l ss k,.agg (spV s)] (.tup [fsV c W H l ss (k+1),cgL C]):=by
 unfold fsV
 rw [if_neg (Nat.succ_ne_zero k),fK_next h]
 by_cases h0:k=0
 ·subst h0
  rw [if_pos rfl,fK_0,doF_cz]
  have:=done_ok (c:=c) o p
  rw [doF_len] at this
  exact ⟨_,this⟩
 ·rw [if_neg h0]
  have:=done_ok (c:=false) (l:=fK W H l ss k) (s:=s) (fK_ok o) (by rw [fK_len];exact p)
  rw [doF_len,fK_len] at this
  exact ⟨_,this⟩
theorem fsV_pix {k i:Nat} {f:Fm} (hf:(fK W H l ss k)[i]?=some f):∃ (d e:Bool) (C:List V),fsV c W H l ss k = .sl d l.length C∧C.length=l.length * 3∧cellAt C (i * 3+2)=some (.sl e f.p.length (ofBytes f.p)):=by
 unfold fsV
 by_cases h0:k=0
 ·subst h0
  rw [if_pos rfl]
  rw [fK_0] at hf
  have hi:=(List.getElem?_eq_some_iff.1 hf).1
  rw [czF_len] at hi
  obtain ⟨g,hg⟩:∃ g,l[i]?=some g:=⟨_,List.getElem?_eq_getElem hi⟩
  have:=czF_get hg
  rw [hf] at this
  cases this
  exact ⟨c,g.c,_,rfl,fmC_length _,(fm_c hg).2.2⟩
 ·rw [if_neg h0]
  exact ⟨false,f.c,_,rfl,by rw [fmC_length,fK_len],(fm_c hf).2.2⟩
end
theorem tY_keep {F:List Fm} {W H:Nat} {s:Sp} {i q:Nat} {f:Fm} (hf:F[i]?=some f) (h:keepB s i (q % W:Nat) (q / W:Nat)=true):tY F W H s i q=false:=by
 unfold tY
 split
 ·rw [h];rfl
 ·rw [newU_keep hf h,pxL_at hf]
  simp
theorem tY_pix {F:List Fm} {W H:Nat} {s:Sp} {i q:Nat} {f:Fm} (h1:¬ s.k=1) (hf:F[i]?=some f) (hq:q<f.p.length):∃ g,(doF F W H s)[i]?=some g∧g.p.length=f.p.length∧tY F W H s i q = !decide (g.p.getD q 0=f.p.getD q 0):=by
 refine ⟨_,doF_get hf,mixP_len (Nat.le_refl _),?_⟩
 unfold tY
 rw [if_neg h1,pxL_at hf]
 dsimp only
 rw [mixP_get hq]
end Go.Dr.T
namespace Go.Dr.T
set_option maxRecDepth 100000 in
set_option maxHeartbeats 20000000 in
theorem traceR_bad {c d:Bool} {l:List Fm} {ss:List Sp} {x y:Int} (he:(csE l ss).2≠0):Fun FB md 25 [.sl c l.length (fmC l),.sl d ss.length (spC ss),.int .i64 x,.int .i64 y] (.tup [.agg [.int .i64 0,.int .i64 0],inL [],.int .i64 (csE l ss).2]):=by
 have k1:=cstepsR_ok (c:=c) (d:=d) (l:=l) (ss:=ss)
 generalize csE l ss=e at *
 obtain ⟨e1,e2⟩:=e
 dsimp only at *
 refine fun_of rfl rfl ?_
 repeat' (first
 | (conv=>whnf)
   first
   | refine Br.f ?_
   | (refine Br.decF ?_ ?_;(focus first | assumption | omega))
   | refine Br.not ?_
   | refine call_fun rfl rfl k1 (.inl rfl) ?_
   | refine Get.mk _ rfl ?_
   | refine Leaves.of ?_
   | refine Vw.int ?_
   | refine Vw.nil
   | refine Vw.tup ?_
   | refine Vw.agg ?_
   | refine VwL.cons ?_ ?_
   | refine VwL.nil
   | (refine Req.mk ?_ ?_;(focus first | rfl | decide | exact ⟨rfl,rfl⟩ | exact ⟨rfl,by decide⟩ | exact (fun _=>rfl) | exact (fun h=>nomatch h) | (simp;done) | omega | (simp [big];done) | exact le_big (by omega) | exact lt_big (by omega))))
 all_goals first | rfl | exact Vw.nil | (exfalso;omega;done)
set_option maxRecDepth 100000 in
set_option maxHeartbeats 20000000 in
theorem traceR_none {c d:Bool} {l:List Fm} {W H:Nat} {ss:List Sp} {x y:Int} (o:FOk l W H) (he:(csE l ss).2=0) (h:outB x 0 ((l.length:Int) - 1)=true∨outB y 0 (((W * H:Nat):Int) - 1)=true):Fun FB md 25 [.sl c l.length (fmC l),.sl d ss.length (spC ss),.int .i64 x,.int .i64 y] (.tup [.agg [.int .i64 0,.int .i64 0],inL [],.int .i64 4]):=by
 have k1:=cstepsR_ok (c:=c) (d:=d) (l:=l) (ss:=ss)
 rw [he] at k1
 generalize (csE l ss).1=e1 at *
 have k4:=in_ok (n:=x) (lo:=0) (hi:=(l.length:Int) - 1)
 have k5:=in_ok (n:=y) (lo:=0) (hi:=((W * H:Nat):Int) - 1)
 have hnn:=o.nn
 have hn12:=o.n12
 have hn0:=o.n0
 obtain ⟨f0,hf0,h0w,_,h0p⟩:=o.at o.n0
 obtain ⟨b0,_,b2⟩:=fm_c hf0
 rw [h0p] at b2
 have hlw:IntKind.i64.wrap ((l.length:Int) - 1)=(l.length:Int) - 1:=wrap_i64 (by omega) (by omega)
 have hpw:IntKind.i64.wrap (((W * H:Nat):Int) - 1)=((W * H:Nat):Int) - 1:=wrap_i64 (by omega) (by omega)
 refine fun_of rfl rfl ?_
 cases h1:outB x 0 ((l.length:Int) - 1) with
 | true =>
  rw [h1] at k4
  repeat' (first
 | (conv=>whnf)
   first
   | refine Bnd.eq hlw ?_
   | refine Br.t ?_
   | refine call_fun rfl rfl k1 (.inl rfl) ?_
   | refine call_fun rfl rfl k4 (.inl rfl) ?_
   | refine Get.mk _ rfl ?_
   | refine Leaves.of ?_
   | refine Vw.int ?_
   | refine Vw.nil
   | refine Vw.tup ?_
   | refine Vw.agg ?_
   | refine VwL.cons ?_ ?_
   | refine VwL.nil
   | (refine Req.mk ?_ ?_;(focus first | rfl | decide | exact ⟨rfl,rfl⟩ | exact ⟨rfl,by decide⟩ | exact (fun _=>rfl) | exact (fun h=>nomatch h) | (simp;done) | omega | (simp [big];done) | exact le_big (by omega) | exact lt_big (by omega))))
  all_goals first | rfl | exact Vw.nil | (exfalso;omega;done)
 | false =>
  have h2:outB y 0 (((W * H:Nat):Int) - 1)=true:=by
   rcases h with h | h
   ·rw [h1] at h;cases h
   ·exact h
  rw [h1] at k4
  rw [h2] at k5
  repeat' (first
 | (conv=>whnf)
   first
   | refine Bnd.eq hlw ?_
   | refine Bnd.eq hpw ?_
   | refine Br.t ?_
   | refine Br.f ?_
   | refine Get.mk _ b2 ?_
   | refine Req.mk hn0 ?_
   | refine call_fun rfl rfl k1 (.inl rfl) ?_
   | refine call_fun rfl rfl k4 (.inl rfl) ?_
   | refine call_fun rfl rfl k5 (.inl rfl) ?_
   | (refine Idx.int ?_ ?_ ?_;(focus omega);(focus omega))
   | refine Get.mk _ rfl ?_
   | refine Leaves.of ?_
   | refine Vw.int ?_
   | refine Vw.nil
   | refine Vw.tup ?_
   | refine Vw.agg ?_
   | refine VwL.cons ?_ ?_
   | refine VwL.nil
   | (refine Req.mk ?_ ?_;(focus first | rfl | decide | exact ⟨rfl,rfl⟩ | exact ⟨rfl,by decide⟩ | exact (fun _=>rfl) | exact (fun h=>nomatch h) | (simp;done) | omega | (simp [big];done) | exact le_big (by omega) | exact lt_big (by omega))))
  all_goals first | rfl | exact Vw.nil | (exfalso;omega;done)
structure RH (n:Nat) (cs:List V) (v:V) (G:List B):Prop where
 cl:Cl G
 le:2≤G.length
 b0:bget G 0=some (.blk [.int .i64 0,.int .i64 0] false)
 fv:(n=1∧v = .sl true 1 cs)∨∃ q,1≤q∧v = .ms 1 q n 0 n false∧bget G q=some (.blk cs false)
section
variable {n:Nat} {cs:List V} {v:V} {G:List B}
theorem RH.norm {mk:List Bool} {tm:List V} {m j q:Nat} (e:RH n cs (.ms 1 q n 0 n false) G) (hm:2≤m) (hm2:m≤G.length) (hv:tg (masked mk tm) j = .ms 1 q n 0 n false):RH n cs (.ms 1 q n 0 n false) (norm mk m ⟨tm,G⟩).h:=by
 rcases e.fv with ⟨_,h⟩ | ⟨q', q1,h,q3⟩
 ·cases h
 cases h
 refine ⟨norm_cl hm2 e.cl,Nat.le_trans hm (norm_len (s:=⟨tm,G⟩) hm2),?_,.inr ⟨q,q1,rfl,norm_keep (i:=j) hm2 (fun k hk=>by rw [hv] at hk;exact of_decide_eq_true hk) q3⟩⟩
 obtain ⟨k,h1,h2,_,_⟩:=norm_cut (mk:=mk) (tm:=tm) hm2 e.cl
 rw [h2, ]
 show bget (G.take k) 0=_
 rw [bget_take (by omega)]
 exact e.b0
theorem RH.first {x y:V} (e:RH 1 [x] v G) (hx:∀ k,x.blo k=true) (hy:∀ k,y.blo k=true):RH 2 [x,y] (.ms 1 (G.length+1) 2 0 2 false) (G++[.unborn,.blk [x,y] false]):=by
 have hb:∀ k,(B.blk [x,y] false).blo k=true:=fun k=>by simp [B.blo,blos,hx,hy]
 refine ⟨cl_asc e.cl ⟨rfl,hb _,trivial⟩,by rw [List.length_append];have:=e.le;omega,bget_app e.b0,.inr ⟨G.length+1,by omega,rfl,bget_new (i:=1)⟩⟩
theorem RH.more {y:V} {q:Nat} {X:List B} (e:RH n cs (.ms 1 q n 0 n false) G) (hc:∀ k,blos k (cs++[y])=true) (hX:hasc G.length X):RH (n+1) (cs++[y]) (.ms 1 q (n+1) 0 (n+1) false) (bset (G++X) q (.blk (cs++[y]) false)):=by
 have hl:=e.le
 rcases e.fv with ⟨_,h⟩ | ⟨q', q1,h,q3⟩
 ·cases h
 cases h
 have hq:=bget_lt q3
 exact ⟨(cl_asc e.cl hX).set (by show (false || blos _ _)=true;rw [Bool.false_or];exact hc _),by rw [bset_len,List.length_append];omega,by rw [bset_other (by omega)];exact bget_app e.b0,.inr ⟨q,q1,rfl,bget_same (by rw [List.length_append];omega)⟩⟩
end
def BV (r:Nat) (G:List B) (L:List Int) (v:V):Prop:=(L=[]∧v = .nilsl)∨(∃ j:Int,L=[j]∧v = .sl true 1 [.int .i64 j])∨∃ t,1≤t∧t≠r∧2≤L.length∧v = .ms 1 t L.length 0 L.length false∧bget G t=some (.blk (ofInts L) true)
theorem BV.norm {r:Nat} {G:List B} {L:List Int} {v:V} {mk:List Bool} {tm:List V} {m j:Nat} (e:BV r G L v) (hm:m≤G.length) (hv:tg (masked mk tm) j=v):BV r (norm mk m ⟨tm,G⟩).h L v:=by
 rcases e with h | h | ⟨t,t1,t2,t3,rfl,t5⟩
 ·exact .inl h
 ·exact .inr (.inl h)
 ·exact .inr (.inr ⟨t,t1,t2,t3,rfl,norm_keep (i:=j) hm (fun k hk=>by rw [hv] at hk;exact of_decide_eq_true hk) t5⟩)
theorem BV.app {r:Nat} {G X:List B} {L:List Int} {v:V} (e:BV r G L v):BV r (G++X) L v:=by
 rcases e with h | h | ⟨t,t1,t2,t3,rfl,t5⟩
 ·exact .inl h
 ·exact .inr (.inl h)
 ·exact .inr (.inr ⟨t,t1,t2,t3,rfl,bget_app t5⟩)
theorem BV.vw {r:Nat} {G:List B} {L:List Int} {v:V} {d:Nat} (e:BV r G L v):∃ c:Bool,Vw G (d+1+1) v (.sl c L.length (ofInts L)):=by
 rcases e with ⟨rfl,rfl⟩ | ⟨j,rfl,rfl⟩ | ⟨t,t1,t2,t3,rfl,t5⟩
 ·exact ⟨true,Vw.nil⟩
 ·exact ⟨true,Vw.sl⟩
 ·exact ⟨false,VwF.vw (VwF.ms t5 (by simp [ofInts]) (part_all (by simp [ofInts])) (VwLF.ints L))⟩
end Go.Dr.T
