/- Top, of chapter 08: Voted as a known function, whose list lies in a block of its own; the table with it. -/
import Derived.Test.YtbnmdlnkhghbpaaGreatDoorR19Vc
import Derived.Test.YtbnmdlnkhghbpaaGreatDoorG15
import Derived.Test.YtbnmdlnkhghbpaaGreatDoorDrF
namespace Go.Dr.T
def vtOf:List V→Option (List Vt)
 | []=>some []
 | .str w::.int .i64 s::.bool b::r=>(vtOf r).map (⟨w,s,b⟩ :: ·)
 | _=>none
theorem Qr4:∀ l,vtOf (vtC l)=some l
 | []=>rfl
 | v::l=>by simp only [vtC,vtOf,Qr4 l];rfl
theorem Qjv:∀ {cs:List V} {l:List Vt},vtOf cs=some l→cs=vtC l
 | [],l,h=>by cases h;rfl
 | [_],l,h=>by cases ‹V› <;> simp [vtOf] at h
 | [_,_],l,h=>by
  unfold vtOf at h
  split at h
  ·rename_i e;cases e
  ·rename_i e;cases e
  ·cases h
 | a::b::c::r,l,h=>by
  unfold vtOf at h
  split at h
  ·rename_i e;cases e
  ·rename_i w s b r' e
   cases e
   obtain ⟨l',h1,rfl⟩:=map_some h
   rw [Qjv h1]
   rfl
  ·cases h
def voV (A:List Int) (e:Int):V:=.tup [if A=[] then .sl true 0 [] else .ms 1 0 A.length 0 A.length false,.int .i64 e]
def voH (A:List Int):List B:=if A=[] then [] else [.blk (Q00 A) true]
def votG (_:Nat) (as:List V) (h:List B):Option (V × List B) :=
 match h with
 | []=>match as with
  | [.int .i64 n,.sl _ m cs,.int .i64 need]=>match vtOf cs with
   | some l=>if l.length=m then some (voV (votA n l need) (votE n l need),voH (votA n l need)) else none
   | none=>none
  | _=>none
 | _=>none
theorem Qsj {ro:Nat} {n need:Int} {c:Bool} {l:List Vt}:votG ro [.int .i64 n,.sl c l.length (vtC l),.int .i64 need] []=some (voV (votA n l need) (votE n l need),voH (votA n l need)):=by
 simp only [votG,Qr4,if_true]
theorem Qjy {ro:Nat} {as:List V} {h h':List B} {v:V} (e:votG ro as h=some (v,h')):h=[]∧∃ n need c l,as=[.int .i64 n,.sl c l.length (vtC l),.int .i64 need]∧v=voV (votA n l need) (votE n l need)∧h'=voH (votA n l need):=by
 unfold votG at e
 split at e
 ·split at e
  ·rename_i n c m cs need
   split at e
   ·rename_i l hl
    split at e
    ·rename_i hm
     simp only [jA,jN] at e
     exact ⟨rfl,n,need,c,l,by rw [Qjv hl,hm],e.1.symm,e.2.symm⟩
    ·cases e
   ·cases e
  ·cases e
 ·cases e
theorem Qo9 {k k2:K}:∀ {l:List Int} {xs:List Value},RL k (Q00 l) xs→RL k2 (Q00 l) xs
 | [],xs,h=>by simp only [Q00,List.map_nil,RL] at h ⊢;exact h
 | a::l,xs,h=>by
  simp only [Q00,List.map_cons,RL] at h ⊢
  obtain ⟨x,r,rfl,h1,h2⟩:=h
  refine ⟨x,r,rfl,?_,?_⟩
  ·simp only [R] at h1 ⊢;exact h1
  ·have:=Qo9 (k:=k) (k2:=k2) (l:=l) (xs:=r) (by simpa only [Q00] using h2)
   simpa only [Q00] using this
theorem Qpc (l:List Int) (n:Nat):(Q00 l).drop n=Q00 (l.drop n):=by simp [Q00,List.map_drop]
theorem kn_vot {P:Program} [GT P] (hF:Q1h P FB) {fn:Func} (hf:P.funcs[21]?=some fn) (hfc:Q9f P fn=some c21):KnOk P 21 3 votG:=by
 intro ro k as xs v h' gk ha hlen hgk Q hQ
 obtain ⟨hh,n,need,c,l,rfl,rfl,rfl⟩:=Qjy hgk
 have hw:=Qi5 (c:=c) (n:=n) (need:=need) (l:=l) c21 rfl
 generalize votA n l need=A at *
 generalize votE n l need=e at *
 have hl0:k.h.length=0:=by rw [hh];rfl
 refine Qhq (ro:=0) hF hf hfc gk ha hlen (Q:=VEnds c21.res A e) (by rw [hh];exact hw) ?_
 rintro x s ⟨h1,h2⟩
 rcases h2 with ⟨hA,h2⟩|⟨hA,id,h2,h3⟩
 ·refine ⟨h1,_,h2,fun y k1 hk1 g1 e1 hy=>?_⟩
  have hv:V.view k1.h depth (.tup [.nilsl,.int .i64 e])=some (.tup [.sl true 0 [],.int .i64 e]):=rfl
  obtain ⟨q1,q2,q3⟩:=Qdq gk hh g1 e1 hv hy
  have:=hQ y { k with w:=k1.w } (by rw [voH,if_pos hA];exact hh) q1 (q2 ro) (by rw [voV,if_pos hA];exact q3)
  exact this
 ·refine ⟨h1,_,h2,fun y k1 hk1 g1 e1 hy=>?_⟩
  have hb:bget k1.h id=some (.blk (Q00 A) true):=by rw [hk1];exact h3
  obtain ⟨b1,b2,b3,b4,ys,rest,T,b5,b6⟩:=g1.blk id _ _ hb
  let k2:K:={ n0:=k1.n0,A:=k1.A,h:=[.blk (Q00 A) true],β:=fun _=>k1.β id,w:=k1.w }
  have hg0:∀ i b,bget k2.h i=some b→i=0∧b=.blk (Q00 A) true:=fun i b h=>by
   cases i with
   | zero=>exact ⟨rfl,(Option.some.inj h).symm⟩
   | succ i=>cases h
  have hlv:∀ i,live k2.h i→i=0:=fun i ⟨b,hb,_⟩=>(hg0 i b hb).1
  have g2:Good P k2:=by
   refine ⟨g1.size,fun i c dat h=>?_,fun i r p tm ps a b h=>?_,fun i j hi hj _=>?_,fun i b h ho=>?_,g1.tab⟩
   ·obtain ⟨_,e⟩:=hg0 i _ h
    cases e
    refine ⟨b1,b2,b3,b4,ys,rest,T,b5,?_⟩
    rw [Qpc] at b6 ⊢
    exact Qo9 b6
   ·cases (hg0 i _ h).2
   ·rw [hlv i hi,hlv j hj]
   ·obtain ⟨_,e⟩:=hg0 i _ h
    subst e
    cases ho
  have hok:∀ b,k1.ok b→k2.ok b:=fun b hb0=>by
   rcases hb0 with h|⟨h,hn⟩
   ·exact .inl h
   ·refine .inr ⟨h,fun ⟨i,hi,he⟩=>hn ⟨id,Q0i hb,he⟩⟩
  have e2:Ev ro k.h.length k k2:=by
   refine ⟨e1.n0,e1.A,e1.low,fun b hb0 hlt=>?_,fun i hi=>?_,fun i hi=>?_,fun i _ hi=>?_,fun i _ hi=>?_,fun i hi=>?_⟩
   ·have:=e1.prot b hb0 hlt
    exact ⟨hok b this.1,this.2⟩
   all_goals (rw [hl0] at hi;exact absurd hi (Nat.not_lt_zero i))
  have hr:R k2 (voV A e) y:=by
   rw [voV,if_neg hA]
   simp only [R,RL] at hy ⊢
   obtain ⟨vs,rfl,x1,r1,rfl,hm,x2,r2,rfl,hx2,hx3⟩:=hy
   refine ⟨_,rfl,x1,_,rfl,?_,x2,r2,rfl,hx2,hx3⟩
   obtain ⟨b,o',cap,c,dat,rfl,c1,c2,c3,c4,c5⟩:=hm
   rw [hb] at c1
   cases c1
   exact ⟨b,o',cap,Q00 A,true,rfl,rfl,c2,c3,c4,c5⟩
  have:=hQ y k2 (by rw [voH,if_neg hA]) g2 e2 hr
  exact this
noncomputable def FB1:Nat→Option Fc
 | 21=>some (knFc 3 21 votG)
 | 12=>some (knFc 1 12 (Q13 T6.gatG))
 | 53=>some (knFc 1 53 (Q13 T6.srtdG))
 | n=>FB n
theorem sub1:Sub' FB FB1:=by
 intro f fc h
 unfold FB1
 split
 ·cases h
 ·cases h
 ·cases h
 ·exact h
def liV (A:List Int):V:=.sl (decide (A=[])) A.length (Q00 A)
theorem Qog (A:List Int) (e:Int):VwF (voH A) depth (voV A e) (.tup [liV A,.int .i64 e]):=by
 unfold voH voV liV
 cases A with
 | nil =>
  rw [if_pos rfl,if_pos rfl]
  exact VwF.tup (d:=63) (VwLF.cons ⟨rfl,rfl⟩ (VwLF.cons (VwF.int rfl) VwLF.nil))
 | cons x l =>
  rw [if_neg (by simp),if_neg (by simp)]
  have hl:(Q00 (x::l)).length=(x::l).length:=by simp [Q00]
  have hi:∀ {d:Nat} (L:List Int),VwLF [B.blk (Q00 (x::l)) true] (d+1) (Q00 L) (Q00 L):=fun {d} L=>by
   induction L with
   | nil=>exact VwLF.nil
   | cons y L ih=>exact VwLF.cons (VwF.int rfl) ih
  have hv:VwF [B.blk (Q00 (x::l)) true] 63 (.ms 1 0 (x::l).length 0 (x::l).length false) (.sl false (x::l).length (Q00 (x::l))):=VwF.ms (d:=62) rfl hl (Q0y (by rw [hl,Nat.mul_one])) (hi _)
  exact VwF.tup (d:=63) (VwLF.cons hv (VwLF.cons (VwF.int rfl) VwLF.nil))
theorem Qi6 {c:Bool} {n need:Int} {l:List Vt}:FunF FB1 md 21 [.int .i64 n,.sl c l.length (vtC l),.int .i64 need] (.tup [liV (votA n l need),.int .i64 (votE n l need)]):=by
 have hv:=Qog (votA n l need) (votE n l need)
 refine ⟨knFc 3 21 votG,rfl,rfl,1,.ret,⟨[voV (votA n l need) (votE n l need)],voH (votA n l need)⟩,voV (votA n l need) (votE n l need),fun m hm=>?_,.inr rfl,rfl,hv.1,hv.2⟩
 cases m with
 | zero=>omega
 | succ m =>
  show run FB1 md (m+1) 0 (.kn 3 21) _=_
  have hF:FB1 21=some (knFc 3 21 votG):=rfl
  simp only [run,hF]
  show (match some votG with
   | none=>none
   | some g=>match g 0 (([V.int .i64 n,.sl c l.length (vtC l),.int .i64 need]++Q1a ((knFc 3 21 votG).ntm-(knFc 3 21 votG).np)).take 3) [] with
    | none=>none
    | some (v,h)=>some (X.ret,(⟨[v],h⟩:St)))=_
  have e:([V.int .i64 n,.sl c l.length (vtC l),.int .i64 need]++Q1a ((knFc 3 21 votG).ntm-(knFc 3 21 votG).np)).take 3=[.int .i64 n,.sl c l.length (vtC l),.int .i64 need]:=rfl
  rw [e]
  simp only [Qsj]
theorem FunF.fun {F:Nat→Option Fc} {md:Nat→Nat} {f:Nat} {as:List V} {v:V} (h:FunF F md f as v):Fun F md f as v:=by
 obtain ⟨fc,h1,h2,n,x,st,v0,h3,h4,h5,h6,_⟩:=h
 exact ⟨fc,h1,h2,n,x,st,v0,h3,h4,h5,h6⟩
end Go.Dr.T
namespace Go.Dr.T6
open Go.Dr.T
theorem Qix {c:Bool} {l:List El} (hv:V.view [] depth (Q1l l)=some (Q1l l)):Fun FB1 md 12 [elsV c l] (Q1l l):=Qcz rfl rfl Qu7 hv
theorem Qsk {h:List B} {d:Nat} (c:Bool) (l:List Int):V.view h (d+1) (lw c l)=some (lw c l):=by cases l<;>rfl
theorem Qid {ks:List Int} {vs:List V} (h:ks.length≤1000000):Fun FB1 md 53 [.rm (Q00 ks) vs] (lw false (Q0k ks)):=Qcz rfl rfl (Qos h) (Qsk _ _)
def wayV:Option (List Int)→V
 | none=>.tup [.sl true 0 [],.bool false]
 | some l=>.tup [.sl false l.length (Q00 l),.bool true]
def Qo4:Option (List Int)→V
 | none=>.nilsl
 | some l=>.sl false l.length (Q00 l)
def Qcf (w:Int→Option (List Int)) (b:Option (List Int)) (k:Int):Option (List Int) :=
 match w k with
 | none=>b
 | some l=>match b with
  | none=>some l
  | some x=>if l.length<x.length then some l else some x
def Q3x (w:Int→Option (List Int)) (S:List Int):Option (List Int):=S.foldl (Qcf w) none
theorem Qii {w:Int→Option (List Int)} {S:List Int} {i:Nat} {k:Int} (h:S[i]?=some k):Q3x w (S.take (i+1))=Qcf w (Q3x w (S.take i)) k:=by
 have:S.take (i+1)=S.take i++[k]:=by rw [List.take_add_one,h];rfl
 rw [this,Q3x,List.foldl_append];rfl
theorem Qas {w:Int→Option (List Int)} (hne:∀ k,w k≠some []):∀ (S:List Int) (b:Option (List Int)),b≠some []→S.foldl (Qcf w) b≠some []
 | [],b,h=>h
 | k::S,b,h=>by
  refine Qas hne S _ ?_
  unfold Qcf
  have:=hne k
  split
  ·exact h
  ·rename_i l hl
   split
   ·rw [hl] at this;exact this
   ·split
    ·rw [hl] at this;exact this
    ·exact h
theorem fB.if0 {h g:List B} {K:List B→Prop} (hk:K h):fB (if 0=0 then h else g) K:=fB.mk (by rw [if_pos rfl];exact hk)
theorem lw_sl (l:List Int):∃ c,lw false l=.sl c l.length (Q00 l):=by cases l<;>exact ⟨_,rfl⟩
set_option maxRecDepth 100000 in
set_option maxHeartbeats 20000000 in
theorem Qij {D:List PE} {w:Int→Option (List Int)} {h:List B} {ro:Nat} {K:V→List B→Prop} (hn:D.length≤1000000) (hw:∀ k∈D.map (·.k),Fun FB1 md 54 [gatV D,.int .i64 k,.int .i64 k,.int .i64 k] (wayV (w k))) (hne:∀ k,w k≠some [])
  (hk:K (Qo4 (Q3x w (Q0k (D.map (·.k))))) h):CallP FB1 md ro (.fn 14 []) [gatV D] h K:=by
 have hkl:(D.map (·.k)).length≤1000000:=by simpa using hn
 have hso:=Qid (vs:=D.map PE.v) hkl
 have hmem:∀ k∈Q0k (D.map (·.k)),k∈D.map (·.k):=fun k hk=>(Q11 _).mem_iff.1 hk
 have hlen:(Q0k (D.map (·.k))).length≤1000000:=by rw [Q21];exact hkl
 generalize Q0k (D.map (·.k))=S at *
 obtain ⟨c,hc⟩:=lw_sl S
 rw [hc] at hso
 refine Q16 rfl rfl rfl ?_
 repeat' ((conv=>whnf);first|refine fLen.mk ?_|refine fB.if0 ?_|refine zC hso ?_)
 refine LoopP.by (fun i:Nat=>i≤S.length) (fun i=>[(2,Qo4 (Q3x w (S.take i))),(10,.int .i64 (i:Nat))]) (fun _=>h) (fun i=>S.length-i) 0 (Nat.zero_le _) rfl ?_
 rintro i hi
 dsimp only
 have hbn:Q3x w (S.take i)≠some []:=Qas hne _ _ (by simp)
 have hT:∀ tm,norm (Q4t tm) h.length ⟨tm,h⟩=⟨Q0m (Q4t tm) tm,h⟩:=fun tm=>Q2w rfl
 by_cases hi':i<S.length
 rotate_left
 ·obtain rfl:i=S.length:=by omega
  rw [List.take_length]
  rw [List.take_length] at hbn
  generalize hb:Q3x w S=b at *
  cases b
  all_goals
   repeat' ((conv=>whnf);first|refine zF ?_|refine fLen.mk ?_|refine fB.if0 ?_|refine fB.mk ?_|refine Get.mk _ rfl ?_|refine Ends.of ?_)
  all_goals (show K _ (trunc h.length _ h);rw [Q28 rfl];exact hk)
 obtain ⟨k,hk',hc⟩:=Q15 hi'
 have hwk:=hw k (hmem k (jE hk'))
 have hnk:=hne k
 have hsn:=Qii (w:=w) hk'
 unfold Qcf at hsn
 generalize hb:Q3x w (S.take i)=b at *
 generalize hx:w k=x at *
 cases x with
 | none =>
  dsimp only at hsn
  repeat' ((conv=>whnf);first|refine Br.f ?_|refine zT ?_|refine zB ?_|refine fLen.mk ?_|refine fB.if0 ?_|refine fB.mk ?_|refine Get.mk _ hc ?_|refine zC hwk ?_|refine zN ?_|refine Get.mk _ rfl ?_|refine zR ?_)
  refine NextP.mk (i+1) hi' (by omega) ?_
  rw [hsn]
  exact Q2w rfl
 | some l =>
  obtain ⟨y,r,rfl⟩:∃ y r,l=y::r:=by
   cases l with
   | nil=>exact absurd rfl hnk
   | cons y r=>exact ⟨y,r,rfl⟩
  cases b with
  | none =>
   dsimp only at hsn
   repeat' ((conv=>whnf);first|refine Br.t ?_|refine zT ?_|refine zB ?_|refine fLen.mk ?_|refine fB.if0 ?_|refine fB.mk ?_|refine Get.mk _ hc ?_|refine zC hwk ?_|refine zN ?_|refine Get.mk _ rfl ?_|refine zR ?_)
   refine NextP.mk (i+1) hi' (by omega) ?_
   rw [hsn]
   exact Q2w rfl
  | some z =>
   obtain ⟨y',r',rfl⟩:∃ y r,z=y::r:=by
    cases z with
    | nil=>exact absurd rfl hbn
    | cons y r=>exact ⟨y,r,rfl⟩
   dsimp only at hsn
   by_cases hlt:(y::r).length<(y'::r').length
   ·rw [if_pos hlt] at hsn
    repeat' ((conv=>whnf);first|refine Br.t ?_|refine Br.f ?_|refine zT ?_|refine zB ?_|refine fLen.mk ?_|refine fB.if0 ?_|refine fB.mk ?_|refine Get.mk _ hc ?_|refine zC hwk ?_|refine zN ?_|refine Get.mk _ rfl ?_|refine zR ?_)
    refine NextP.mk (i+1) hi' (by omega) ?_
    rw [hsn]
    exact Q2w rfl
   ·rw [if_neg hlt] at hsn
    repeat' ((conv=>whnf);first|refine Br.t ?_|refine Br.f ?_|refine zT ?_|refine zF ?_|refine zB ?_|refine fLen.mk ?_|refine fB.if0 ?_|refine fB.mk ?_|refine Get.mk _ hc ?_|refine zC hwk ?_|refine zN ?_|refine Get.mk _ rfl ?_|refine zR ?_)
    refine NextP.mk (i+1) hi' (by omega) ?_
    rw [hsn]
    exact Q2w rfl
end Go.Dr.T6
namespace Go.Dr.T6
open Go.Dr.T
def pM (D:List PE) (o:Int):List Int:=match D.find? (fun e=>decide (e.k=o)) with
 | some e=>e.L
 | none=>[]
theorem Qmj {a b:List Int} (h:a.Perm b) (k:Int):hasB k a=hasB k b:=by
 simp only [hasB];rw [decide_eq_decide];exact h.mem_iff
theorem Ql8 {D:List PE} (nd:(D.map (·.k)).Nodup) {o:Int} (h:o∈D.map (·.k)):∃ i e,e∈D∧Q0w 0 (.int .i64 o) (Q00 (D.map (·.k))) 0=some (some i)∧tg (D.map PE.v) i=e.v∧pM D o=e.L:=by
 obtain ⟨j,h1,h2,h3⟩:=Q39 (i:=0) h
 rw [Nat.zero_add] at h3
 have h1':j<D.length:=by simpa using h1
 have hk:D[j].k=o:=by simpa [jC h1'] using h2
 refine ⟨j,D[j],List.getElem_mem _,h3,Q7p (by simp [h1']),?_⟩
 unfold pM
 have:D.find? (fun e=>decide (e.k=o))=some D[j]:=by
  have hs:(D.find? (fun e=>decide (e.k=o))).isSome:=by
   rw [List.find?_isSome];exact ⟨D[j],List.getElem_mem _,by simp [hk]⟩
  obtain ⟨e,he⟩:=Option.isSome_iff_exists.1 hs
  have hp:=List.find?_some he
  simp only [jG] at hp
  obtain ⟨i,hi⟩:=List.getElem?_of_mem (List.mem_of_find?_eq_some he)
  have hij:i=j:=by
   refine (List.getElem?_inj (l:=D.map (·.k)) (i:=i) (j:=j) ?_ nd).1 ?_
   ·simpa using (jB.1 hi).1
   ·rw [jH,jH,hi,jC h1',Option.map_some,Option.map_some,hp,hk]
  subst hij
  rw [he,← hi,jC h1']
 rw [this]
def Qsq (n:Nat):List V:=List.replicate n (.bool true)
theorem Q97 (n:Nat):∀ l:List Int,blos n (Q00 l)=true
 | []=>rfl
 | _::l=>by have:=Q97 n l;simp only [Q00,List.map_cons,blos,V.blo,Bool.true_and] at this ⊢;exact this
theorem Qdl (n:Nat):∀ k,blos n (Qsq k)=true
 | 0=>rfl
 | k+1=>by have:=Qdl n k;simp only [Qsq,List.replicate_succ,blos,V.blo,Bool.true_and] at this ⊢;exact this
def mqL (st:List Nat) (n:Nat) (L:List Int):B:=.mq st n (Q00 L) (Qsq L.length)
theorem Qej (n:Nat) (st:List Nat) (m:Nat) (L:List Int):(mqL st m L).blo n=true:=by simp only [mqL,B.blo,Q97,Qdl,Bool.and_self]
theorem Qgv {m:List Bool} {hl:Nat} {st:St} {tm:List V} {h1 h:List B} (e1:Q0m m st.tm=tm) (e2:st.h.length=hl+2) (e5:st.h.take (hl+1)=h1) (e6:h1.take hl=h) (e3:blos hl tm=true) (e7:blos (hl+1) tm=true) (e8:Q0a (hl+1) h1=true) (e4:Q0a hl h=true):norm m hl st=⟨tm,h⟩:=by
 unfold norm trunc
 rw [e1,e2,Nat.add_sub_cancel_left]
 unfold Q1k
 simp only [e5,e7,e8,Bool.and_self,if_true]
 unfold Q1k
 simp only [Nat.add_zero,e6,e3,e4,Bool.and_self,if_true,Q1k]
theorem Q87 {m:List Bool} {hl:Nat} {st:St} {tm:List V} {h:List B} (h1:Q0m m st.tm=tm) (h2:st.h.length=hl+1) (h5:st.h.take hl=h) (h3:blos hl tm=true) (h4:Q0a hl h=true):norm m hl st=⟨tm,h⟩:=by
 unfold norm trunc
 rw [h1,h2,Nat.add_sub_cancel_left]
 unfold Q1k
 simp only [Nat.add_zero,h5,h3,h4,Bool.and_self,if_true,Q1k]
theorem fVg {l l':List V} {K:List V→Prop} (e:l=l') (h:K l'):fV l K:=fV.mk (e▸h)
theorem pe_sl (e:PE):∃ c,e.v=.sl c (Q0k e.L).length (Q00 (Q0k e.L)):=by
 unfold PE.v
 cases Q0k e.L<;>exact ⟨_,rfl⟩
theorem hb2 {m n:Nat} {st seen:List Nat} {L:List Int} {ks vs:List V}:Q0a m [mqL st n L,.ir ks vs seen]=true:=by
 simp only [Q0a];rw [Qej];simp [B.blo]
theorem hb4 {m n:Nat} {st seen sn:List Nat} {L:List Int} {ks vs c:List V}:Q0a (m+1) [mqL st n L,.ir ks vs seen,.it 0 n n sn,.blk c true]=true:=by
 simp only [Q0a];rw [Qej];simp [B.blo]
theorem hb5 {m n:Nat} {st seen sn sn2:List Nat} {L:List Int} {ks vs c:List V}:Q0a (m+1) [mqL st n L,.ir ks vs seen,.it 0 n n sn,.blk c true,.it 0 n n sn2]=true:=by
 simp only [Q0a];rw [Qej];simp [B.blo]
end Go.Dr.T6
