/- Top, of chapter 06: the program's Version, walked. -/
import Derived.Test.YtbnmdlnkhghbpaaGreatDoorG23
import Derived.Test.YtbnmdlnkhghbpaaGreatDoorG17
import Derived.Test.YtbnmdlnkhghbpaaGreatDoorR19M0
import Derived.Test.YtbnmdlnkhghbpaaGreatDoorG25
set_option maxRecDepth 100000
set_option maxHeartbeats 20000000
namespace Go.Dr.T6
open Go.Dr.T
theorem Qld {m:List Bool} {hl k:Nat} {st:St} {tm:List V} (e1:Q0m m st.tm=tm) (e2:st.h.length=hl+(k+1)) (c:blos (hl+k) tm=false):norm m hl st=⟨tm,st.h⟩:=by
 unfold norm trunc
 rw [e1,e2,Nat.add_sub_cancel_left]
 unfold Q1k
 simp only [c,Bool.false_and]
 rfl
theorem Qtg {m:List Bool} {hl k:Nat} {st:St} {tm:List V} {h1:List B} (e1:Q0m m st.tm=tm) (e2:st.h.length=hl+(k+2)) (a:st.h.take (hl+(k+1))=h1) (c3:blos (hl+(k+1)) tm=true) (d3:Q0a (hl+(k+1)) h1=true) (c:blos (hl+k) tm=false):norm m hl st=⟨tm,h1⟩:=by
 unfold norm trunc
 rw [e1,e2,Nat.add_sub_cancel_left]
 unfold Q1k
 simp only [a,c3,d3,Bool.and_self,if_true]
 unfold Q1k
 simp only [c,Bool.false_and]
 rfl
theorem Qtf {m:List Bool} {hl k:Nat} {st:St} {tm:List V} {h1 h2:List B} (e1:Q0m m st.tm=tm) (e2:st.h.length=hl+(k+3)) (a2:st.h.take (hl+(k+2))=h2) (a:h2.take (hl+(k+1))=h1) (c2:blos (hl+(k+2)) tm=true) (d2:Q0a (hl+(k+2)) h2=true) (c3:blos (hl+(k+1)) tm=true) (d3:Q0a (hl+(k+1)) h1=true) (c:blos (hl+k) tm=false):norm m hl st=⟨tm,h1⟩:=by
 unfold norm trunc
 rw [e1,e2,Nat.add_sub_cancel_left]
 unfold Q1k
 simp only [a2,c2,d2,Bool.and_self,if_true]
 unfold Q1k
 simp only [a,c3,d3,Bool.and_self,if_true]
 unfold Q1k
 simp only [c,Bool.false_and]
 rfl
abbrev MS:=List (Int × Src)
def srcP (p:Int × Src):V:=srcA p.1 p.2
def mpB (M:MS):B:=.mp (Q00 (M.map (·.1))) (M.map srcP)
structure MpOk (M:MS) (sr:Int→Option Src):Prop where
 nd:(M.map (·.1)).Nodup
 is:∀ m s,(m,s)∈M↔sr m=some s
theorem Qhx (n:Nat):∀ M:MS,blos n (M.map srcP)=true
 | []=>rfl
 | p::M=>by
  have:=Qhx n M
  rw [List.map_cons,blos,this,Bool.and_true]
  rfl
theorem Q51 (n:Nat) (M:MS):(mpB M).blo n=true:=by
 simp only [mpB,B.blo,Q55,Qhx,Bool.and_self]
theorem MpOk.find {M:MS} {sr:Int→Option Src} (o:MpOk M sr) {m:Int} {s:Src} (h:sr m=some s):∃ j,M[j]?=some (m,s)∧Q0w 0 (.int .i64 m) (Q00 (M.map (·.1))) 0=some (some j)∧tg (M.map srcP) j=srcA m s:=by
 have hm:m∈M.map (·.1):=List.mem_map.2 ⟨(m,s),(o.is m s).2 h,rfl⟩
 obtain ⟨j,j1,j2,j3⟩:=Q39 (i:=0) hm
 rw [Nat.zero_add] at j3
 rw [jH,Option.map_eq_some_iff] at j2
 obtain ⟨⟨x,t⟩,h1,h2⟩:=j2
 dsimp only at h2
 subst h2
 have:=(o.is x t).1 (jE h1)
 rw [h,jA] at this
 subst this
 exact ⟨j,h1,j3,Q7p (by rw [jH,h1];rfl)⟩
theorem MpOk.not {M:MS} {sr:Int→Option Src} (o:MpOk M sr) {m:Int} (h:sr m=none):Q0w 0 (.int .i64 m) (Q00 (M.map (·.1))) 0=some none :=
 Q1b fun hm=>by
  obtain ⟨⟨x,t⟩,h1,h2⟩:=List.mem_map.1 hm
  dsimp only at h2
  subst h2
  have:=(o.is x t).1 h1
  rw [h] at this
  cases this
theorem MpOk.add {M:MS} {sr sr':Int→Option Src} (o:MpOk M sr) {m:Int} {s:Src} (h:sr m=none) (h':∀ x,sr' x=if x=m then some s else sr x):MpOk (M++[(m,s)]) sr':=by
 have hn:m∉M.map (·.1):=fun hm=>by
  obtain ⟨⟨x,t⟩,h1,h2⟩:=List.mem_map.1 hm
  dsimp only at h2
  subst h2
  have:=(o.is x t).1 h1
  rw [h] at this
  cases this
 refine ⟨by
  rw [List.map_append,List.nodup_append]
  exact ⟨o.nd,by simp,fun x hx y hy=>by
   simp at hy
   subst hy
   rintro rfl
   exact hn hx⟩,fun x t=>?_⟩
 rw [h',jK,o.is,jJ,jN]
 by_cases e:x=m
 ·subst e
  rw [if_pos rfl,h]
  constructor
  ·rintro (h|⟨_,h⟩)
   ·cases h
   ·rw [h]
  ·intro h
   cases h
   exact .inr ⟨rfl,rfl⟩
 ·rw [if_neg e]
  constructor
  ·rintro (h|⟨h,_⟩)
   ·exact h
   ·exact absurd h e
  ·exact .inl
theorem MpOk.set {M:MS} {sr sr':Int→Option Src} (o:MpOk M sr) {m:Int} {s t:Src} {j:Nat} (h:M[j]?=some (m,s)) (h':∀ x,sr' x=if x=m then some t else sr x):MpOk (M.set j (m,t)) sr'∧(M.set j (m,t)).map (·.1)=M.map (·.1):=by
 have hj:=(jB.1 h).1
 have hk:(M.set j (m,t)).map (·.1)=M.map (·.1):=by
  apply List.ext_getElem?
  intro i
  rw [jH,jH,List.getElem?_set]
  split
  ·rename_i e
   subst e
   rw [h]
   rfl
  ·rfl
 refine ⟨⟨by rw [hk];exact o.nd,fun x u=>?_⟩,hk⟩
 rw [h']
 have hlt:∀ (i:Nat) (v:Src),M[i]?=some (m,v)→i=j:=fun i v hi=>by
  have hil:=(jB.1 hi).1
  exact (List.getElem?_inj (i:=i) (j:=j) (by simpa using hil) o.nd).1 (by rw [jH,jH,hi,h];rfl)
 by_cases e:x=m
 ·subst e
  rw [if_pos rfl]
  constructor
  ·intro hm
   obtain ⟨i,hi⟩:=List.getElem?_of_mem hm
   rw [List.getElem?_set] at hi
   split at hi
   ·rename_i e2
    subst e2
    cases hi
    rfl
   ·rename_i e2
    exact absurd (hlt i u hi).symm e2
  ·intro hu
   cases hu
   exact jE (i:=j) (by rw [List.getElem?_set_self hj])
 ·rw [if_neg e,← o.is]
  constructor
  ·intro hm
   obtain ⟨i,hi⟩:=List.getElem?_of_mem hm
   rw [List.getElem?_set] at hi
   split at hi
   ·rename_i e2
    subst e2
    cases hi
    exact absurd rfl e
   ·exact jE hi
  ·intro hm
   obtain ⟨i,hi⟩:=List.getElem?_of_mem hm
   refine jE (i:=i) ?_
   rw [List.getElem?_set_ne (fun e2=>?_),hi]
   subst e2
   rw [h] at hi
   cases hi
   exact e rfl
structure VRA where
 n:Nat
 M:MS
def pgV (G:List T3):V:=match G with
 | []=>.nilsl
 | _::_=>.ms 3 2 (G.length*3) 0 G.length false
def pgH (mp:B) (G:List T3) (X:B):List B:=match G with
 | []=>[mp]
 | _::_=>[mp,X,.blk (trC G) true]
theorem Ql7 {G:List T3} (h:G≠[]) {mp X:B}:pgV G=.ms 3 2 (G.length*3) 0 G.length false∧pgH mp G X=[mp,X,.blk (trC G) true]:=by
 cases G with
 | nil=>exact absurd rfl h
 | cons x l=>exact ⟨rfl,rfl⟩
theorem Qp7 {G:List T3} {t:T3}:pgV (G++[t])=.ms 3 2 (G.length*3+3) 0 (G.length+1) false:=by
 have:=(Ql7 (G:=G++[t]) (by simp) (mp:=.unborn) (X:=.unborn)).1
 rw [this,jD,List.length_singleton,show (G.length+1)*3=G.length*3+3 by omega]
structure VRB where
 i:Nat
 X:B
theorem version_ok {c d:Bool} {l:List El} {s:List Int} (hsh:s.length≤9223372036854775807):FunF FB1 md 4 [elsV c l,.sl d s.length (Q00 s)] (verV l s):=by
 have hg:=Qix (c:=c) (l:=l) Qcy
 unfold Q1l at hg
 unfold verV
 by_cases hv:vldE l=0
 rotate_left
 ·rw [if_pos hv] at hg ⊢
  generalize vldE l=e at *
  refine Qb8 rfl rfl ?_
  repeat' ((conv=>whnf);first|refine zF ?_|refine Br.not ?_|refine Rn.seq ?_|refine Rn.block ?_|refine Rn.cond ?_|refine Rn.reg ?_|refine Rn.skip ?_|refine Rn.ret ?_|refine zC hg ?_|refine Get.mk _ rfl ?_|refine LeavesF.of ?_|refine VwF.int ?_|refine VwF.nil|refine VwF.tup ?_|refine VwLF.cons ?_ ?_|refine VwLF.nil)
  all_goals first|rfl|(exfalso;omega)
 rw [if_neg (fun h=>h hv)] at hg ⊢
 have hc:=(Qe6 (c:=d) hsh).tab sub1
 by_cases hs:scrE s=0
 rotate_left
 ·rw [if_pos hs]
  generalize scrE s=e at *
  refine Qb8 rfl rfl ?_
  repeat' ((conv=>whnf);first|refine Br.t ?_|refine zF ?_|refine Br.not ?_|refine Rn.seq ?_|refine Rn.block ?_|refine Rn.cond ?_|refine Rn.reg ?_|refine Rn.ret ?_|refine zC hg ?_|refine zC hc ?_|refine Get.mk _ rfl ?_|refine LeavesF.of ?_|refine VwF.int ?_|refine VwF.nil|refine VwF.tup ?_|refine VwLF.cons ?_ ?_|refine VwLF.nil)
  all_goals first|rfl|(exfalso;omega)
 rw [if_neg (fun h=>h hs)]
 rw [hs] at hc
 obtain ⟨hl60,hrg,hnd⟩:=scr_ok hs
 have w:=wg_all hv
 have hwl:=w.len
 have hne:rndP l≠some []:=Qas (fun k=>w.ne) _ _ (by simp)
 have hrn:=w.round
 rw [show Q3x (fun k=>wayP (pAll l) k k k) mks=rndP l from rfl] at hrn
 have hrc:∀ {h:List B} {ro:Nat} {K:V→List B→Prop},K (Qo4 (rndP l)) h→CallP FB1 md ro (.fn 14 []) [gatV (pAll l)] h K:=fun hk=>Qij (w:=fun k=>wayP (pAll l) k k k) (by omega) (fun k _=>w.funs) (fun k=>w.ne) (by rw [show (pAll l).map (·.k)=Q1c (pAll l) from rfl,hrn];exact hk)
 have h8:=(vld_good hv).1
 have hel:=fun x (hx:x∈l)=>vld_el hv hx
 have hsr:∀ m,SrOk (srcAll m l l.length):=fun m=>Qc9 hv _ (Nat.le_refl _)
 clear hrn w
 generalize pAll l=D at *
 generalize rndP l=r at *
 cases r with
 | some p =>
  have hpl:0<p.length:=List.length_pos_iff.2 fun e=>hne (by rw [e])
  dsimp only [Qo4] at hrc ⊢
  obtain ⟨y,r,rfl⟩:∃ y r,p=y::r:=by
   cases p with
   | nil=>simp at hpl
   | cons y r=>exact ⟨y,r,rfl⟩
  refine Qb8 rfl rfl ?_
  repeat' ((conv=>whnf);first|refine Br.t ?_|refine Br.f ?_|refine Rn.seq ?_|refine Rn.block ?_|refine Rn.cond ?_|refine Rn.reg ?_|refine Rn.ret ?_|refine zC hg ?_|refine zC hc ?_|refine hrc ?_|refine Get.mk _ rfl ?_|refine LeavesF.of ?_|refine VwF.int ?_|refine VwF.nil|refine VwF.tup ?_|refine VwLF.cons ?_ ?_|refine VwLF.nil)
  all_goals first|rfl|(exfalso;omega)
 | none =>
 dsimp only [Qo4] at hrc ⊢
 refine Qb8 rfl rfl ?_
 repeat' ((conv=>whnf);first|refine Br.t ?_|refine Br.f ?_|refine Rn.seq ?_|refine Rn.block ?_|refine Rn.cond ?_|refine Rn.reg ?_|refine Rn.skip ?_|refine zC hg ?_|refine zC hc ?_|refine hrc ?_|refine Get.mk _ rfl ?_)
 all_goals try (exfalso;omega)
 refine Rn.loop (fun a:VRA=>a.n≤l.length∧MpOk a.M (fun m=>srcAll m l a.n)) (fun a=>[(39,.int .i64 (a.n:Nat))]) (fun a=>[mpB a.M]) (fun a=>l.length-a.n) ⟨0,[]⟩ ⟨Nat.zero_le _,.nil,fun m s=>by simp [srcAll]⟩ rfl ?_
 rintro ⟨i,M⟩ ⟨w1,mo⟩
 dsimp only at w1 mo ⊢
 by_cases hi:i<l.length
 ·obtain ⟨x,hx⟩:∃ x,l[i]?=some x:=⟨_,jC hi⟩
  have gx:=Q7i hx
  have hxl:=hel x (jE hx)
  have hup:(fun m=>srcAll m l (i+1))=fun m=>Q41 m i x (srcAll m l i) x.l.length:=by
   funext m
   rw [srcAll,hx]
  repeat' ((conv=>whnf);first|refine zT ?_|refine Rn.seq ?_|refine Rn.block ?_|refine Rn.cond ?_|refine Rn.reg ?_|refine Rn.skip ?_|refine Get.mk _ gx ?_|refine zN ?_|refine Get.mk _ rfl ?_|refine zR ?_)
  all_goals try (exfalso;omega)
  refine Rn.loop (fun a:VRA=>a.n≤x.l.length∧MpOk a.M (fun m=>Q41 m i x (srcAll m l i) a.n)) (fun a=>[(47,.int .i64 (a.n:Nat))]) (fun a=>[mpB a.M,.blk [.str x.nm,.sl x.c x.l.length (shC x.l),.int .i64 x.g] false]) (fun a=>x.l.length-a.n) ⟨0,M⟩ ⟨Nat.zero_le _,mo⟩ rfl ?_
  rintro ⟨n,M2⟩ ⟨y1,mo2⟩
  dsimp only at y1 mo2 ⊢
  by_cases hn:n<x.l.length
  ·obtain ⟨p,hp⟩:∃ p,x.l[n]?=some p:=⟨_,jC hn⟩
   have gp:=Qap hp
   have hun:∀ m,Q41 m i x (srcAll m l i) (n+1)=if m=p.1 then srU (Q41 m i x (srcAll m l i) n) ⟨i,n,p.2,x.g⟩ else Q41 m i x (srcAll m l i) n:=fun m=>by
    rw [Q41,hp]
    dsimp only
    by_cases e:p.1=m
    ·rw [if_pos e,if_pos e.symm]
    ·rw [if_neg e,if_neg (fun h=>e h.symm)]
   have hbl:∀ (M':MS) (b2:B),b2.blo 3=true→Q0a 3 [mpB M',.blk [.str x.nm,.sl x.c x.l.length (shC x.l),.int .i64 x.g] false,b2]=true:=fun M' b2 h=>by
    simp only [Q0a,Q51,h]
    rfl
   have hbl2:∀ (M':MS),Q0a 2 [mpB M',.blk [.str x.nm,.sl x.c x.l.length (shC x.l),.int .i64 x.g] false]=true:=fun M'=>by
    simp only [Q0a,Q51]
    rfl
   cases ho:Q41 p.1 i x (srcAll p.1 l i) n with
   | none =>
    have hmn:=mo2.not (m:=p.1) ho
    have h77:=(Qdp (a:=0) (b:=0) (m:=p.1) (is:=false) (o:=⟨0,0,0,0⟩) (n:=⟨i,n,p.2,x.g⟩)).tab sub1
    rw [Bool.false_and,if_neg (by simp)] at h77
    have k1:Q00 (M2.map (·.1))++[V.int .i64 p.1]=Q00 ((M2++[(p.1,(⟨i,n,p.2,x.g⟩:Src))]).map (·.1)):=by simp [Q00]
    have k2:M2.map srcP++[srcA p.1 ⟨i,n,p.2,x.g⟩]=(M2++[(p.1,(⟨i,n,p.2,x.g⟩:Src))]).map srcP:=by rw [List.map_append];rfl
    have mo3:=mo2.add (sr':=fun m=>Q41 m i x (srcAll m l i) (n+1)) ho (fun m=>by
     rw [hun]
     split
     ·rename_i e
      rw [e,ho]
      rfl
     ·rfl)
    repeat' ((conv=>whnf);first|refine zT ?_|refine zB ?_|refine Rn.seq ?_|refine Rn.block ?_|refine Rn.cond ?_|refine Rn.reg ?_|refine Rn.skip ?_|refine Get.mk _ gp ?_|refine zC h77 ?_|refine Get.mk _ hmn ?_|refine fVf k1 ?_|refine fVf k2 ?_|refine zN ?_|refine Get.mk _ rfl ?_|refine zR ?_)
    all_goals try (exfalso;omega)
    all_goals exact NextP.mk ⟨n+1,M2++[(p.1,⟨i,n,p.2,x.g⟩)]⟩ ⟨hn,mo3⟩ (by (try dsimp only);omega) (Qgv rfl rfl rfl rfl rfl rfl (hbl _ _ rfl) (hbl2 _))
   | some o =>
    obtain ⟨j,hj,hmf,htg⟩:=mo2.find (m:=p.1) ho
    have h77:=(Qdp (a:=p.1) (b:=p.1) (m:=p.1) (is:=true) (o:=o) (n:=⟨i,n,p.2,x.g⟩)).tab sub1
    have e77:(if true && !wrs o ⟨i,n,p.2,x.g⟩ then srcA p.1 o else srcA p.1 ⟨i,n,p.2,x.g⟩)=srcA p.1 (if wrs o ⟨i,n,p.2,x.g⟩ then ⟨i,n,p.2,x.g⟩ else o):=by cases wrs o ⟨i,n,p.2,x.g⟩<;>rfl
    rw [e77] at h77
    have hsu:srU (some o) ⟨i,n,p.2,x.g⟩=some (if wrs o ⟨i,n,p.2,x.g⟩ then ⟨i,n,p.2,x.g⟩ else o):=by
     unfold srU
     dsimp only
     split<;>rfl
    generalize (if wrs o ⟨i,n,p.2,x.g⟩ then (⟨i,n,p.2,x.g⟩:Src) else o)=t at *
    obtain ⟨mo3,hkk⟩:=mo2.set (sr':=fun m=>Q41 m i x (srcAll m l i) (n+1)) (t:=t) hj (fun m=>by
     rw [hun]
     split
     ·rename_i e
      rw [e,ho,hsu]
     ·rfl)
    have k1:tset (M2.map srcP) j (srcA p.1 t)=(M2.set j (p.1,t)).map srcP:=by rw [Qk5,List.map_set];rfl
    have hmm:B.mp (Q00 (M2.map (·.1))) ((M2.set j (p.1,t)).map srcP)=mpB (M2.set j (p.1,t)):=by rw [mpB,hkk]
    repeat' ((conv=>whnf);first|refine zT ?_|refine zB ?_|refine Rn.seq ?_|refine Rn.block ?_|refine Rn.cond ?_|refine Rn.reg ?_|refine Rn.skip ?_|refine Get.mk _ gp ?_|refine zC h77 ?_|(refine Get.mk _ hmf ?_;refine fWe htg ?_)|refine Get.mk _ hmf ?_|refine fVf k1 ?_|refine zN ?_|refine Get.mk _ rfl ?_|refine zR ?_)
    all_goals try (exfalso;omega)
    all_goals rw [hmm]
    all_goals exact NextP.mk ⟨n+1,M2.set j (p.1,t)⟩ ⟨hn,mo3⟩ (by (try dsimp only);omega) (Qgv rfl rfl rfl rfl rfl rfl (hbl _ _ rfl) (hbl2 _))
  ·have hne2:n=x.l.length:=by omega
   subst hne2
   rw [← hup] at mo2
   repeat' ((conv=>whnf);first|refine zF ?_|refine zB ?_|refine Rn.seq ?_|refine Rn.cond ?_|refine Rn.reg ?_|refine Rn.exit ?_)
   all_goals first|(exfalso;omega)|exact NextP.mk ⟨i+1,M2⟩ ⟨hi,mo2⟩ (by (try dsimp only);omega) (Q87 rfl rfl rfl rfl (by simp only [Q0a,Q51];rfl))
 have hie:i=l.length:=by omega
 subst hie
 generalize hsre:(fun m=>srcAll m l l.length)=sr at *
 have hsr:∀ m,SrOk (sr m):=fun m=>by rw [← hsre];exact hsr m
 repeat' ((conv=>whnf);first|refine zF ?_|refine Rn.seq ?_|refine Rn.block ?_|refine Rn.cond ?_|refine Rn.reg ?_|refine Rn.exit ?_)
 all_goals try (exfalso;omega)
 refine Rn.loop (fun a:VRB=>a.i≤s.length∧∀ n,a.X.blo n=true) (fun a=>[(4,pgV (verF sr (s.take a.i)).1),(5,.int .i64 (verF sr (s.take a.i)).2),(81,.int .i64 (a.i:Nat))]) (fun a=>pgH (mpB M) (verF sr (s.take a.i)).1 a.X) (fun a=>s.length-a.i) ⟨0,.unborn⟩ ⟨Nat.zero_le _,fun n=>rfl⟩ rfl ?_
 rintro ⟨i,X⟩ ⟨w1,hX⟩
 dsimp only at w1 hX ⊢
 obtain ⟨b1,b2,b3⟩:=Qk1 hsr (s:=s) i w1
 by_cases hi:i<s.length
 rotate_left
 ·rw [List.take_of_length_le (by omega)] at b1 b2 b3 ⊢
  generalize verF sr s=st at *
  obtain ⟨G,sum⟩:=st
  dsimp only at *
  by_cases hG:G=[]
  ·subst hG
   dsimp only [pgV,pgH]
   repeat' ((conv=>whnf);first|refine zF ?_|refine Rn.seq ?_|refine Rn.cond ?_|refine Rn.reg ?_|refine Rn.exit ?_|refine Rn.ret ?_|refine Get.mk _ rfl ?_|refine LeavesF.of ?_|refine VwF.int ?_|refine VwF.nil|refine VwF.tup ?_|refine VwLF.cons ?_ ?_|refine VwLF.nil)
   all_goals first|rfl|(exfalso;omega)
  ·obtain ⟨e1,e2⟩:=Ql7 hG (mp:=mpB M) (X:=X)
   rw [e1,e2,Qu8 hG]
   have hvw:VwF [mpB M,X,B.blk (trC G) true] 63 (.ms 3 2 (G.length*3) 0 G.length false) (.sl false G.length (trC G)):=VwF.ms (d:=62) rfl (Qaj G) (Q0y (Qaj G)) (VwLF.trC G)
   repeat' ((conv=>whnf);first|refine hvw|refine zF ?_|refine Rn.seq ?_|refine Rn.cond ?_|refine Rn.reg ?_|refine Rn.exit ?_|refine Rn.ret ?_|refine Get.mk _ rfl ?_|refine LeavesF.of ?_|refine VwF.int ?_|refine VwF.tup ?_|refine VwLF.cons ?_ ?_|refine VwLF.nil)
   all_goals first|rfl|(exfalso;omega)
 obtain ⟨m,hm,gi⟩:=Q15 hi
 have hsn:=Qc5 (sr:=sr) hm
 have hok:=hsr m
 have hb1:Q0a 1 [mpB M]=true:=by simp only [Q0a,Q51];rfl
 have hb3:∀ G:List T3,Q0a 3 [mpB M,X,.blk (trC G) true]=true:=fun G=>by simp only [Q0a,Q51,hX];rfl
 generalize verF sr (s.take i)=st at *
 obtain ⟨G,sum⟩:=st
 unfold verS at hsn
 dsimp only at hsn b1 b2 b3 ⊢
 cases ho:sr m with
 | none =>
  rw [ho] at hsn
  dsimp only at hsn
  have hmn:=mo.not (m:=m) ho
  by_cases hG:G=[]
  ·subst hG
   dsimp only [pgV,pgH]
   repeat' ((conv=>whnf);first|refine Br.f ?_|refine zT ?_|refine zB ?_|refine Rn.seq ?_|refine Rn.block ?_|refine Rn.cond ?_|refine Rn.reg ?_|refine Rn.skip ?_|refine Get.mk _ gi ?_|refine Get.mk _ hmn ?_|refine zN ?_|refine Get.mk _ rfl ?_|refine zR ?_)
   all_goals first|(exfalso;omega)|exact NextP.mk ⟨i+1,X⟩ ⟨hi,hX⟩ (by (try dsimp only);omega) (by rw [hsn];exact Q87 rfl rfl rfl rfl hb1)
  ·obtain ⟨e1,e2⟩:=Ql7 hG (mp:=mpB M) (X:=X)
   rw [e1,e2]
   repeat' ((conv=>whnf);first|refine Br.f ?_|refine zT ?_|refine zB ?_|refine Rn.seq ?_|refine Rn.block ?_|refine Rn.cond ?_|refine Rn.reg ?_|refine Rn.skip ?_|refine Get.mk _ gi ?_|refine Get.mk _ hmn ?_|refine zN ?_|refine Get.mk _ rfl ?_|refine zR ?_)
   all_goals first|(exfalso;omega)|exact NextP.mk ⟨i+1,X⟩ ⟨hi,hX⟩ (by (try dsimp only);omega) (by rw [hsn];dsimp only;rw [e1,e2];exact Qtg (k:=1) rfl rfl rfl rfl (hb3 _) rfl)
 | some o =>
  rw [ho] at hsn hok
  dsimp only at hsn
  have hof:=hok o rfl
  obtain ⟨j,hj,hmf,htg⟩:=mo.find (m:=m) ho
  have hwr:IntKind.i64.wrap (sum+o.f)=sum+o.f:=wrap_i64 (by omega) (by omega)
  by_cases hG:G=[]
  ·subst hG
   dsimp only [pgV,pgH]
   repeat' ((conv=>whnf);first|refine Bnd.eq hwr ?_|refine Br.t ?_|refine zT ?_|refine zB ?_|refine Rn.seq ?_|refine Rn.block ?_|refine Rn.cond ?_|refine Rn.reg ?_|refine Rn.skip ?_|refine Get.mk _ gi ?_|(refine Get.mk _ hmf ?_;refine fWe htg ?_)|refine zN ?_|refine zZ ?_|refine Get.mk _ rfl ?_|refine zR ?_)
   all_goals try (exfalso;omega)
   all_goals exact NextP.mk ⟨i+1,.blk [.int .i64 m,.int .i64 (o.e:Nat),.int .i64 (o.k:Nat),.int .i64 o.f,.int .i64 o.g] false⟩ ⟨hi,fun n=>rfl⟩ (by (try dsimp only);omega) (by rw [hsn];exact Qld (k:=1) rfl rfl rfl)
  ·obtain ⟨e1,e2⟩:=Ql7 hG (mp:=mpB M) (X:=X)
   have e3:=(Ql7 (G:=G++[(m,((o.e:Nat):Int),((o.k:Nat):Int))]) (by simp) (mp:=mpB M) (X:=X)).2
   rw [← Qga] at e3
   rw [e1,e2]
   have hlc:=Qaj G
   have hap:0+G.length*3=G.length*3∧((trC G).length+[V.int .i64 m,.int .i64 (o.e:Nat),.int .i64 (o.k:Nat)].length)*(24+1)<big:=⟨by omega,by rw [hlc];exact Q46 (by simp;omega)⟩
   have hb3':Q0a 3 [mpB M,X,.blk (trC G++[V.int .i64 m,.int .i64 (o.e:Nat),.int .i64 (o.k:Nat)]) true]=true:=by simp only [Q0a,Q51,hX];rfl
   have hb4:Q0a 4 [mpB M,X,.blk (trC G++[V.int .i64 m,.int .i64 (o.e:Nat),.int .i64 (o.k:Nat)]) true,.blk [.int .i64 m,.int .i64 (o.e:Nat),.int .i64 (o.k:Nat),.int .i64 o.f,.int .i64 o.g] false]=true:=by simp only [Q0a,Q51,hX];rfl
   repeat' ((conv=>whnf);first|refine Bnd.eq hwr ?_|refine Br.t ?_|refine zT ?_|refine zB ?_|refine Rn.seq ?_|refine Rn.block ?_|refine Rn.cond ?_|refine Rn.reg ?_|refine Rn.skip ?_|refine Get.mk _ gi ?_|(refine Get.mk _ hmf ?_;refine fWe htg ?_)|refine Req.mk hlc ?_|refine Req.mk hap ?_|refine zN ?_|refine zZ ?_|refine Get.mk _ rfl ?_|refine zR ?_)
   all_goals try (exfalso;omega)
   all_goals exact NextP.mk ⟨i+1,X⟩ ⟨hi,hX⟩ (by (try dsimp only);omega) (by rw [hsn];dsimp only;rw [Qp7,e3];exact Qtf (k:=1) rfl rfl rfl rfl rfl hb4 rfl hb3' rfl)
end Go.Dr.T6
namespace Go.Dr.T
theorem Qmn {P:List T6.T3}:∃ g,T6.gapV P=.sl g P.length (T6.trC P):=by
 cases P with
 | nil=>exact ⟨true,rfl⟩
 | cons t P=>exact ⟨false,rfl⟩
theorem Q5b {c cs d:Bool} {l:List T6.El} {s:List Int} {ss:List Sp} {wd hg px:Nat} {P:List T6.T3} {n e:Int} (hwd:wd≤255) (hhg:hg≤255) (k4:Fun FB1 md 4 [T6.elsV c l,.sl cs s.length (Q00 s)] (.tup [T6.gapV P,.int .i64 n,.int .i64 e])) (hbad:e≠0∨P.length=0∨12<P.length∨wd%8=0∨hg%8=0):Fun FB1 md 3 [T6.elsV c l,.sl cs s.length (Q00 s),.agg [.int .u8 (wd:Nat),.int .u8 (hg:Nat),.sl d ss.length (spC ss),.int .u8 (px:Nat)]] (.bool true):=by
 have k5:=Qqz
 obtain ⟨g,hg'⟩:=Qmn (P:=P)
 rw [hg'] at k4
 unfold T6.elsV at k4 ⊢
 have hw8:((wd:Nat):Int).tmod 8=((wd%8:Nat):Int):=by rw [Int.ofNat_tmod];rfl
 have hh8:((hg:Nat):Int).tmod 8=((hg%8:Nat):Int):=by rw [Int.ofNat_tmod];rfl
 refine Q04 c3_eq rfl ?_
 repeat' ((conv=>whnf);first|refine Bnd.eq hw8 ?_|refine Bnd.eq hh8 ?_|refine Br.t ?_|refine zT ?_|refine zF ?_|refine Br.dec (fun _=>?_) (fun _=>?_)|refine Br.not ?_|refine zC k4 ?_|refine zC k5 ?_|refine Get.mk _ rfl ?_|refine Leaves.of ?_|refine Vw.bool ?_|refine zR ?_)
 all_goals first|rfl|(exfalso;omega)
end Go.Dr.T
