/- Top, of chapter 06: Check of an element, the program's. -/
import Derived.Test.YtbnmdlnkhghbpaaGreatDoorG0
set_option maxRecDepth 100000
set_option maxHeartbeats 20000000
namespace Go.Dr.T6
open Go.Dr.T
theorem Q3p {m:List Bool} {hl:Nat} {st:St} {tm:List V} {h:List B} (h1:Q0m m st.tm=tm) (h2:st.h.length=hl+1) (h5:st.h.take hl=h) (h3:blos hl tm=true) (h4:Q0a hl h=true):norm m hl st=⟨tm,h⟩:=by
 unfold norm trunc
 rw [h1,h2,Nat.add_sub_cancel_left]
 unfold Q1k
 simp only [Nat.add_zero,h5,h3,h4,Bool.and_self,if_true,Q1k]
theorem Q55 (n:Nat):∀ l:List Int,blos n (Q00 l)=true
 | []=>rfl
 | _::l=>by simp only [Q00,List.map_cons,blos,V.blo,Bool.true_and];exact Q55 n l
theorem Qae (n:Nat):∀ k:Nat,blos n (List.replicate k (V.bool true))=true
 | 0=>rfl
 | k+1=>by simp only [List.replicate_succ,blos,V.blo,Bool.true_and];exact Qae n k
theorem fWe {v v':V} {K:V→Prop} (e:v=v') (h:K v'):fW v K:=fW.mk (e▸h)
def mqB (ks:List Int):B:=.mq (List.range ks.length) ks.length (Q00 ks) (List.replicate ks.length (.bool true))
theorem Qgy (ks:List Int) (m:Int):mqB (ks++[m])=.mq (List.range ks.length++[ks.length]) (ks.length+1) (Q00 (ks++[m])) (List.replicate (ks.length+1) (.bool true)):=by
 simp [mqB,List.range_succ]
theorem Qln (n:Nat) (ks:List Int):(mqB ks).blo n=true:=by
 simp only [mqB,B.blo,Q55,Qae,Bool.and_self]
theorem Q1b {m:Int}:∀ {ks:List Int} {i:Nat},m∉ks→Q0w 0 (.int .i64 m) (Q00 ks) i=some none
 | [],_,_=>rfl
 | k::ks,i,h=>by
  have h1:m≠k:=fun e=>h (by simp [e])
  simp only [Q00,List.map_cons,Q0w,eq1,if_true,decide_eq_false h1]
  exact Q1b (fun hm=>h (by simp [hm]))
theorem Q39 {m:Int}:∀ {ks:List Int} {i:Nat},m∈ks→∃ j,j<ks.length∧ks[j]?=some m∧Q0w 0 (.int .i64 m) (Q00 ks) i=some (some (i+j))
 | k::ks,i,h=>by
  by_cases h1:m=k
  ·subst h1
   exact ⟨0,by simp,by simp,by simp only [Q00,List.map_cons,Q0w,eq1,if_true,decide_true];rfl⟩
  ·obtain ⟨j,q1,q2,q3⟩:=Q39 (ks:=ks) (i:=i+1) (by simpa [h1] using h)
   refine ⟨j+1,by simpa using q1,by simpa using q2,?_⟩
   simp only [Q00,List.map_cons,Q0w,eq1,if_true,decide_eq_false h1]
   rw [show i+(j+1)=i+1+j by omega]
   exact q3
theorem Qkh:∀ {n j:Nat},j<n→tg (List.replicate n (V.bool true)) j=.bool true
 | n+1,0,_=>rfl
 | n+1,j+1,h=>by
  have:=Qkh (n:=n) (j:=j) (by omega)
  simpa only [List.replicate_succ,tg] using this
theorem Q7m:∀ {n j:Nat},j<n→tset (List.replicate n (V.bool true)) j (.bool true)=List.replicate n (.bool true)
 | n+1,0,_=>rfl
 | n+1,j+1,h=>by
  have:=Q7m (n:=n) (j:=j) (by omega)
  simp only [List.replicate_succ,tset,this]
def shC:List (Int × Int)→List V
 | []=>[]
 | p::l=>.int .i64 p.1::.int .i64 p.2::shC l
theorem part2 {c:List V} {n:Nat} {a b:V} (h:c.drop n=a::b::(c.drop (n+2))):part c n 2=some [a,b]:=by
 unfold part
 have:∀ (n:Nat) (c:List V),Q6j n c=c.drop n:=by
  intro n;induction n with
  | zero=>intro c;cases c<;>rfl
  | succ n ih=>intro c;cases c with
   | nil=>rfl
   | cons x c=>simpa only [Q6j,List.drop_succ_cons] using ih c
 rw [this,h];rfl
theorem shC_drop:∀ {l:List (Int × Int)} {i:Nat} {p:Int × Int},l[i]?=some p→(shC l).drop (i*2)=.int .i64 p.1::.int .i64 p.2::(shC l).drop (i*2+2)
 | x::l,0,p,h=>by
  simp only [List.getElem?_cons_zero,jA] at h
  subst h;rfl
 | x::l,i+1,p,h=>by
  have:=shC_drop (l:=l) (i:=i) (p:=p) (by simpa using h)
  rw [show (i+1)*2=i*2+1+1 by omega]
  simpa only [shC,List.drop_succ_cons] using this
theorem Qap {l:List (Int × Int)} {i:Nat} {p:Int × Int} (h:l[i]?=some p):part (shC l) (i*2) 2=some [.int .i64 p.1,.int .i64 p.2]:=part2 (shC_drop h)
abbrev outB (n lo hi:Int):Bool:=decide (n<lo)||decide (n>hi)
theorem Q0z {n lo hi:Int}:Fun FB md 52 [.int .i64 n,.int .i64 lo,.int .i64 hi] (.bool (outB n lo hi)):=by
 refine Q04 rfl rfl ?_
 by_cases h1:n<lo<;>by_cases h2:n>hi
 all_goals
  repeat' ((conv=>whnf);first|refine zT ?_|refine zF ?_|refine Get.mk _ rfl ?_|refine Leaves.of ?_|refine Vw.bool ?_)
  all_goals simp [outB,h1,h2]
def eF (l:List (Int × Int)) (i:Nat):Int:=match l[i]? with
 | none=>0
 | some p=>if outB p.1 0 999||outB p.2 1 200000 then 7 else if 0<p.1∧p.1∈(l.take i).map (·.1) then 5 else 0
def ckF (l:List (Int × Int)):Nat→Nat→Int × Int
 | _,0=>(0,0)
 | i,k+1=>if eF l i≠0 then ((i:Int),eF l i) else ckF l (i+1) k
def ckE (nm:List UInt8) (l:List (Int × Int)) (g:Int):Int × Int :=
 if nmOk nm=false then (0,6) else if outB g 0 9=true then (0,7) else if 40<l.length then (0,3) else ckF l 0 l.length
theorem Qus {l:List (Int × Int)} {i:Nat} (hi:i<l.length) (h:eF l i≠0):ckF l i (l.length-i)=((i:Int),eF l i):=by
 rw [show l.length-i=(l.length-(i+1))+1 by omega,ckF,if_pos h]
theorem Qhl {l:List (Int × Int)} {i:Nat} (hi:i<l.length) (h:eF l i=0):ckF l i (l.length-i)=ckF l (i+1) (l.length-(i+1)):=by
 rw [show l.length-i=(l.length-(i+1))+1 by omega,ckF,if_neg (by simp [h])]
abbrev elV (nm:List UInt8) (c:Bool) (l:List (Int × Int)) (g:Int):V:=.agg [.str nm,.sl c l.length (shC l),.int .i64 g]
theorem Q7k {nm:List UInt8} {c:Bool} {l:List (Int × Int)} {g:Int}:Fun FB md 76 [elV nm c l g] (.tup [.int .i64 (ckE nm l g).1,.int .i64 (ckE nm l g).2]):=by
 have h1:=Qlm (s:=nm)
 unfold ckE
 cases hn:nmOk nm<;>rw [hn] at h1
 ·rw [if_pos rfl]
  refine Q04 rfl rfl ?_
  repeat' ((conv=>whnf);first|refine Br.t ?_|refine zC h1 ?_|refine Get.mk _ rfl ?_|refine Leaves.of ?_|refine Vw.int ?_|refine Vw.tup ?_|refine VwL.cons ?_ ?_|refine VwL.nil|refine zR ?_)
  all_goals rfl
 rw [if_neg (by simp)]
 have h2:=Q0z (n:=g) (lo:=0) (hi:=9)
 cases hg:outB g 0 9<;>rw [hg] at h2
 rotate_left
 ·rw [if_pos rfl]
  refine Q04 rfl rfl ?_
  repeat' ((conv=>whnf);first|refine Br.t ?_|refine Br.f ?_|refine zC h1 ?_|refine zC h2 ?_|refine Get.mk _ rfl ?_|refine Leaves.of ?_|refine Vw.int ?_|refine Vw.tup ?_|refine VwL.cons ?_ ?_|refine VwL.nil|refine zR ?_)
  all_goals rfl
 rw [if_neg (by simp)]
 by_cases h3:40<l.length
 ·rw [if_pos h3]
  refine Q04 rfl rfl ?_
  repeat' ((conv=>whnf);first|refine Br.f ?_|refine zT ?_|refine zC h1 ?_|refine zC h2 ?_|refine Get.mk _ rfl ?_|refine Leaves.of ?_|refine Vw.int ?_|refine Vw.tup ?_|refine VwL.cons ?_ ?_|refine VwL.nil|refine zR ?_)
  all_goals first|rfl|(exfalso;omega)
 rw [if_neg h3]
 refine Q04 rfl rfl ?_
 repeat' ((conv=>whnf);first|refine Br.f ?_|refine zF ?_|refine zC h1 ?_|refine zC h2 ?_|refine Get.mk _ rfl ?_|refine zR ?_)
 refine LoopP.by (fun x:Nat × List Int=>x.1≤l.length∧(∀ m,m∈x.2↔m∈(l.take x.1).map (·.1))∧ckF l 0 l.length=ckF l x.1 (l.length-x.1)) (fun x=>[(25,.int .i64 (x.1:Nat))])
  (fun x=>[.blk [.str nm,.sl c l.length (shC l),.int .i64 g] false,mqB x.2]) (fun x=>l.length-x.1) (0,[]) ⟨Nat.zero_le _,by simp,rfl⟩ rfl ?_
 rintro ⟨i,ks⟩ ⟨q1,q2,q3⟩
 simp only at q1 q2 q3
 dsimp only
 by_cases hi:i<l.length
 rotate_left
 ·have hres:ckF l 0 l.length=(0,0):=by rw [q3,show l.length-i=0 by omega,ckF]
  repeat' ((conv=>whnf);first|refine zF ?_|refine Get.mk _ rfl ?_|refine Leaves.of ?_|refine Vw.int ?_|refine Vw.tup ?_|refine VwL.cons ?_ ?_|refine VwL.nil)
  ·exact congrArg Prod.fst hres.symm
  ·exact congrArg Prod.snd hres.symm
 obtain ⟨p,hp⟩:∃ p,l[i]?=some p:=⟨_,jC hi⟩
 have hpart:=Qap hp
 have hE:eF l i=if outB p.1 0 999||outB p.2 1 200000 then 7 else if 0<p.1∧p.1∈(l.take i).map (·.1) then 5 else 0:=by simp only [eF,hp]
 have htake:(l.take (i+1)).map (·.1)=(l.take i).map (·.1)++[p.1]:=by
  rw [List.take_add_one,hp];simp
 obtain ⟨m,f⟩:=p
 simp only at hpart hE htake
 have h4:=Q0z (n:=m) (lo:=0) (hi:=999)
 have h5:=Q0z (n:=f) (lo:=1) (hi:=200000)
 have err:∀ e:Int,e≠0→eF l i=e→ckF l 0 l.length=((i:Int),e):=fun e h0 he=>by rw [q3,Qus hi (by rw [he];exact h0),he]
 cases hb4:outB m 0 999<;>rw [hb4] at h4
 rotate_left
 ·have hres:=err 7 (by decide) (by rw [hE,hb4];rfl)
  repeat' ((conv=>whnf);first|refine Br.t ?_|refine zT ?_|refine Get.mk _ hpart ?_|refine zC h4 ?_|refine zN ?_|refine Get.mk _ rfl ?_|refine Leaves.of ?_|refine Vw.int ?_|refine Vw.tup ?_|refine VwL.cons ?_ ?_|refine VwL.nil|refine zR ?_)
  ·exact congrArg Prod.fst hres.symm
  ·exact congrArg Prod.snd hres.symm
 cases hb5:outB f 1 200000<;>rw [hb5] at h5
 rotate_left
 ·have hres:=err 7 (by decide) (by rw [hE,hb4,hb5];rfl)
  repeat' ((conv=>whnf);first|refine Br.t ?_|refine Br.f ?_|refine zT ?_|refine Get.mk _ hpart ?_|refine zC h4 ?_|refine zC h5 ?_|refine zN ?_|refine Get.mk _ rfl ?_|refine Leaves.of ?_|refine Vw.int ?_|refine Vw.tup ?_|refine VwL.cons ?_ ?_|refine VwL.nil|refine zR ?_)
  ·exact congrArg Prod.fst hres.symm
  ·exact congrArg Prod.snd hres.symm
 rw [hb4,hb5,if_neg (by simp)] at hE
 simp only [outB,jL,jI] at hb4 hb5
 by_cases hmk:m∈ks
 ·obtain ⟨j,j1,j2,j3⟩:=Q39 (i:=0) hmk
  rw [Nat.zero_add] at j3
  have j4:=Qkh j1
  have j5:=Q7m j1
  by_cases hm0:0<m
  ·have hres:=err 5 (by decide) (by rw [hE,if_pos ⟨hm0,(q2 m).1 hmk⟩])
   repeat' ((conv=>whnf);first|refine Br.f ?_|refine zT ?_|refine Get.mk _ hpart ?_|refine zC h4 ?_|refine zC h5 ?_|refine Get.mk _ j3 ?_|refine zN ?_|refine Get.mk _ rfl ?_|refine zR ?_)
   show fW (tg (List.replicate ks.length (V.bool true)) j) _
   refine fWe j4 ?_
   repeat' ((conv=>whnf);first|refine Br.t ?_|refine zT ?_|refine Get.mk _ rfl ?_|refine Leaves.of ?_|refine Vw.int ?_|refine Vw.tup ?_|refine VwL.cons ?_ ?_|refine VwL.nil)
   ·exact congrArg Prod.fst hres.symm
   ·exact congrArg Prod.snd hres.symm
  ·have hz:eF l i=0:=by rw [hE,if_neg (fun h=>hm0 h.1)]
   repeat' ((conv=>whnf);first|refine Br.f ?_|refine zT ?_|refine zF ?_|refine zB ?_|refine Get.mk _ hpart ?_|refine zC h4 ?_|refine zC h5 ?_|refine Get.mk _ j3 ?_|refine fVf j5 ?_|refine zN ?_|refine Get.mk _ rfl ?_|refine zR ?_)
   refine NextP.mk (i+1,ks) ⟨hi,fun x=>?_,by rw [q3,Qhl hi hz]⟩ (by simp only;omega) (Q3p rfl rfl rfl rfl ?_)
   ·rw [htake,jK,q2 x]
    constructor
    ·exact .inl
    ·rintro (h|h)
     ·exact h
     ·rw [jJ] at h
      rw [h];exact (q2 m).1 hmk
   ·simp only [Q0a,Qln];rfl
 ·have j3:=Q1b (i:=0) hmk
  have hz:eF l i=0:=by rw [hE,if_neg (fun h=>hmk ((q2 m).2 h.2))]
  have k1:Q00 ks++[V.int .i64 m]=Q00 (ks++[m]):=by simp [Q00]
  have k2:List.replicate ks.length (V.bool true)++[V.bool true]=List.replicate (ks.length+1) (.bool true):=(List.replicate_succ' ..).symm
  have hin:∀ x,x∈ks++[m]↔x∈(l.take (i+1)).map (·.1):=fun x=>by rw [htake,jK,jK,q2 x]
  repeat' ((conv=>whnf);first|refine Br.f ?_|refine zT ?_|refine zF ?_|refine Br.dec (fun _=>?_) (fun _=>?_)|refine zB ?_|refine Get.mk _ hpart ?_|refine zC h4 ?_|refine zC h5 ?_|refine Get.mk _ j3 ?_|refine fVf k1 ?_|refine fVf k2 ?_|refine zN ?_|refine Get.mk _ rfl ?_|refine zR ?_)
  all_goals
   refine NextP.mk (i+1,ks++[m]) ⟨hi,hin,by rw [q3,Qhl hi hz]⟩ (by simp only;omega) (Q3p rfl rfl (by rw [Qgy];rfl) rfl ?_)
   simp only [Q0a,Qln];rfl
end Go.Dr.T6
namespace Go.Dr.T6
open Go.Dr.T
end Go.Dr.T6
namespace Go.Dr.T6
open Go.Dr.T
structure El where
 nm:List UInt8
 c:Bool
 l:List (Int × Int)
 g:Int
def El.v (e:El):List V:=[.str e.nm,.sl e.c e.l.length (shC e.l),.int .i64 e.g]
def elC:List El→List V
 | []=>[]
 | e::r=>.str e.nm::.sl e.c e.l.length (shC e.l)::.int .i64 e.g::elC r
theorem Qa8:∀ l,(elC l).length=l.length*3
 | []=>rfl
 | _::l=>by simp only [elC,List.length_cons,Qa8 l];omega
def El.e (x:El):Int:=(ckE x.nm x.l x.g).2
def ckd:List El→Int
 | []=>0
 | x::l=>if x.e≠0 then x.e else ckd l
theorem Q2r:∀ (n:Nat) (c:List V),Q6j n c=c.drop n
 | 0,c=>by cases c<;>rfl
 | n+1,[]=>rfl
 | n+1,x::c=>by simpa only [Q6j,List.drop_succ_cons] using Q2r n c
theorem Qp8 {c:List V} {n:Nat} {x y z:V} {r:List V} (h:c.drop n=x::y::z::r):part c n 3=some [x,y,z]:=by
 unfold part
 rw [Q2r,h];rfl
theorem elC_drop:∀ {l:List El} {i:Nat} {p:El},l[i]?=some p→(elC l).drop (i*3)=.str p.nm::.sl p.c p.l.length (shC p.l)::.int .i64 p.g::(elC l).drop (i*3+3)
 | x::l,0,p,h=>by
  simp only [List.getElem?_cons_zero,jA] at h
  subst h;rfl
 | x::l,i+1,p,h=>by
  have:=elC_drop (l:=l) (i:=i) (p:=p) (by simpa using h)
  rw [show (i+1)*3=i*3+1+1+1 by omega]
  simpa only [elC,List.drop_succ_cons] using this
theorem Q7i {l:List El} {i:Nat} {p:El} (h:l[i]?=some p):part (elC l) (i*3) 3=some [.str p.nm,.sl p.c p.l.length (shC p.l),.int .i64 p.g]:=Qp8 (elC_drop h)
theorem Qqj {l:List El} {i:Nat} {p:El} (h:l[i]?=some p):ckd (l.drop i)=if p.e≠0 then p.e else ckd (l.drop (i+1)):=by
 obtain ⟨hi,rfl⟩:=jB.1 h
 rw [List.drop_eq_getElem_cons hi];rfl
abbrev elsV (c:Bool) (l:List El):V:=.sl c l.length (elC l)
theorem Qj7 {c:Bool} {l:List El} (hl:l.length≤140737488355328):Fun FB md 44 [elsV c l] (.int .i64 (ckd l)):=by
 refine Q04 rfl rfl ?_
 skip
 refine LoopP.by (fun i:Nat=>i≤l.length∧ckd l=ckd (l.drop i)) (fun i=>[(9,.int .i64 (i:Nat))]) (fun _=>[]) (fun i=>l.length-i) 0 ⟨Nat.zero_le _,rfl⟩ rfl ?_
 rintro i ⟨q1,q2⟩
 dsimp only
 by_cases hi:i<l.length
 rotate_left
 ·have hres:ckd l=0:=by rw [q2,show i=l.length by omega,List.drop_length];rfl
  repeat' ((conv=>whnf);first|refine zF ?_|refine Get.mk _ rfl ?_|refine Leaves.of ?_|refine Vw.int ?_)
  exact hres.symm
 obtain ⟨p,hp⟩:∃ p,l[i]?=some p:=⟨_,jC hi⟩
 have hpart:=Q7i hp
 have hq:=Qqj hp
 have hc:=Q7k (nm:=p.nm) (c:=p.c) (l:=p.l) (g:=p.g)
 by_cases he:p.e=0
 ·rw [if_neg (by simp [he])] at hq
  rw [show (ckE p.nm p.l p.g).2=0 from he] at hc
  repeat' ((conv=>whnf);first|refine Br.f ?_|refine zT ?_|refine zB ?_|refine Get.mk _ hpart ?_|refine zC hc ?_|refine zN ?_|refine Get.mk _ rfl ?_|refine zR ?_)
  exact NextP.mk (i+1) ⟨hi,by rw [q2,hq]⟩ (by omega) rfl
 ·rw [if_pos he] at hq
  have he':(ckE p.nm p.l p.g).2≠0:=he
  repeat' ((conv=>whnf);first|refine zT ?_|refine zF ?_|refine Br.not ?_|refine Get.mk _ hpart ?_|refine zC hc ?_|refine zN ?_|refine Get.mk _ rfl ?_|refine Leaves.of ?_|refine Vw.int ?_|refine zR ?_)
  exact (q2.trans hq).symm
end Go.Dr.T6
