/- Top, of chapter 08: films: their cells; Check and its reference. -/
import Derived.Test.YtbnmdlnkhghbpaaGreatDoorG1
set_option maxRecDepth 100000
set_option maxHeartbeats 20000000
namespace Go.Dr.T
structure Fm where
 c:Bool
 w:Int
 h:Int
 p:List UInt8
def fmC:List Fm→List V
 | []=>[]
 | f::l=>.int .i64 f.w::.int .i64 f.h::.sl f.c f.p.length (ofBytes f.p)::fmC l
theorem Q0e:∀ l,(fmC l).length=l.length*3
 | []=>rfl
 | _::l=>by simp only [fmC,List.length_cons,Q0e l];omega
theorem Q5r:∀ {l:List Fm} {i:Nat} {f:Fm},l[i]?=some f→(fmC l).drop (i*3)=.int .i64 f.w::.int .i64 f.h::.sl f.c f.p.length (ofBytes f.p)::fmC (l.drop (i+1))
 | g::l,0,f,h=>by simp only [List.getElem?_cons_zero,jA] at h;subst h;rfl
 | g::l,i+1,f,h=>by
  rw [show (i+1)*3=i*3+1+1+1 by omega]
  simp only [fmC,List.drop_succ_cons]
  exact Q5r (l:=l) (by simpa using h)
theorem Qbc {l:List Fm} {i:Nat} {f:Fm} (h:l[i]?=some f):part (fmC l) (i*3) 3=some [.int .i64 f.w,.int .i64 f.h,.sl f.c f.p.length (ofBytes f.p)]:=Qp8 (Q5r h)
theorem Q1r {l r:List V} {n j:Nat} {x:V} (h:l.drop n=r) (h2:r[j]?=some x):Q0h l (n+j)=some x:=by
 rw [Q31,← List.getElem?_drop,h,h2]
theorem fm_c {l:List Fm} {i:Nat} {f:Fm} (h:l[i]?=some f):Q0h (fmC l) (i*3+0)=some (.int .i64 f.w)∧Q0h (fmC l) (i*3+1)=some (.int .i64 f.h)∧Q0h (fmC l) (i*3+2)=some (.sl f.c f.p.length (ofBytes f.p)) :=
 ⟨Q1r (Q5r h) rfl,Q1r (Q5r h) rfl,Q1r (Q5r h) rfl⟩
def fmE (w0 h0:Int) (f:Fm):Int:=if outB f.w 1 48=true∨outB f.h 1 48=true then 7 else if (f.p.length:Int)≠f.w*f.h then 2 else if f.w≠w0∨f.h≠h0 then 180 else 0
def flF (w0 h0:Int):List Fm→Nat→Int × Int
 | [],_=>(0,0)
 | f::l,i=>if fmE w0 h0 f≠0 then ((i:Int),fmE w0 h0 f) else flF w0 h0 l (i+1)
def flE:List Fm→Int × Int
 | []=>(0,3)
 | f::l=>if 12<(f::l).length then (0,3) else flF f.w f.h (f::l) 0
theorem Qbd {w0 h0:Int}:∀ {l:List Fm} {i n:Nat},(∀ j f,j<i→l[j]?=some f→fmE w0 h0 f=0)→flF w0 h0 l n=flF w0 h0 (l.drop i) (n+i)
 | l,0,n,_=>rfl
 | [],i+1,n,_=>rfl
 | f::l,i+1,n,h=>by
  rw [flF,if_neg (fun e=>e (h 0 f (Nat.succ_pos _) rfl)),List.drop_succ_cons,Qbd (l:=l) (i:=i) (n:=n+1) fun j g hj hg=>h (j+1) g (by omega) (by simpa using hg)]
  congr 1
  omega
theorem Qrs {w0 h0:Int} {l:List Fm} {i:Nat} {f:Fm} (h:∀ j f,j<i→l[j]?=some f→fmE w0 h0 f=0) (hf:l[i]?=some f) (he:fmE w0 h0 f≠0):flF w0 h0 l 0=((i:Int),fmE w0 h0 f):=by
 obtain ⟨hi,hg⟩:=jB.1 hf
 rw [Qbd h,List.drop_eq_getElem_cons hi,hg,flF,if_pos he,Nat.zero_add]
theorem Qf2 {w0 h0:Int} {l:List Fm} (h:∀ j f,j<l.length→l[j]?=some f→fmE w0 h0 f=0):flF w0 h0 l 0=(0,0):=by
 rw [Qbd h,List.drop_length]
 rfl
theorem Q7k {c:Bool} {l:List Fm}:Fun FB md 59 [.sl c l.length (fmC l)] (.tup [.int .i64 (flE l).1,.int .i64 (flE l).2]):=by
 have h1:=Q0z (n:=(l.length:Int)) (lo:=1) (hi:=12)
 by_cases hl:1≤l.length∧l.length≤12
 rotate_left
 ·have hE:flE l=(0,3):=by
   cases l with
   | nil=>rfl
   | cons f l=>rw [flE,if_pos (by simp only [List.length_cons] at hl ⊢;omega)]
  rw [hE]
  have:outB (l.length:Int) 1 12=true:=by simp only [outB,Bool.or_eq_true,jG];omega
  rw [this] at h1
  refine Q04 rfl rfl ?_
  repeat' ((conv=>whnf);first|refine Br.t ?_|refine zC h1 ?_|refine Get.mk _ rfl ?_|refine Leaves.of ?_|refine Vw.int ?_|refine Vw.tup ?_|refine VwL.cons ?_ ?_|refine VwL.nil)
  all_goals first|rfl|(exfalso;omega)
 have hlen:=hl
 have hb:outB (l.length:Int) 1 12=false:=by simp only [outB,jL,jI];omega
 rw [hb] at h1
 obtain ⟨f0,h0,hE⟩:∃ f0,l[0]?=some f0∧flE l=flF f0.w f0.h l 0:=by
  cases l with
  | nil=>exact absurd hl.1 (by decide)
  | cons f l=>exact ⟨f,rfl,by rw [flE,if_neg (by omega)]⟩
 rw [hE]
 clear hE hb hl
 have hn:=hlen
 refine Q04 rfl rfl ?_
 repeat' ((conv=>whnf);first|refine Br.f ?_|refine zC h1 ?_)
 all_goals try (exfalso;omega)
 refine LoopP.by (fun i:Nat=>i≤l.length∧∀ j f,j<i→l[j]?=some f→fmE f0.w f0.h f=0) (fun i=>[(11,.int .i64 (i:Nat))]) (fun i=>[]) (fun i=>l.length-i) 0 ⟨Nat.zero_le _,fun j v h=>absurd h (Nat.not_lt_zero _)⟩ rfl ?_
 rintro i ⟨w1,w2⟩
 dsimp only
 by_cases hi:i<l.length
 ·obtain ⟨f,hf⟩:∃ f,l[i]?=some f:=⟨_,jC hi⟩
  have hp:=Qbc hf
  obtain ⟨a0,a1,a2⟩:=fm_c hf
  obtain ⟨b0,b1,b2⟩:=fm_c h0
  have k1:=Q0z (n:=f.w) (lo:=1) (hi:=48)
  have k2:=Q0z (n:=f.h) (lo:=1) (hi:=48)
  have hiw:IntKind.i64.wrap ((i:Int)+1)=((i+1:Nat):Int):=by rw [wrap_i64 (by omega) (by omega)];omega
  have hil:i≤l.length-1:=by omega
  have h0l:0<l.length:=by omega
  have hlc':i*3+3≤(fmC l).length:=by rw [Q0e];omega
  have hz:0≤l.length-1:=by omega
  have hres:fmE f0.w f0.h f≠0→flF f0.w f0.h l 0=((i:Int),fmE f0.w f0.h f):=fun e=>Qrs w2 hf e
  have hnx:fmE f0.w f0.h f=0→∀ j u,j<i+1→l[j]?=some u→fmE f0.w f0.h u=0:=fun h j u hj hu=>by
   by_cases e:j=i
   ·subst e;rw [hf] at hu;cases hu;exact h
   ·exact w2 j u (by omega) hu
  cases e1:outB f.w 1 48<;>rw [e1] at k1
  rotate_left
  ·have hE:fmE f0.w f0.h f=7:=by unfold fmE;rw [if_pos (.inl e1)]
   rw [hres (by rw [hE];decide),hE]
   repeat' ((conv=>whnf);first|refine Br.t ?_|refine zT ?_|refine Get.mk _ hp ?_|refine zC k1 ?_|refine Idx.nat hil ?_|refine Req.mk h0l ?_|refine Get.mk _ rfl ?_|refine Leaves.of ?_|refine Vw.int ?_|refine Vw.tup ?_|refine VwL.cons ?_ ?_|refine VwL.nil|refine zR ?_)
   all_goals first|rfl|(exfalso;omega)
  cases e2:outB f.h 1 48<;>rw [e2] at k2
  rotate_left
  ·have hE:fmE f0.w f0.h f=7:=by unfold fmE;rw [if_pos (.inr e2)]
   rw [hres (by rw [hE];decide),hE]
   repeat' ((conv=>whnf);first|refine Br.t ?_|refine Br.f ?_|refine zT ?_|refine Get.mk _ hp ?_|refine zC k1 ?_|refine zC k2 ?_|refine Idx.nat hil ?_|refine Req.mk h0l ?_|refine Get.mk _ rfl ?_|refine Leaves.of ?_|refine Vw.int ?_|refine Vw.tup ?_|refine VwL.cons ?_ ?_|refine VwL.nil|refine zR ?_)
   all_goals first|rfl|(exfalso;omega)
  have hE:fmE f0.w f0.h f=if (f.p.length:Int)≠f.w*f.h then 2 else if f.w≠f0.w∨f.h≠f0.h then 180 else 0:=by unfold fmE;rw [if_neg (by rw [e1,e2];decide)]
  have hwr:IntKind.i64.wrap (f.w*f.h)=f.w*f.h:=by
   simp only [outB,jL,jI] at e1 e2
   have q1:f.w*f.h≤48*48:=Int.mul_le_mul (by omega) (by omega) (by omega) (by omega)
   have q2:0≤f.w*f.h:=Int.mul_nonneg (by omega) (by omega)
   exact wrap_i64 (by omega) (by omega)
  by_cases e3:(f.p.length:Int)=f.w*f.h
  rotate_left
  ·rw [if_pos e3] at hE
   rw [hres (by rw [hE];decide),hE]
   repeat' ((conv=>whnf);first|refine Bnd.eq hwr ?_|refine Br.f ?_|refine zT ?_|refine zF ?_|refine Br.not ?_|refine Get.mk _ hp ?_|refine zC k1 ?_|refine zC k2 ?_|refine Idx.nat hil ?_|refine Req.mk h0l ?_|refine Get.mk _ rfl ?_|refine Leaves.of ?_|refine Vw.int ?_|refine Vw.tup ?_|refine VwL.cons ?_ ?_|refine VwL.nil|refine zR ?_)
   all_goals first|rfl|(exfalso;omega)|(exact absurd ‹_› e3)
  rw [if_neg (fun h=>h e3)] at hE
  by_cases e4:f.w=f0.w
  rotate_left
  ·rw [if_pos (.inl e4)] at hE
   rw [hres (by rw [hE];decide),hE]
   repeat' ((conv=>whnf);first|refine Bnd.eq hwr ?_|refine Br.t ?_|refine Br.f ?_|refine zT ?_|refine zF ?_|refine Br.not ?_|refine Get.mk _ hp ?_|refine Get.mk _ b0 ?_|refine zC k1 ?_|refine zC k2 ?_|refine Idx.nat hil ?_|refine Req.mk h0l ?_|refine zN ?_|refine Get.mk _ rfl ?_|refine Leaves.of ?_|refine Vw.int ?_|refine Vw.tup ?_|refine VwL.cons ?_ ?_|refine VwL.nil|refine zR ?_)
   all_goals first|rfl|(exfalso;omega)|(exact absurd ‹_› e4)
  by_cases e5:f.h=f0.h
  rotate_left
  ·rw [if_pos (.inr e5)] at hE
   rw [hres (by rw [hE];decide),hE]
   repeat' ((conv=>whnf);first|refine Bnd.eq hwr ?_|refine Br.f ?_|refine zT ?_|refine zF ?_|refine Br.not ?_|refine Get.mk _ hp ?_|refine Get.mk _ b0 ?_|refine Get.mk _ b1 ?_|refine zC k1 ?_|refine zC k2 ?_|refine Idx.nat hil ?_|refine Req.mk h0l ?_|refine zN ?_|refine Get.mk _ rfl ?_|refine Leaves.of ?_|refine Vw.int ?_|refine Vw.tup ?_|refine VwL.cons ?_ ?_|refine VwL.nil|refine zR ?_)
   all_goals first|rfl|(exfalso;omega)|(exact absurd ‹_› e5)
  rw [if_neg (fun h=>h.elim (fun g=>g e4) fun g=>g e5)] at hE
  have hnx:=hnx hE
  repeat' ((conv=>whnf);first|refine Bnd.eq hwr ?_|refine Bnd.eq hiw ?_|refine Br.f ?_|refine zT ?_|refine Br.not ?_|refine Get.mk _ hp ?_|refine Get.mk _ b0 ?_|refine Get.mk _ b1 ?_|refine zC k1 ?_|refine zC k2 ?_|refine Idx.nat hil ?_|refine Req.mk h0l ?_|refine zN ?_|refine Get.mk _ rfl ?_|refine zR ?_)
  all_goals first|(exfalso;omega)|exact NextP.mk (i+1) ⟨hi,hnx⟩ (by omega) rfl
 obtain rfl:i=l.length:=by omega
 rw [Qf2 w2]
 repeat' ((conv=>whnf);first|refine zF ?_|refine Get.mk _ rfl ?_|refine Leaves.of ?_|refine Vw.int ?_|refine Vw.tup ?_|refine VwL.cons ?_ ?_|refine VwL.nil)
 all_goals first|rfl|(exfalso;omega)
end Go.Dr.T
namespace Go.Dr.T
structure Bx where
 l:Int
 t:Int
 r:Int
 b:Int
def bxV (x:Bx):List V:=[.int .i64 x.l,.int .i64 x.t,.int .i64 x.r,.int .i64 x.b]
def bxC:List Bx→List V
 | []=>[]
 | x::l=>.int .i64 x.l::.int .i64 x.t::.int .i64 x.r::.int .i64 x.b::bxC l
theorem Qhw:∀ {l:List Bx} {i:Nat} {x:Bx},l[i]?=some x→(bxC l).drop (i*4)=.int .i64 x.l::.int .i64 x.t::.int .i64 x.r::.int .i64 x.b::bxC (l.drop (i+1))
 | g::l,0,f,h=>by simp only [List.getElem?_cons_zero,jA] at h;subst h;rfl
 | g::l,i+1,f,h=>by
  rw [show (i+1)*4=i*4+1+1+1+1 by omega]
  simp only [bxC,List.drop_succ_cons]
  exact Qhw (l:=l) (by simpa using h)
theorem part4 {l:List V} {n:Nat} {a b c d:V} {r:List V} (h:l.drop n=a::b::c::d::r):part l n 4=some [a,b,c,d]:=by
 unfold part
 simp only [Q3m,Q2r,h]
 rfl
theorem Qbs {l:List Bx} {i:Nat} {x:Bx} (h:l[i]?=some x):part (bxC l) (i*4) 4=some (bxV x):=part4 (Qhw h)
def Q1q (w h:Int) (x:Bx):Bool:=outB x.r 0 (w-1)||outB x.l 0 x.r||outB x.b 0 (h-1)||outB x.t 0 x.b
theorem Qib {w h:Int} {x:Bx} (hw:1≤w∧w≤48) (hh:1≤h∧h≤48):Fun FB md 93 [.agg (bxV x),.rp [.int .i64 w] 0,.rp [.int .i64 h] 0] (.bool (Q1q w h x)):=by
 have k1:=Q0z (n:=x.r) (lo:=0) (hi:=w-1)
 have k2:=Q0z (n:=x.l) (lo:=0) (hi:=x.r)
 have k3:=Q0z (n:=x.b) (lo:=0) (hi:=h-1)
 have k4:=Q0z (n:=x.t) (lo:=0) (hi:=x.b)
 unfold Q1q bxV
 generalize outB x.r 0 (w-1)=y1 at *
 generalize outB x.l 0 x.r=y2 at *
 generalize outB x.b 0 (h-1)=y3 at *
 generalize outB x.t 0 x.b=y4 at *
 have a1:IntKind.i64.wrap (w-1)=w-1:=wrap_i64 (by omega) (by omega)
 have a2:IntKind.i64.wrap (h-1)=h-1:=wrap_i64 (by omega) (by omega)
 refine Q04 rfl rfl ?_
 cases y1<;>cases y2<;>cases y3<;>cases y4
 all_goals
  repeat' ((conv=>whnf);first|refine Bnd.eq a1 ?_|refine Bnd.eq a2 ?_|refine Br.t ?_|refine Br.f ?_|refine zC k1 ?_|refine zC k2 ?_|refine zC k3 ?_|refine zC k4 ?_|refine Get.mk _ rfl ?_|refine Leaves.of ?_|refine Vw.bool ?_|refine zR ?_)
  all_goals first|rfl|(exfalso;omega)
def bxI (w h:Int):List Bx→Nat→Int
 | [],_ => -1
 | x::l,i=>if Q1q w h x=true then (i:Int) else bxI w h l (i+1)
theorem Qbr {w h:Int}:∀ {l:List Bx} {i n:Nat},(∀ j x,j<i→l[j]?=some x→Q1q w h x=false)→bxI w h l n=bxI w h (l.drop i) (n+i)
 | l,0,n,_=>rfl
 | [],i+1,n,_=>rfl
 | f::l,i+1,n,hh=>by
  rw [bxI,if_neg (by rw [hh 0 f (Nat.succ_pos _) rfl];decide),List.drop_succ_cons,Qbr (l:=l) (i:=i) (n:=n+1) fun j g hj hg=>hh (j+1) g (by omega) (by simpa using hg)]
  congr 1
  omega
theorem Qnx {w h:Int}:∀ {l:List Bx} {n:Nat},decide (bxI w h l n≥0)=l.any (Q1q w h)
 | [],n=>rfl
 | x::l,n=>by
  rw [bxI,List.any_cons]
  cases e:Q1q w h x
  ·rw [if_neg (by decide),Qnx (l:=l),Bool.false_or]
  ·rw [if_pos rfl,Bool.true_or]
   exact decide_eq_true (by omega)
theorem bxI_ok {w h:Int} {c:Bool} {l:List Bx} (hw:1≤w∧w≤48) (hh:1≤h∧h≤48) (hl:l.length≤1000000):Fun FB md 96 [.sl c l.length (bxC l),.fn 93 [.rp [.int .i64 w] 0,.rp [.int .i64 h] 0]] (.int .i64 (bxI w h l 0)):=by
 refine Q04 rfl rfl ?_
 skip
 all_goals try (exfalso;omega)
 refine LoopP.by (fun i:Nat=>i≤l.length∧∀ j x,j<i→l[j]?=some x→Q1q w h x=false) (fun i=>[(8,.int .i64 (i:Nat))]) (fun i=>[]) (fun i=>l.length-i) 0 ⟨Nat.zero_le _,fun j v h=>absurd h (Nat.not_lt_zero _)⟩ rfl ?_
 rintro i ⟨w1,w2⟩
 dsimp only
 by_cases hi:i<l.length
 ·obtain ⟨x,hx⟩:∃ x,l[i]?=some x:=⟨_,jC hi⟩
  have hp:=Qbs hx
  have k1:=Qib (x:=x) hw hh
  have hiw:IntKind.i64.wrap ((i:Int)+1)=((i+1:Nat):Int):=by rw [wrap_i64 (by omega) (by omega)];omega
  have hil:i≤l.length-1:=by omega
  have h0l:0<l.length:=by omega
  have hnx:Q1q w h x=false→∀ j u,j<i+1→l[j]?=some u→Q1q w h u=false:=fun q j u hj hu=>by
   by_cases e:j=i
   ·subst e;rw [hx] at hu;cases hu;exact q
   ·exact w2 j u (by omega) hu
  cases e1:Q1q w h x<;>rw [e1] at k1
  ·have hnx:=hnx e1
   repeat' ((conv=>whnf);first|refine Bnd.eq hiw ?_|refine Br.f ?_|refine zT ?_|refine Get.mk _ hp ?_|refine zC k1 ?_|refine Idx.nat hil ?_|refine Req.mk h0l ?_)
   all_goals first|(exfalso;omega)|exact NextP.mk (i+1) ⟨hi,hnx⟩ (by omega) rfl
  ·have hE:bxI w h l 0=(i:Int):=by
    obtain ⟨hi',hg⟩:=jB.1 hx
    rw [Qbr w2,List.drop_eq_getElem_cons hi',hg,bxI,if_pos e1,Nat.zero_add]
   rw [hE]
   repeat' ((conv=>whnf);first|refine Br.t ?_|refine zT ?_|refine Get.mk _ hp ?_|refine zC k1 ?_|refine Idx.nat hil ?_|refine Req.mk h0l ?_|refine Get.mk _ rfl ?_|refine Leaves.of ?_|refine Vw.int ?_)
   all_goals first|rfl|(exfalso;omega)
 obtain rfl:i=l.length:=by omega
 have hE:bxI w h l 0 = -1:=by rw [Qbr w2,List.drop_length];rfl
 rw [hE]
 repeat' ((conv=>whnf);first|refine zF ?_|refine Get.mk _ rfl ?_|refine Leaves.of ?_|refine Vw.int ?_)
 all_goals first|rfl|(exfalso;omega)
theorem Q95 {w h:Int} {c:Bool} {l:List Bx} (hw:1≤w∧w≤48) (hh:1≤h∧h≤48) (hl:l.length≤1000000):Fun FB md 73 [.sl c l.length (bxC l),.fn 93 [.rp [.int .i64 w] 0,.rp [.int .i64 h] 0]] (.bool (l.any (Q1q w h))):=by
 have k1:=bxI_ok (c:=c) (l:=l) hw hh hl
 have k2:=Qnx (w:=w) (h:=h) (l:=l) (n:=0)
 generalize bxI w h l 0=z at *
 rw [← k2]
 refine Q04 rfl rfl ?_
 repeat' ((conv=>whnf);first|refine zC k1 ?_|refine Get.mk _ rfl ?_|refine Leaves.of ?_|refine Vw.bool ?_)
 all_goals first|rfl|(exfalso;omega)
structure Sp where
 k:Int
 fr:Int
 un:Int
 kc:Bool
 kp:List Bx
 a:Int
 b:Int
 c:Int
 tc:Bool
 tb:List UInt8
def spV (s:Sp):List V:=[.int .i64 s.k,.int .i64 s.fr,.int .i64 s.un,.sl s.kc s.kp.length (bxC s.kp),.int .i64 s.a,.int .i64 s.b,.int .i64 s.c,.sl s.tc s.tb.length (ofBytes s.tb)]
def loK (k:Int):Int × Int × Int:=if k=1 then (-47,-47,0) else if k=4 then (1,0,0) else if k=6 then (-255,0,0) else (0,0,0)
def hiK (k:Int):Int × Int × Int:=if k=1 then (47,47,255) else if k=3 then (47,47,0) else if k=4 then (255,255,0) else if k=5 then (1000,40,0) else if k=6 then (255,0,0) else (0,0,0)
def oddS (w:Int) (s:Sp):Bool :=
 outB s.a (loK s.k).1 (hiK s.k).1||outB s.b (loK s.k).2.1 (hiK s.k).2.1||outB s.c (loK s.k).2.2 (hiK s.k).2.2||decide (s.k=3)&&(decide (s.a>s.b)||decide (s.b≥w)||decide (s.b-s.a+1=w))
def spE (n:Nat) (w h:Int) (s:Sp):Int :=
 if outB s.k 1 6=true then 2 else if outB s.un 0 ((n:Int)-1)=true∨outB s.fr 0 s.un=true then 7 else if 6<s.kp.length then 3 else if s.kp.any (Q1q w h)=true∨oddS w s=true then 7 else if (s.tb.length:Int)≠(if s.k=2 then 256 else 0) then 2 else 0
end Go.Dr.T
