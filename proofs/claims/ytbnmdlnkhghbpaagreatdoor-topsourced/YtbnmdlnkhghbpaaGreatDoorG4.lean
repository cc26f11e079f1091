/- Top, of chapter 08: CheckSteps and its reference. -/
import Derived.Test.YtbnmdlnkhghbpaaGreatDoorR19Fc
set_option maxRecDepth 100000
set_option maxHeartbeats 20000000
namespace Go.Dr.T
def spC:List Sp→List V
 | []=>[]
 | s::l=>.int .i64 s.k::.int .i64 s.fr::.int .i64 s.un::.sl s.kc s.kp.length (bxC s.kp)::.int .i64 s.a::.int .i64 s.b::.int .i64 s.c::.sl s.tc s.tb.length (ofBytes s.tb)::spC l
theorem Q67:∀ l,(spC l).length=l.length*8
 | []=>rfl
 | _::l=>by simp only [spC,List.length_cons,Q67 l];omega
theorem Qgk:∀ {l:List Sp} {i:Nat} {s:Sp},l[i]?=some s→(spC l).drop (i*8)=spV s++spC (l.drop (i+1))
 | g::l,0,f,h=>by simp only [List.getElem?_cons_zero,jA] at h;subst h;rfl
 | g::l,i+1,f,h=>by
  rw [show (i+1)*8=i*8+1+1+1+1+1+1+1+1 by omega]
  simp only [spC,List.drop_succ_cons]
  exact Qgk (l:=l) (by simpa using h)
theorem Q5c {l:List Sp} {i:Nat} {s:Sp} (h:l[i]?=some s):part (spC l) (i*8) 8=some (spV s):=by
 unfold part
 simp only [Q3m,Q2r,Qgk h]
 rfl
theorem Q7g {w0 h0:Int} {f:Fm} (h:fmE w0 h0 f=0):(1≤f.w∧f.w≤48)∧(1≤f.h∧f.h≤48)∧(f.p.length:Int)=f.w*f.h∧f.w=w0∧f.h=h0:=by
 unfold fmE at h
 split at h
 ·cases h
 ·rename_i h1
  split at h
  ·cases h
  ·rename_i h2
   split at h
   ·cases h
   ·rename_i h3
    simp only [outB,Bool.or_eq_true,jG] at h1
    refine ⟨by omega,by omega,Classical.not_not.1 h2,?_,?_⟩
    ·exact Classical.not_not.1 fun q=>h3 (.inl q)
    ·exact Classical.not_not.1 fun q=>h3 (.inr q)
theorem Qh7 {w0 h0:Int}:∀ {l:List Fm} {n:Nat},(flF w0 h0 l n).2=0→∀ f∈l,fmE w0 h0 f=0
 | [],_,_,f,h=>nomatch h
 | g::l,n,h,f,hf=>by
  rw [flF] at h
  by_cases e:fmE w0 h0 g=0
  ·rw [if_neg (fun q=>q e)] at h
   rcases List.mem_cons.1 hf with rfl|hf
   ·exact e
   ·exact Qh7 h f hf
  ·rw [if_pos e] at h
   exact absurd h e
theorem Qbe {l:List Fm} (h:(flE l).2=0):∃ f0,l[0]?=some f0∧l.length≤12∧∀ f∈l,fmE f0.w f0.h f=0:=by
 cases l with
 | nil=>exact absurd h (by decide)
 | cons f l =>
  rw [flE] at h
  split at h
  ·exact absurd h (by decide)
  ·rename_i hl
   exact ⟨f,rfl,by omega,Qh7 h⟩
def csF (n:Nat) (w h:Int):List Sp→Nat→Int × Int
 | [],_=>(0,0)
 | s::l,i=>if spE n w h s≠0 then ((i:Int),spE n w h s) else csF n w h l (i+1)
def csG (l:List Fm) (ss:List Sp):Int × Int :=
 match l with
 | []=>(0,0)
 | f::l=>csF (f::l).length f.w f.h ss 0
theorem Qno {l:List Fm} {ss:List Sp} {f:Fm} (hf:l[0]?=some f):csG l ss=csF l.length f.w f.h ss 0:=by
 cases l with
 | nil=>cases hf
 | cons g l=>simp only [List.getElem?_cons_zero,jA] at hf;subst hf;rfl
def csE (l:List Fm) (ss:List Sp):Int × Int:=if (flE l).2≠0 then (0,(flE l).2) else if 20<ss.length then (0,3) else csG l ss
theorem Q5y {n:Nat} {w h:Int}:∀ {l:List Sp} {i m:Nat},(∀ j s,j<i→l[j]?=some s→spE n w h s=0)→csF n w h l m=csF n w h (l.drop i) (m+i)
 | l,0,m,_=>rfl
 | [],i+1,m,_=>rfl
 | s::l,i+1,m,hh=>by
  rw [csF,if_neg (fun e=>e (hh 0 s (Nat.succ_pos _) rfl)),List.drop_succ_cons,Q5y (l:=l) (i:=i) (m:=m+1) fun j g hj hg=>hh (j+1) g (by omega) (by simpa using hg)]
  congr 1
  omega
theorem Q4b {c d:Bool} {l:List Fm} {ss:List Sp}:Fun FB md 27 [.sl c l.length (fmC l),.sl d ss.length (spC ss)] (.tup [.int .i64 (csE l ss).1,.int .i64 (csE l ss).2]):=by
 have k1:=Q7k (c:=c) (l:=l)
 by_cases hE:(flE l).2=0
 rotate_left
 ·unfold csE
  rw [if_pos hE]
  generalize flE l=z at *
  obtain ⟨z1,z2⟩:=z
  dsimp only at *
  refine Q04 rfl rfl ?_
  repeat' ((conv=>whnf);first|refine zF ?_|refine Br.not ?_|refine zC k1 ?_|refine Get.mk _ rfl ?_|refine Leaves.of ?_|refine Vw.int ?_|refine Vw.tup ?_|refine VwL.cons ?_ ?_|refine VwL.nil)
  all_goals first|rfl|(exfalso;omega)
 obtain ⟨f,hf,hl,hall⟩:=Qbe hE
 obtain ⟨hw,hh,_⟩:=Q7g (hall f (jE hf))
 unfold csE
 rw [if_neg (fun q=>q hE)]
 rw [hE] at k1
 generalize (flE l).1=z1 at *
 by_cases h2:20<ss.length
 ·rw [if_pos h2]
  refine Q04 rfl rfl ?_
  repeat' ((conv=>whnf);first|refine Br.f ?_|refine zT ?_|refine zC k1 ?_|refine Get.mk _ rfl ?_|refine Leaves.of ?_|refine Vw.int ?_|refine Vw.tup ?_|refine VwL.cons ?_ ?_|refine VwL.nil)
  all_goals first|rfl|(exfalso;omega)
 rw [if_neg h2]
 rw [Qno hf]
 refine Q04 rfl rfl ?_
 repeat' ((conv=>whnf);first|refine Br.f ?_|refine zF ?_|refine zC k1 ?_|refine Get.mk _ rfl ?_)
 all_goals try (exfalso;omega)
 refine LoopP.by (fun i:Nat=>i≤ss.length∧∀ j s,j<i→ss[j]?=some s→spE l.length f.w f.h s=0) (fun i=>[(21,.int .i64 (i:Nat))]) (fun i=>[]) (fun i=>ss.length-i) 0 ⟨Nat.zero_le _,fun j v h=>absurd h (Nat.not_lt_zero _)⟩ rfl ?_
 rintro i ⟨w1,w2⟩
 dsimp only
 by_cases hi:i<ss.length
 ·obtain ⟨s,hs⟩:∃ s,ss[i]?=some s:=⟨_,jC hi⟩
  have hp:=Q5c hs
  have k3:=Qqd (c:=c) (s:=s) hf hl hw hh
  have hiw:IntKind.i64.wrap ((i:Int)+1)=((i+1:Nat):Int):=by rw [wrap_i64 (by omega) (by omega)];omega
  have hil:i≤ss.length-1:=by omega
  have h0l:0<ss.length:=by omega
  have hlc:i*8+8≤(spC ss).length:=by rw [Q67];omega
  have hnx:spE l.length f.w f.h s=0→∀ j u,j<i+1→ss[j]?=some u→spE l.length f.w f.h u=0:=fun q j u hj hu=>by
   by_cases e:j=i
   ·subst e;rw [hs] at hu;cases hu;exact q
   ·exact w2 j u (by omega) hu
  have hat:spE l.length f.w f.h s≠0→csF l.length f.w f.h ss 0=((i:Int),spE l.length f.w f.h s):=fun q=>by
   obtain ⟨hi',hg⟩:=jB.1 hs
   rw [Q5y w2,List.drop_eq_getElem_cons hi',hg,csF,if_pos q,Nat.zero_add]
  generalize spE l.length f.w f.h s=e at *
  by_cases he:e=0
  ·have hny:=hnx he
   subst he
   repeat' ((conv=>whnf);first|refine Bnd.eq hiw ?_|refine Br.f ?_|refine zT ?_|refine Get.mk _ hp ?_|refine Idx.nat hil ?_|refine Req.mk h0l ?_|refine zC k3 ?_|refine Get.mk _ rfl ?_|refine zR ?_)
   all_goals first|(exfalso;omega)|exact NextP.mk (i+1) ⟨hi,hny⟩ (by omega) rfl
  ·rw [hat he]
   repeat' ((conv=>whnf);first|refine zT ?_|refine zF ?_|refine Br.not ?_|refine Get.mk _ hp ?_|refine Idx.nat hil ?_|refine Req.mk h0l ?_|refine zC k3 ?_|refine Get.mk _ rfl ?_|refine Leaves.of ?_|refine Vw.int ?_|refine Vw.tup ?_|refine VwL.cons ?_ ?_|refine VwL.nil|refine zR ?_)
   all_goals first|rfl|(exfalso;omega)
 obtain rfl:i=ss.length:=by omega
 have hz:csF l.length f.w f.h ss 0=(0,0):=by rw [Q5y w2,List.drop_length];rfl
 rw [hz]
 repeat' ((conv=>whnf);first|refine zF ?_|refine Get.mk _ rfl ?_|refine Leaves.of ?_|refine Vw.int ?_|refine Vw.tup ?_|refine VwL.cons ?_ ?_|refine VwL.nil)
 all_goals first|rfl|(exfalso;omega)
end Go.Dr.T
namespace Go.Dr.T
structure FOk (l:List Fm) (W H:Nat):Prop where
 n0:0<l.length
 n12:l.length≤12
 w:1≤W∧W≤48
 h:1≤H∧H≤48
 all:∀ f∈l,f.w=(W:Int)∧f.h=(H:Int)∧f.p.length=W*H
theorem FOk.of {l:List Fm} (h:(flE l).2=0):∃ W H,FOk l W H:=by
 obtain ⟨f0,h0,hl,ha⟩:=Qbe h
 obtain ⟨hw,hh,hp,_⟩:=Q7g (ha f0 (jE h0))
 refine ⟨f0.w.toNat,f0.h.toNat,?_,hl,by omega,by omega,fun f hf=>?_⟩
 ·cases l with
  | nil=>cases h0
  | cons x l=>exact Nat.succ_pos _
 ·obtain ⟨_,_,h3,h4,h5⟩:=Q7g (ha f hf)
  refine ⟨by omega,by omega,?_⟩
  rw [h4,h5] at h3
  have e:((f0.w.toNat*f0.h.toNat:Nat):Int)=f0.w*f0.h:=by rw [Int.natCast_mul,Int.toNat_of_nonneg (by omega),Int.toNat_of_nonneg (by omega)]
  exact Int.ofNat.inj (h3.trans e.symm)
theorem FOk.nn {l:List Fm} {W H:Nat} (o:FOk l W H):1≤W*H∧W*H≤2304:=⟨Nat.mul_pos o.w.1 o.h.1,Nat.mul_le_mul o.w.2 o.h.2⟩
theorem FOk.ix {l:List Fm} {W H x y:Nat} (_:FOk l W H) (hx:x<W) (hy:y<H):y*W+x<W*H:=by
 have:(y+1)*W≤H*W:=Nat.mul_le_mul_right _ hy
 rw [Nat.add_mul,Nat.mul_comm H W] at this
 omega
def pixI (l:List Fm) (i n:Nat):Nat :=
 match l[i]? with
 | some f=>(f.p.getD n 0).toNat
 | none=>0
theorem Qee {l:List Fm} {i n:Nat}:pixI l i n<256:=by
 unfold pixI
 split
 ·exact UInt8.toNat_lt _
 ·decide
theorem Qaz {l:List Fm} {i n:Nat} {f:Fm} (hf:l[i]?=some f):pixI l i n=(f.p.getD n 0).toNat:=by unfold pixI;rw [hf]
theorem Q5f {p:List UInt8} {n:Nat} (h:n<p.length):Q0h (ofBytes p) (n*1)=some (.int .u8 ((p.getD n 0).toNat:Nat)):=by
 rw [Nat.mul_one,Q2h h,jM,jC h]
 rfl
theorem FOk.at {l:List Fm} {W H i:Nat} (o:FOk l W H) (hi:i<l.length):∃ f,l[i]?=some f∧f.w=(W:Int)∧f.h=(H:Int)∧f.p.length=W*H :=
 ⟨l[i],jC hi,o.all _ (List.getElem_mem hi)⟩
def oldB (N W H:Nat) (i x y:Int):Bool := !(outB i 0 ((N:Int)-1)||outB x 0 ((W:Int)-1)||outB y 0 ((H:Int)-1))
def oldN (l:List Fm) (W H:Nat) (i x y:Int):Int:=if oldB l.length W H i x y=true then ((pixI l i.toNat (y.toNat*W+x.toNat):Nat):Int) else 0
theorem Qgs {N W H i x y:Nat} (hi:i<N) (hx:x<W) (hy:y<H):oldB N W H i x y=true:=by
 simp only [oldB,outB,Bool.not_eq_true',jL,jI]
 omega
theorem Qpb {l:List Fm} {W H i x y:Nat} (hi:i<l.length) (hx:x<W) (hy:y<H):oldN l W H i x y=((pixI l i (y*W+x):Nat):Int):=by
 unfold oldN
 rw [if_pos (Qgs hi hx hy)]
 rfl
theorem Qtd {N W H:Nat} {i x y:Int} (h:oldB N W H i x y=true):∃ I X Y:Nat,i=I∧x=X∧y=Y∧I<N∧X<W∧Y<H:=by
 simp only [oldB,outB,Bool.not_eq_true',jL,jI] at h
 exact ⟨i.toNat,x.toNat,y.toNat,by omega,by omega,by omega,by omega,by omega,by omega⟩
theorem Q79 {l:List Fm} {W H:Nat} {i x y:Int}:0≤oldN l W H i x y∧oldN l W H i x y≤255:=by
 unfold oldN
 split
 ·have:=Qee (l:=l) (i:=i.toNat) (n:=y.toNat*W+x.toNat)
  omega
 ·decide
def wkC (s:Sp) (c:Bool) (l:List Fm) (i x y n:Int):List V:=[.int .i64 s.k,.int .i64 s.fr,.int .i64 s.un,.sl s.kc s.kp.length (bxC s.kp),.int .i64 s.a,.int .i64 s.b,.int .i64 s.c,.sl s.tc s.tb.length (ofBytes s.tb),.sl c l.length (fmC l),.int .i64 i,.int .i64 x,.int .i64 y,.int .i64 n]
theorem Q82 {s:Sp} {c:Bool} {l:List Fm} {W H:Nat} {fi fx fy fn i x y:Int} (o:FOk l W H):Fun FB md 40 [.rp (wkC s c l fi fx fy fn) 0,.int .i64 i,.int .i64 x,.int .i64 y] (.tup [.int .i64 (oldN l W H i x y),.bool (oldB l.length W H i x y)]):=by
 obtain ⟨f0,hf0,h0w,h0h,h0p⟩:=o.at o.n0
 obtain ⟨b0,b1,b2⟩:=fm_c hf0
 rw [h0w] at b0
 rw [h0h] at b1
 have o1:=o.n12
 have o2:=o.n0
 have o3:=o.w
 have o4:=o.h
 have q1:=Q0z (n:=i) (lo:=0) (hi:=(l.length:Int)-1)
 have q2:=Q0z (n:=x) (lo:=0) (hi:=(W:Int)-1)
 have q3:=Q0z (n:=y) (lo:=0) (hi:=(H:Int)-1)
 have hlw:IntKind.i64.wrap ((l.length:Int)-1)=(l.length:Int)-1:=wrap_i64 (by omega) (by omega)
 have hww:IntKind.i64.wrap ((W:Int)-1)=(W:Int)-1:=wrap_i64 (by omega) (by omega)
 have hhw:IntKind.i64.wrap ((H:Int)-1)=(H:Int)-1:=wrap_i64 (by omega) (by omega)
 cases hB:oldB l.length W H i x y with
 | false =>
  have hN:oldN l W H i x y=0:=by unfold oldN;rw [hB];rfl
  rw [hN]
  unfold oldB at hB
  cases e1:outB i 0 ((l.length:Int)-1)<;>rw [e1] at q1
  rotate_left
  ·refine Q04 rfl rfl ?_
   repeat' ((conv=>whnf);first|refine Bnd.eq hlw ?_|refine Br.t ?_|refine zC q1 ?_|refine Get.mk _ rfl ?_|refine Leaves.of ?_|refine Vw.bool ?_|refine Vw.int ?_|refine Vw.tup ?_|refine VwL.cons ?_ ?_|refine VwL.nil)
   all_goals first|rfl|(exfalso;omega)
  cases e2:outB x 0 ((W:Int)-1)<;>rw [e2] at q2
  rotate_left
  ·refine Q04 rfl rfl ?_
   repeat' ((conv=>whnf);first|refine Bnd.eq hlw ?_|refine Bnd.eq hww ?_|refine Br.t ?_|refine Br.f ?_|refine Get.mk _ b0 ?_|refine zC q1 ?_|refine zC q2 ?_|refine Req.mk o.n0 ?_|refine zI ?_|refine Get.mk _ rfl ?_|refine Leaves.of ?_|refine Vw.bool ?_|refine Vw.int ?_|refine Vw.tup ?_|refine VwL.cons ?_ ?_|refine VwL.nil)
   all_goals first|rfl|(exfalso;omega)
  cases e3:outB y 0 ((H:Int)-1)<;>rw [e3] at q3
  rotate_left
  ·refine Q04 rfl rfl ?_
   repeat' ((conv=>whnf);first|refine Bnd.eq hlw ?_|refine Bnd.eq hww ?_|refine Bnd.eq hhw ?_|refine Br.t ?_|refine Br.f ?_|refine Get.mk _ b0 ?_|refine Get.mk _ b1 ?_|refine zC q1 ?_|refine zC q2 ?_|refine zC q3 ?_|refine Req.mk o.n0 ?_|refine zI ?_|refine Get.mk _ rfl ?_|refine Leaves.of ?_|refine Vw.bool ?_|refine Vw.int ?_|refine Vw.tup ?_|refine VwL.cons ?_ ?_|refine VwL.nil)
   all_goals first|rfl|(exfalso;omega)
  rw [e1,e2,e3] at hB
  cases hB
 | true =>
  obtain ⟨I,X,Y,rfl,rfl,rfl,hI,hX,hY⟩:=Qtd hB
  rw [Qpb hI hX hY]
  obtain ⟨f,hf,_,_,hfp⟩:=o.at hI
  have hm:=o.ix hX hY
  have hc:=Q5f (p:=f.p) (n:=Y*W+X) (by omega)
  obtain ⟨_,_,a2⟩:=fm_c hf
  rw [Qaz hf]
  have hlt:=UInt8.toNat_lt (f.p.getD (Y*W+X) 0)
  generalize (f.p.getD (Y*W+X) 0).toNat=v at *
  have hnn:=o.nn
  have hYW:IntKind.i64.wrap ((Y:Int)*(W:Int))=((Y*W:Nat):Int):=by rw [wrap_i64]<;>rw [← Int.natCast_mul]<;>omega
  have hYX:IntKind.i64.wrap (((Y*W:Nat):Int)+(X:Int))=((Y*W+X:Nat):Int):=by rw [wrap_i64]<;>omega
  have hIl:I≤l.length-1:=by omega
  have hml:Y*W+X≤f.p.length-1:=by omega
  have h0l:0<f.p.length:=by omega
  have g1:outB (I:Int) 0 ((l.length:Int)-1)=false:=by simp only [outB,jL,jI];omega
  have g2:outB (X:Int) 0 ((W:Int)-1)=false:=by simp only [outB,jL,jI];omega
  have g3:outB (Y:Int) 0 ((H:Int)-1)=false:=by simp only [outB,jL,jI];omega
  rw [g1] at q1
  rw [g2] at q2
  rw [g3] at q3
  refine Q04 rfl rfl ?_
  repeat' ((conv=>whnf);first|refine Bnd.eq hlw ?_|refine Bnd.eq hww ?_|refine Bnd.eq hhw ?_|refine Bnd.eq hYW ?_|refine Bnd.eq hYX ?_|refine Br.f ?_|refine zB ?_|refine Get.mk _ b0 ?_|refine Get.mk _ b1 ?_|refine Get.mk _ a2 ?_|refine Get.mk _ hc ?_|refine zC q1 ?_|refine zC q2 ?_|refine zC q3 ?_|refine Req.mk o.n0 ?_|refine Idx.nat hIl ?_|refine Idx.nat hml ?_|refine Req.mk h0l ?_|refine zI ?_|refine Get.mk _ rfl ?_|refine Leaves.of ?_|refine Vw.bool ?_|refine Vw.int ?_|refine Vw.tup ?_|refine VwL.cons ?_ ?_|refine VwL.nil)
  all_goals first|rfl|(exfalso;omega)
def inBx (x y:Int) (b:Bx):Bool := !outB x b.l b.r && !outB y b.t b.b
def Q35 (s:Sp) (i x y:Int):Bool:=outB i s.fr s.un||s.kp.any (inBx x y)
theorem Qu3 {s:Sp} {c:Bool} {l:List Fm} {i x y n:Int} {b:Bx}:Fun FB md 74 [.agg (bxV b),.rp [.rp (wkC s c l i x y n) 0] 0] (.bool (inBx x y b)):=by
 have k1:=Q0z (n:=x) (lo:=b.l) (hi:=b.r)
 have k2:=Q0z (n:=y) (lo:=b.t) (hi:=b.b)
 unfold inBx bxV
 generalize outB x b.l b.r=y1 at *
 generalize outB y b.t b.b=y2 at *
 refine Q04 rfl rfl ?_
 cases y1<;>cases y2
 all_goals
  repeat' ((conv=>whnf);first|refine Br.t ?_|refine Br.f ?_|refine zC k1 ?_|refine zC k2 ?_|refine Get.mk _ rfl ?_|refine Leaves.of ?_|refine Vw.bool ?_|refine zR ?_)
  all_goals first|rfl|(exfalso;omega)
def bxJ (p:Bx→Bool):List Bx→Nat→Int
 | [],_ => -1
 | x::l,i=>if p x=true then (i:Int) else bxJ p l (i+1)
theorem Qbq {p:Bx→Bool}:∀ {l:List Bx} {i n:Nat},(∀ j x,j<i→l[j]?=some x→p x=false)→bxJ p l n=bxJ p (l.drop i) (n+i)
 | l,0,n,_=>rfl
 | [],i+1,n,_=>rfl
 | f::l,i+1,n,hh=>by
  rw [bxJ,if_neg (by rw [hh 0 f (Nat.succ_pos _) rfl];decide),List.drop_succ_cons,Qbq (l:=l) (i:=i) (n:=n+1) fun j g hj hg=>hh (j+1) g (by omega) (by simpa using hg)]
  congr 1
  omega
theorem Qnw {p:Bx→Bool}:∀ {l:List Bx} {n:Nat},decide (bxJ p l n≥0)=l.any p
 | [],n=>rfl
 | x::l,n=>by
  rw [bxJ,List.any_cons]
  cases e:p x
  ·rw [if_neg (by decide),Qnw (l:=l),Bool.false_or]
  ·rw [if_pos rfl,Bool.true_or]
   exact decide_eq_true (by omega)
theorem inI_ok {s:Sp} {c d:Bool} {l:List Fm} {i x y n:Int} {kp:List Bx} (hl:kp.length≤6):Fun FB md 96 [.sl d kp.length (bxC kp),.fn 74 [.rp [.rp (wkC s c l i x y n) 0] 0]] (.int .i64 (bxJ (inBx x y) kp 0)):=by
 refine Q04 rfl rfl ?_
 skip
 all_goals try (exfalso;omega)
 refine LoopP.by (fun i:Nat=>i≤kp.length∧∀ j z,j<i→kp[j]?=some z→inBx x y z=false) (fun i=>[(8,.int .i64 (i:Nat))]) (fun i=>[]) (fun i=>kp.length-i) 0 ⟨Nat.zero_le _,fun j v h=>absurd h (Nat.not_lt_zero _)⟩ rfl ?_
 rintro j ⟨w1,w2⟩
 dsimp only
 by_cases hi:j<kp.length
 ·obtain ⟨z,hx⟩:∃ z,kp[j]?=some z:=⟨_,jC hi⟩
  have hp:=Qbs hx
  have k1:=Qu3 (s:=s) (c:=c) (l:=l) (i:=i) (x:=x) (y:=y) (n:=n) (b:=z)
  have hiw:IntKind.i64.wrap ((j:Int)+1)=((j+1:Nat):Int):=by rw [wrap_i64 (by omega) (by omega)];omega
  have hil:j≤kp.length-1:=by omega
  have h0l:0<kp.length:=by omega
  have hnx:inBx x y z=false→∀ k u,k<j+1→kp[k]?=some u→inBx x y u=false:=fun q k u hj hu=>by
   by_cases e:k=j
   ·subst e;rw [hx] at hu;cases hu;exact q
   ·exact w2 k u (by omega) hu
  cases e1:inBx x y z<;>rw [e1] at k1
  ·have hnx:=hnx e1
   repeat' ((conv=>whnf);first|refine Bnd.eq hiw ?_|refine Br.f ?_|refine zT ?_|refine Get.mk _ hp ?_|refine zC k1 ?_|refine Idx.nat hil ?_|refine Req.mk h0l ?_)
   all_goals first|(exfalso;omega)|exact NextP.mk (j+1) ⟨hi,hnx⟩ (by omega) rfl
  ·have hE:bxJ (inBx x y) kp 0=(j:Int):=by
    obtain ⟨hi',hg⟩:=jB.1 hx
    rw [Qbq w2,List.drop_eq_getElem_cons hi',hg,bxJ,if_pos e1,Nat.zero_add]
   rw [hE]
   repeat' ((conv=>whnf);first|refine Br.t ?_|refine zT ?_|refine Get.mk _ hp ?_|refine zC k1 ?_|refine Idx.nat hil ?_|refine Req.mk h0l ?_|refine Get.mk _ rfl ?_|refine Leaves.of ?_|refine Vw.int ?_)
   all_goals first|rfl|(exfalso;omega)
 obtain rfl:j=kp.length:=by omega
 have hE:bxJ (inBx x y) kp 0 = -1:=by rw [Qbq w2,List.drop_length];rfl
 rw [hE]
 repeat' ((conv=>whnf);first|refine zF ?_|refine Get.mk _ rfl ?_|refine Leaves.of ?_|refine Vw.int ?_)
 all_goals first|rfl|(exfalso;omega)
theorem inA_ok {s:Sp} {c d:Bool} {l:List Fm} {i x y n:Int} {kp:List Bx} (hl:kp.length≤6):Fun FB md 73 [.sl d kp.length (bxC kp),.fn 74 [.rp [.rp (wkC s c l i x y n) 0] 0]] (.bool (kp.any (inBx x y))):=by
 have k1:=inI_ok (s:=s) (c:=c) (d:=d) (l:=l) (i:=i) (x:=x) (y:=y) (n:=n) hl
 have k2:=Qnw (p:=inBx x y) (l:=kp) (n:=0)
 generalize bxJ (inBx x y) kp 0=z at *
 rw [← k2]
 refine Q04 rfl rfl ?_
 repeat' ((conv=>whnf);first|refine zC k1 ?_|refine Get.mk _ rfl ?_|refine Leaves.of ?_|refine Vw.bool ?_)
 all_goals first|rfl|(exfalso;omega)
theorem Q4n {s:Sp} {c:Bool} {l:List Fm} {i x y n:Int} (hl:s.kp.length≤6):Fun FB md 39 [.rp (wkC s c l i x y n) 0] (.bool (Q35 s i x y)):=by
 have k1:=Q0z (n:=i) (lo:=s.fr) (hi:=s.un)
 have k2:=inA_ok (s:=s) (c:=c) (d:=s.kc) (l:=l) (i:=i) (x:=x) (y:=y) (n:=n) hl
 unfold Q35
 generalize outB i s.fr s.un=y1 at *
 generalize s.kp.any (inBx x y)=y2 at *
 refine Q04 rfl rfl ?_
 cases y1<;>cases y2
 all_goals
  repeat' ((conv=>whnf);first|refine Br.t ?_|refine Br.f ?_|refine zC k1 ?_|refine Q06 rfl rfl k2 (.inr rfl) ?_|refine Get.mk _ rfl ?_|refine Leaves.of ?_|refine Vw.bool ?_|refine zR ?_)
  all_goals first|rfl|(exfalso;omega)
end Go.Dr.T
