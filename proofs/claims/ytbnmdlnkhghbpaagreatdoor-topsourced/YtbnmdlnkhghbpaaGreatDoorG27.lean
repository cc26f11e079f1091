/- Top: law TopSourced, walked: a frame of its film. -/
import Derived.Test.YtbnmdlnkhghbpaaGreatDoorG26
import Derived.Test.YtbnmdlnkhghbpaaGreatDoorG20
set_option maxRecDepth 100000
set_option maxHeartbeats 20000000
namespace Go.Dr.T
theorem bodyF {tm:List V} {G:List B} {Q:X→St→Prop} {W H i:Nat} {c g:Bool} {l:List T6.El} {P:List T6.T3} {t:T6.T3} {xv:List V} {v:V} (h1:1≤W∧W≤7) (h2:1≤H∧H≤7) (hP:P.length≤12) (hll:l.length≤1000000) (hsl:∀ x∈l,x.l.length≤1000000) (ht:P[i]?=some t) (hpk:PkOk l t)
  (htm:tm=TMF (tg tm) c g l.length P.length W H i (T6.elC l) (T6.trC P) v) (w:PF xv (pkFs W H (P.take i)) v G)
  (hQ:∀ tm' v' G',PF xv (pkFs W H (P.take (i+1))) v' G'→G.length≤G'.length→(∃ Y,tm'=TMFY (tg tm) Y c g l.length P.length W H i (T6.elC l) (T6.trC P) v')→Q .nrm ⟨tm',G'⟩):wp FB1 md 0 BF ⟨tm,G⟩ Q:=by
 generalize tg tm=T at *
 subst htm
 have hQ2:∀ tm' v' G',PF xv (pkFs W H (P.take (i+1))) v' G'→G.length≤G'.length→tm'=TMFY T (tg tm') c g l.length P.length W H i (T6.elC l) (T6.trC P) v'→Q .nrm ⟨tm',G'⟩:=fun tm' v' G' a1 a2 a3=>hQ tm' v' G' a1 a2 ⟨tg tm',a3⟩
 clear hQ
 have hi:=(jB.1 ht).1
 have htk:=Ql6 (W:=W) (H:=H) ht
 have hp1:=Qop ht
 obtain ⟨e,k,x,p,hte,hx,hp,hm⟩:=hpk
 obtain ⟨m,t2⟩:=t
 dsimp only at hte hm
 cases hte
 subst hm
 dsimp only at hp1
 have hel:=elC_at hx
 have hsh:=shC_at hp
 have hel1:=(jB.1 hx).1
 have hkl1:=(jB.1 hp).1
 have hxl:=hsl x (jE hx)
 have hi1:i≤P.length-1:=by omega
 have he1:e≤l.length-1:=by omega
 have hk1:k≤x.l.length-1:=by omega
 have hP0:0<P.length:=by omega
 have hl0:0<l.length:=by omega
 have hx0:0<x.l.length:=by omega
 have k6:Fun FB1 md 6 _ _:=tabF (Qkn (e:=(e:Nat)) (k:=(k:Nat)) h1 h2 (by omega) (by omega))
 have hpf:pkF W H (p.1,((e:Nat):Int),((k:Nat):Int))=⟨false,W,H,shL (e:Nat) (k:Nat) (W*H)⟩:=rfl
 rw [hpf] at htk
 clear hpf
 generalize shL (e:Nat) (k:Nat) (W*H)=q at *
 have hFl:(pkFs W H (P.take i)).length=i:=by rw [Q3o,jQ];omega
 have hle:=w.le
 have hX:hasc G.length [B.blk [.int .i64 p.1,.int .i64 (e:Nat),.int .i64 (k:Nat)] false]:=⟨rfl,trivial⟩
 have hGl:(G++[B.blk [.int .i64 p.1,.int .i64 (e:Nat),.int .i64 (k:Nat)] false]).length=G.length+1:=by rw [jD];rfl
 have w2:=w.app hX
 unfold BF TMF
 rcases w.film with ⟨f1,rfl⟩|⟨r,r1,_,rfl,hr⟩
 ·repeat' ((conv=>whnf);first|refine Br.f ?_|refine zT ?_|refine zF ?_|refine Br.not ?_|refine fLen.mk ?_|refine fB.i0 ?_|refine fB.i1 ?_|refine Get.mk _ hp1 ?_|refine Get.mk _ hel ?_|refine Get.mk _ hsh ?_|refine Idx.nat hi1 ?_|refine Idx.nat he1 ?_|refine Idx.nat hk1 ?_|refine Req.mk hP0 ?_|refine Req.mk hl0 ?_|refine Req.mk hx0 ?_|refine zC k6 ?_|refine Req.mk (bget_new (i:=1)) ?_|refine Get.newj 0 rfl rfl ?_|refine fB.newj 0 rfl ?_|refine Get.newj 1 rfl rfl ?_|refine fB.newj 1 rfl ?_|refine Get.mk _ (Q01 (bget_new (i:=0))) ?_|refine zZ ?_|refine Get.mk _ rfl ?_|refine zR ?_)
  all_goals try (exfalso;omega)
  rw [f1] at w2 htk
  rw [List.nil_append] at htk
  have hf:=w2.first (g:=⟨false,W,H,q⟩) (k:=(G++[B.blk [.int .i64 p.1,.int .i64 (e:Nat),.int .i64 (k:Nat)] false]).length+1) rfl
  rw [← htk] at hf
  exact hQ2 _ _ _ hf (by rw [jD,jD];omega) rfl
 ·have hrl:=Q05 hr
  have hlen3:(fmC (pkFs W H (P.take i))).length=(pkFs W H (P.take i)).length*3:=Q0e _
  have hsz:∀ {y:List V},y.length=3→0+(pkFs W H (P.take i)).length*3=(pkFs W H (P.take i)).length*3∧((fmC (pkFs W H (P.take i))).length+y.length)*(40+1)<big:=fun {y} h=>⟨Nat.zero_add _,by rw [hlen3,hFl,h];unfold big;omega⟩
  have hsz:=hsz (y:=[V.int .i64 (W:Nat),.int .i64 (H:Nat),.sl false q.length (ofBytes q)]) rfl
  have hq2:bget ((G++[B.blk [.int .i64 p.1,.int .i64 (e:Nat),.int .i64 (k:Nat)] false])++[B.unborn,B.unborn]) r=some (.blk (fmC (pkFs W H (P.take i))) false):=Q01 (Q01 hr)
  repeat' ((conv=>whnf);first|refine Br.f ?_|refine zT ?_|refine zF ?_|refine Br.not ?_|refine fLen.mk ?_|refine fB.i0 ?_|refine fB.i1 ?_|refine Get.mk _ hp1 ?_|refine Get.mk _ hel ?_|refine Get.mk _ hsh ?_|refine Idx.nat hi1 ?_|refine Idx.nat he1 ?_|refine Idx.nat hk1 ?_|refine Req.mk hP0 ?_|refine Req.mk hl0 ?_|refine Req.mk hx0 ?_|refine zC k6 ?_|refine Get.mk _ hq2 ?_|refine Req.mk hlen3 ?_|refine Req.mk hsz ?_|refine Get.newj 0 rfl rfl ?_|refine fB.newj 0 rfl ?_|refine Get.mk _ (Q01 (bget_new (i:=0))) ?_|refine fB.mk ?_|refine zZ ?_|refine Get.mk _ rfl ?_|refine zR ?_)
  all_goals try (exfalso;omega)
  have hf:=(w2.app (X:=[B.unborn,B.unborn]) ⟨rfl,rfl,trivial⟩).more (g:=⟨false,W,H,q⟩) rfl rfl
  rw [← htk] at hf
  exact hQ2 _ _ _ hf (by rw [Q03,jD,jD];omega) rfl
end Go.Dr.T
namespace Go.Dr.T
def atB (i q:Int) (x:Cg):Bool:=decide (x.f=i)&&decide (x.p=q)
def cgJ (p:Cg→Bool):List Cg→Nat→Int
 | [],_ => -1
 | x::l,i=>if p x=true then (i:Int) else cgJ p l (i+1)
theorem Qbm {p:Cg→Bool}:∀ {l:List Cg} {i n:Nat},(∀ j x,j<i→l[j]?=some x→p x=false)→cgJ p l n=cgJ p (l.drop i) (n+i)
 | l,0,n,_=>rfl
 | [],i+1,n,_=>rfl
 | f::l,i+1,n,hh=>by
  rw [cgJ,if_neg (by rw [hh 0 f (Nat.succ_pos _) rfl];decide),List.drop_succ_cons,Qbm (l:=l) (i:=i) (n:=n+1) fun j g hj hg=>hh (j+1) g (by omega) (by simpa using hg)]
  congr 1
  omega
theorem Qnt {p:Cg→Bool}:∀ {l:List Cg} {n:Nat},decide (cgJ p l n≥0)=l.any p
 | [],n=>rfl
 | x::l,n=>by
  rw [cgJ,List.any_cons]
  cases e:p x
  ·rw [if_neg (by decide),Qnt (l:=l),Bool.false_or]
  ·rw [if_pos rfl,Bool.true_or]
   exact decide_eq_true (by omega)
theorem Quu {x:Cg} {i q z:Int}:Fun FB md 43 [.agg (cgV x),.rp [.int .i64 i] 0,.rp [.int .i64 z,.int .i64 q] 0] (.bool (atB i q x)):=by
 unfold atB cgV
 refine Q04 rfl rfl ?_
 by_cases h1:x.f=i
 ·rw [decide_eq_true h1,Bool.true_and]
  repeat' ((conv=>whnf);first|refine zT ?_|refine Get.mk _ rfl ?_|refine Leaves.of ?_|refine Vw.bool ?_|refine zR ?_)
  all_goals first|rfl|(exfalso;omega)
 ·rw [decide_eq_false h1,Bool.false_and]
  repeat' ((conv=>whnf);first|refine zF ?_|refine Get.mk _ rfl ?_|refine Leaves.of ?_|refine Vw.bool ?_|refine zR ?_)
  all_goals first|rfl|(exfalso;omega)
theorem atI_ok {i q z:Int} {d:Bool} {cs:List Cg} (hl:cs.length≤30000):Fun FB md 75 [.sl d cs.length (cgC cs),.fn 43 [.rp [.int .i64 i] 0,.rp [.int .i64 z,.int .i64 q] 0]] (.int .i64 (cgJ (atB i q) cs 0)):=by
 refine Q04 rfl rfl ?_
 skip
 all_goals try (exfalso;omega)
 refine LoopP.by (fun k:Nat=>k≤cs.length∧∀ j z,j<k→cs[j]?=some z→atB i q z=false) (fun k=>[(8,.int .i64 (k:Nat))]) (fun k=>[]) (fun k=>cs.length-k) 0 ⟨Nat.zero_le _,fun j v h=>absurd h (Nat.not_lt_zero _)⟩ rfl ?_
 rintro j ⟨w1,w2⟩
 dsimp only
 by_cases hi:j<cs.length
 ·obtain ⟨y,hx⟩:∃ z,cs[j]?=some z:=⟨_,jC hi⟩
  have hp:=Q7l hx
  have k1:=Quu (x:=y) (i:=i) (q:=q) (z:=z)
  have hiw:IntKind.i64.wrap ((j:Int)+1)=((j+1:Nat):Int):=by rw [wrap_i64 (by omega) (by omega)];omega
  have hil:j≤cs.length-1:=by omega
  have h0l:0<cs.length:=by omega
  have hnx:atB i q y=false→∀ k u,k<j+1→cs[k]?=some u→atB i q u=false:=fun e k u hj hu=>by
   by_cases e':k=j
   ·subst e';rw [hx] at hu;cases hu;exact e
   ·exact w2 k u (by omega) hu
  cases e1:atB i q y<;>rw [e1] at k1
  ·have hnx:=hnx e1
   repeat' ((conv=>whnf);first|refine Bnd.eq hiw ?_|refine Br.f ?_|refine zT ?_|refine Get.mk _ hp ?_|refine zC k1 ?_|refine Idx.nat hil ?_|refine Req.mk h0l ?_)
   all_goals first|(exfalso;omega)|exact NextP.mk (j+1) ⟨hi,hnx⟩ (by omega) rfl
  ·have hE:cgJ (atB i q) cs 0=(j:Int):=by
    obtain ⟨hi',hg⟩:=jB.1 hx
    rw [Qbm w2,List.drop_eq_getElem_cons hi',hg,cgJ,if_pos e1,Nat.zero_add]
   rw [hE]
   repeat' ((conv=>whnf);first|refine Br.t ?_|refine zT ?_|refine Get.mk _ hp ?_|refine zC k1 ?_|refine Idx.nat hil ?_|refine Req.mk h0l ?_|refine Get.mk _ rfl ?_|refine Leaves.of ?_|refine Vw.int ?_)
   all_goals first|rfl|(exfalso;omega)
 obtain rfl:j=cs.length:=by omega
 have hE:cgJ (atB i q) cs 0 = -1:=by rw [Qbm w2,List.drop_length];rfl
 rw [hE]
 repeat' ((conv=>whnf);first|refine zF ?_|refine Get.mk _ rfl ?_|refine Leaves.of ?_|refine Vw.int ?_)
 all_goals first|rfl|(exfalso;omega)
theorem atA_ok {i q z:Int} {d:Bool} {cs:List Cg} (hl:cs.length≤30000):Fun FB md 42 [.sl d cs.length (cgC cs),.fn 43 [.rp [.int .i64 i] 0,.rp [.int .i64 z,.int .i64 q] 0]] (.bool (cs.any (atB i q))):=by
 have k1:=atI_ok (i:=i) (q:=q) (z:=z) (d:=d) hl
 have k2:=Qnt (p:=atB i q) (l:=cs) (n:=0)
 generalize cgJ (atB i q) cs 0=z at *
 rw [← k2]
 refine Q04 rfl rfl ?_
 repeat' ((conv=>whnf);first|refine zC k1 ?_|refine Get.mk _ rfl ?_|refine Leaves.of ?_|refine Vw.bool ?_)
 all_goals first|rfl|(exfalso;omega)
theorem Qfk {NU:Nat→UInt8} {i:Nat} {p:List UInt8} {i' q:Nat}:∀ {m:Nat},(cgM NU i p m).any (atB i' q)=(decide (i=i')&&(decide (q<m) && !decide (NU q=p.getD q 0)))
 | 0=>by simp [cgM]
 | m+1=>by
  have ih:=Qfk (NU:=NU) (i:=i) (p:=p) (i':=i') (q:=q) (m:=m)
  rw [cgM]
  by_cases e:NU m=p.getD m 0
  ·rw [if_pos e,ih]
   by_cases h:q=m
   ·subst h;simp [e]
   ·rw [show decide (q<m+1)=decide (q<m) from decide_eq_decide.2 (by omega)]
  ·rw [if_neg e,List.any_append,ih]
   simp only [List.any_cons,List.any_nil,Bool.or_false,atB]
   by_cases h:q=m
   ·subst h
    rw [decide_eq_false e]
    by_cases hi:i=i'
    ·subst hi;simp
    ·have:¬ (i:Int)=(i':Int):=by omega
     simp [hi,this]
   ·rw [show decide (q<m+1)=decide (q<m) from decide_eq_decide.2 (by omega),show decide ((m:Int)=(q:Int))=false from decide_eq_false (by omega),Bool.and_false,Bool.or_false]
theorem cgA_any {NU:Nat→Nat→UInt8} {l:List Fm} {i' q:Nat}:∀ {n:Nat},(cgA NU l n).any (atB i' q)=(decide (i'<n)&&(match l[i']? with
  | some f=>decide (q<f.p.length) && !decide (NU i' q=f.p.getD q 0)
  | none=>false))
 | 0=>by simp [cgA]
 | n+1=>by
  rw [cgA,List.any_append,cgA_any (n:=n)]
  by_cases h:i'=n
  ·subst h
   rw [decide_eq_false (Nat.lt_irrefl i'),Bool.false_and,Bool.false_or,decide_eq_true (Nat.lt_succ_self i'),Bool.true_and]
   cases l[i']? with
   | none=>rfl
   | some f=>dsimp only;rw [Qfk];simp
  ·rw [show decide (i'<n+1)=decide (i'<n) from decide_eq_decide.2 (by omega)]
   cases l[n]? with
   | none=>exact Bool.or_false _
   | some f=>dsimp only;rw [Qfk,show decide (n=i')=false from decide_eq_false (fun e=>h e.symm),Bool.false_and];exact Bool.or_false _
theorem Qui {l:List Fm} {W H:Nat} {s:Sp} {i q:Nat} {f:Fm} (hf:l[i]?=some f) (hq:q<f.p.length):(doC l W H s).any (atB i q) = !decide (newU l W H s i q=f.p.getD q 0):=by
 unfold doC
 rw [cgA_any,decide_eq_true (jB.1 hf).1,hf]
 dsimp only
 rw [decide_eq_true hq,Bool.true_and,Bool.true_and]
end Go.Dr.T
