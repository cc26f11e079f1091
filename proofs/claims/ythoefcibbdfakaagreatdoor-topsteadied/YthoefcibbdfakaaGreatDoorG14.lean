/- Top, of chapter 08: a list of numbers, turned; a range over a program, from its end. -/
import Derived.Test.YthoefcibbdfakaaGreatDoorG13
namespace Go.Dr.T
def kAt (L:List Int) (i:Nat):Int:=L.getD i 0
theorem Q73 {L:List Int} {i:Nat} (h:i<L.length):L[i]?=some (kAt L i):=by
 unfold kAt
 rw [List.getD_eq_getElem?_getD,List.getElem?_eq_getElem h]
 rfl
theorem Qcg {L:List Int} {i:Nat} (h:i<L.length):∃ y,L[i]?=some y∧Q0h (Q06 L) (i * 1)=some (.int .i64 y):=by
 refine ⟨L[i],List.getElem?_eq_getElem h,?_⟩
 rw [Q2f,Nat.mul_one,Q06,List.getElem?_map,List.getElem?_eq_getElem h]
 rfl
def rvS (L:List Int) (i:Nat):List Int:=(List.range L.length).map fun x=>if x<i∨L.length≤x+i then kAt L (L.length - 1 - x) else kAt L x
theorem Q5e (L:List Int) (i:Nat):(rvS L i).length=L.length:=by simp [rvS]
theorem Q5f {L:List Int} {i x:Nat} (hx:x<L.length):(rvS L i)[x]?=some (if x<i∨L.length≤x+i then kAt L (L.length - 1 - x) else kAt L x):=by
 simp [rvS,hx]
theorem Qlu (L:List Int):rvS L 0=L:=by
 apply List.ext_getElem?
 intro x
 by_cases hx:x<L.length
 ·rw [Q5f hx,if_neg (by omega),Q73 hx]
 ·rw [List.getElem?_eq_none (by rw [Q5e];omega),List.getElem?_eq_none (by omega)]
theorem Qpo {L:List Int} {i:Nat} (h:L.length≤2 * i+1):rvS L i=L.reverse:=by
 apply List.ext_getElem?
 intro x
 by_cases hx:x<L.length
 ·rw [Q5f hx,List.getElem?_reverse hx,Q73 (by omega)]
  split
  ·rfl
  ·have:x=L.length - 1 - x:=by omega
   rw [← this]
 ·rw [List.getElem?_eq_none (by rw [Q5e];omega),List.getElem?_eq_none (by simp;omega)]
theorem Qlv {L:List Int} {i:Nat} (h:i<L.length - 1 - i):((rvS L i).set i (kAt L (L.length - 1 - i))).set (L.length - 1 - i) (kAt L i)=rvS L (i+1):=by
 apply List.ext_getElem?
 intro x
 by_cases hx:x<L.length
 ·rw [Q5f hx,List.getElem?_set,List.getElem?_set,List.length_set,Q5e,Q5f hx]
  by_cases h1:L.length - 1 - i=x
  ·rw [if_pos h1,if_pos (by omega),if_pos (by omega)]
   congr 2;omega
  ·rw [if_neg h1]
   by_cases h2:i=x
   ·subst h2
    rw [if_pos rfl,if_pos hx,if_pos (by omega)]
   ·rw [if_neg h2]
    congr 1
    by_cases h3:x<i∨L.length≤x+i
    ·rw [if_pos h3,if_pos (by omega)]
    ·rw [if_neg h3,if_neg (by omega)]
 ·rw [List.getElem?_eq_none (by simp [Q5e];omega),List.getElem?_eq_none (by rw [Q5e];omega)]
theorem Q9i:∀ {M:List Int} {i:Nat} {y:Int},over (Q06 M) i [.int .i64 y]=Q06 (M.set i y)
 | [],i,y=>by cases i <;> rfl
 | m :: M,0,y=>by cases M <;> rfl
 | m :: M,i+1,y=>by
  have:=Q9i (M:=M) (i:=i) (y:=y)
  simp only [Q06,List.map_cons,List.set_cons_succ,over] at this ⊢
  rw [this]
theorem Qfb {M:List Int} {q:Nat} (h:q<M.length):Q0h (Q06 M) (0+q * 1)=some (.int .i64 (kAt M q)):=by
 obtain ⟨y,h1,h2⟩:=Qcg h
 rw [Q73 h] at h1
 cases h1;rw [Nat.zero_add];exact h2
theorem Qgp {h:List B} {i:Nat} {a b:B}:bset (bset h i a) i b=bset h i b:=by
 rw [Q1c,Q1c,Q1c,List.set_set]
theorem fB.tw {h:List B} {i:Nat} {a b:B} {K:List B→Prop} (hk:K (bset h i b)):fB (bset (bset h i a) i b) K:=fB.mk (by rw [Qgp];exact hk)
set_option maxRecDepth 100000 in
set_option maxHeartbeats 20000000 in
theorem Qat {h:List B} {id:Nat} {L:List Int} {K:V→List B→Prop} (hb:bget h id=some (.blk (Q06 L) true)) (hl:L.length≤100000) (hk:K (.tup []) (bset h id (.blk (Q06 L.reverse) true))):CallP FB md 0 (.fn 46 []) [.ms 1 id L.length 0 L.length false] h K:=by
 refine Q11 rfl rfl rfl ?_
 repeat' (first
 | (conv=>whnf)
   first
   | (refine Bnd.i64 ?_ ?_ ?_;(focus omega);(focus omega))
   | refine fLen.mk ?_
   | refine fB.i0 ?_)
 refine LoopP.by (fun i:Nat=>i≤L.length) (fun i=>[(2,.int .i64 (i:Nat)),(3,.int .i64 ((L.length:Int) - 1 - (i:Nat)))]) (fun i=>bset h id (.blk (Q06 (rvS L i)) true)) (fun i=>L.length - i) 0 (Nat.zero_le _) (by rw [Qlu,Q0p hb,show (L.length:Int) - 1 - ((0:Nat):Int)=L.length - 1 by omega];rfl) ?_
 rintro i hi
 dsimp only
 have hlt:=Q03 hb
 by_cases hij:i<L.length - 1 - i
 rotate_left
 ·rw [Qpo (by omega)]
  repeat' (first
 | (conv=>whnf)
   first
   | (refine Br.decF ?_ ?_;(focus first | assumption | omega))
   | refine fLen.mk ?_
   | refine fB.i0 ?_
   | refine fB.mk ?_
   | refine Get.mk _ rfl ?_
   | refine Ends.of ?_)
  all_goals (show K _ (trunc h.length _ (bset h id _));rw [Q3p (by rw [bset_len])];exact hk)
 have hjj:(L.length:Int) - 1 - (i:Nat)=((L.length - 1 - i:Nat):Int):=by omega
 rw [hjj]
 obtain ⟨j,hj⟩:∃ j,L.length - 1 - i=j:=⟨_,rfl⟩
 have hbj:IntKind.i64.wrap ((j:Int) - 1)=(L.length:Int) - 1 - ((i+1:Nat):Int):=by rw [wrap_i64 (by omega) (by omega)];omega
 have hst:=Qlv (L:=L) (i:=i) (by omega)
 rw [hj] at hst ⊢ hij
 have hml:=Q5e L i
 have hki:kAt (rvS L i) i=kAt L i:=by
  have h1:=Q5f (L:=L) (i:=i) (x:=i) (by omega)
  rw [if_neg (by omega),Q73 (by rw [hml];omega)] at h1
  simpa using h1
 have hkj:kAt (rvS L i) j=kAt L j:=by
  have h1:=Q5f (L:=L) (i:=i) (x:=j) (by omega)
  rw [if_neg (by omega),Q73 (by rw [hml];omega)] at h1
  simpa using h1
 generalize rvS L i=M at *
 have c1:=Qfb (M:=M) (q:=i) (by omega)
 have c2:=Qfb (M:=M) (q:=j) (by omega)
 rw [hki] at c1
 rw [hkj] at c2
 have hg:=bget_same (b:=.blk (Q06 M) true) hlt
 have ov1:over (Q06 M) (0+i * 1) [.int .i64 (kAt L j)]=Q06 (M.set i (kAt L j)):=by rw [Nat.zero_add,Nat.mul_one];exact Q9i
 have ov2:over (Q06 (M.set i (kAt L j))) (0+j * 1) [.int .i64 (kAt L i)]=Q06 ((M.set i (kAt L j)).set j (kAt L i)):=by rw [Nat.zero_add,Nat.mul_one];exact Q9i
 have hol:(Q06 M).length=L.length:=by simp [Q06,hml]
 have hol2:(Q06 (M.set i (kAt L j))).length=L.length:=by simp [Q06,hml]
 have hg2:=bget_same (b:=.blk (Q06 (M.set i (kAt L j))) true) hlt
 repeat' (first
 | (conv=>whnf)
   first
   | refine Bnd.eq hbj ?_
   | (refine Br.decT ?_ ?_;(focus first | assumption | omega))
   | (refine Bnd.i64 ?_ ?_ ?_;(focus omega);(focus omega))
   | refine fLen.mk ?_
   | refine fB.i0 ?_
   | refine Get.mk _ hg ?_
   | refine Get.mk _ hg2 ?_
   | refine Get.mk _ c1 ?_
   | refine Get.mk _ c2 ?_
   | refine fV.as ov1 ?_
   | refine fV.as ov2 ?_
   | refine Req.mk hol ?_
   | refine Req.mk ⟨hol,by rw [hol];omega⟩ ?_
   | refine Req.mk ⟨hol2,by rw [hol2];omega⟩ ?_
   | refine fB.tw ?_
   | refine fB.mk ?_
   | (refine Idx.nat ?_ ?_;(focus omega))
   | (refine Req.mk ?_ ?_;(focus first | rfl | decide | exact ⟨rfl,rfl⟩ | exact ⟨rfl,by decide⟩ | exact (fun _=>rfl) | exact (fun h=>nomatch h) | (simp;done) | omega | (simp [big];done) | exact Q02 (by omega) | exact Q01 (by omega))))
 refine NextP.mk (i+1) (by omega) (by omega) ?_
 rw [← hst]
 exact Qig (by rw [bset_len])
theorem Qcb {h:List B} {K:V→List B→Prop} (hk:K (.tup []) h):CallP FB md 0 (.fn 46 []) [.nilsl] h K:=by
 refine Q11 rfl rfl rfl ?_
 repeat' (first
 | (conv=>whnf)
   first
   | (refine Bnd.i64 ?_ ?_ ?_;(focus omega);(focus omega))
   | refine fLen.mk ?_
   | refine fB.i0 ?_)
 all_goals try (exfalso;omega;done)
 refine LoopP.by (fun _:Unit=>True) (fun _=>[]) (fun _=>h) (fun _=>0) () trivial rfl ?_
 rintro ⟨⟩ -
 dsimp only
 repeat' (first
 | (conv=>whnf)
   first
   | refine Br.f ?_
   | refine fLen.mk ?_
   | refine fB.i0 ?_
   | refine fB.mk ?_
   | refine Get.mk _ rfl ?_
   | refine Ends.of ?_)
 all_goals try (exfalso;omega;done)
 show K _ (trunc h.length _ h)
 rw [Q3p rfl]
 exact hk
structure IterD (L:List Sp) (id N:Nat) (Q:Nat→List B→Prop) (S:List B→Prop) (ok:Nat→Prop):Prop where
 qcl:∀ k G,Q k G→Cl G∧N≤G.length
 qtk:∀ k G j,Q k G→N≤j→Cl (G.take j)→Q k (G.take j)
 scl:∀ G,S G→Cl G∧N≤G.length
 stk:∀ G j,S G→N≤j→Cl (G.take j)→S (G.take j)
 go:∀ k s G (K:V→List B→Prop),k<L.length→L[L.length - (k+1)]?=some s→ok k→Q k G→(∀ G', G.length≤G'.length→Q (k+1) G' → K (.bool true) G')→CallP FB md 0 (.yld id) [.int .i64 ((L.length - (k+1):Nat):Int),.agg (spV s)] G K
 no:∀ k s G (K:V→List B→Prop),k<L.length→L[L.length - (k+1)]?=some s→¬ ok k→Q k G→(∀ G', G.length≤G'.length→S G' → K (.bool false) G')→CallP FB md 0 (.yld id) [.int .i64 ((L.length - (k+1):Nat):Int),.agg (spV s)] G K
set_option maxRecDepth 100000 in
set_option maxHeartbeats 20000000 in
theorem it93 {c:Bool} {L:List Sp} {id N:Nat} {Q:Nat→List B→Prop} {S:List B→Prop} {ok:Nat→Prop} {G0:List B} {K:V→List B→Prop} (hl:L.length≤1000000) (h:IterD L id N Q S ok) (hN:G0.length=N) (h0:Q 0 G0) (hk1:∀ G,Q L.length G→K (.tup []) G) (hk2:∀ G,S G→K (.tup []) G):CallP FB md 0 (.fn 63 [.rp [.sl c L.length (spC L)] 0]) [.yld id] G0 K:=by
 have hb0:IntKind.i64.wrap ((L.length:Int) - 1)=bIx L.length 0:=by rw [wrap_i64 (by omega) (by omega)];unfold bIx;omega
 refine Q11 rfl rfl rfl ?_
 repeat' (first
 | (conv=>whnf)
   first
   | refine Bnd.eq hb0 ?_
   | refine fLen.mk ?_
   | refine fB.i0 ?_
   | refine Get.mk _ rfl ?_)
 all_goals try (exfalso;omega;done)
 refine LoopP.by (fun a:GA=>a.i≤L.length∧Q a.i a.G) (fun a=>[(3,.int .i64 (bIx L.length a.i))]) (fun a=>a.G) (fun a=>L.length - a.i) ⟨0,G0⟩ ⟨Nat.zero_le _,h0⟩ rfl ?_
 rintro ⟨k,G⟩ ⟨w1,w2⟩
 dsimp only at w1 w2 ⊢
 have hGl:=(h.qcl k G w2).2
 by_cases hi:k<L.length
 rotate_left
 ·obtain rfl:k=L.length:=by omega
  have hb:bIx L.length L.length = -1:=by unfold bIx;omega
  rw [hb]
  repeat' (first
 | (conv=>whnf)
   first
   | refine Br.f ?_
   | refine fLen.mk ?_
   | refine fB.i0 ?_
   | refine fB.mk ?_
   | refine Get.mk _ rfl ?_
   | refine Ends.of ?_)
  all_goals try (exfalso;omega;done)
  obtain ⟨j,h1,h2,h3,_⟩:=Q0z (n:=G0.length) (tm:=[.tup []]) (h:=G) (by omega) (h.qcl _ G w2).1
  show K (.tup []) (trunc G0.length [.tup []] G)
  rw [h2]
  exact hk1 _ (h.qtk _ G j w2 (by omega) h3)
 have hb:bIx L.length k=((L.length - (k+1):Nat):Int):=by unfold bIx;omega
 have hb1:IntKind.i64.wrap (((L.length - (k+1):Nat):Int) - 1)=bIx L.length (k+1):=by rw [wrap_i64 (by omega) (by omega)];unfold bIx;omega
 rw [hb]
 obtain ⟨s,hcs⟩:∃ x,L[L.length - (k+1)]?=some x:=⟨_,List.getElem?_eq_getElem (by omega)⟩
 have hp:=Q97 hcs
 have hil:L.length - (k+1)≤L.length - 1:=by omega
 have h0l:0<L.length:=by omega
 by_cases hok:ok k
 ·have hgo:=fun (K' : V→List B→Prop) (hK)=>h.go k s G K' hi hcs hok w2 hK
  generalize L.length - (k+1)=q at *
  repeat' (first
 | (conv=>whnf)
   first
   | refine Bnd.eq hb1 ?_
   | refine Br.t ?_
   | refine Br.f ?_
   | refine fLen.mk ?_
   | refine fB.i0 ?_
   | refine Get.mk _ hp ?_
   | refine Idx.nat hil ?_
   | refine Req.mk h0l ?_
   | (refine hgo _ ?_;intro G' g1 g2)
   | refine fB.mk ?_
   | refine Get.mk _ rfl ?_)
  all_goals try (exfalso;omega;done)
  refine NextP.of (fun g=>⟨k+1,g⟩) ⟨hi,?_⟩ (by dsimp only;omega) rfl
  obtain ⟨j,h1,h2,h3,_⟩:=Q3t (n:=G0.length) (mk:=_) (tm:=_) (h:=G') (by omega) (h.qcl _ G' g2).1
  show Q (k+1) (norm _ G0.length ⟨_,G'⟩).h
  rw [h2]
  exact h.qtk _ G' j g2 (by omega) h3
 ·have hno:=fun (K' : V→List B→Prop) (hK)=>h.no k s G K' hi hcs hok w2 hK
  generalize L.length - (k+1)=q at *
  repeat' (first
 | (conv=>whnf)
   first
   | refine Br.t ?_
   | refine fLen.mk ?_
   | refine fB.i0 ?_
   | refine Get.mk _ hp ?_
   | refine Idx.nat hil ?_
   | refine Req.mk h0l ?_
   | (refine hno _ ?_;intro G' g1 g2)
   | refine fB.mk ?_
   | refine Get.mk _ rfl ?_
   | refine Ends.of ?_)
  all_goals try (exfalso;omega;done)
  obtain ⟨j,h1,h2,h3,_⟩:=Q0z (n:=G0.length) (tm:=[.tup []]) (h:=G') (by omega) (h.scl G' g2).1
  show K (.tup []) (trunc G0.length [.tup []] G')
  rw [h2]
  exact hk2 _ (h.stk G' j g2 (by omega) h3)
theorem Qnl {cv:V} (hs:∃ c n k,cv = .sl c n k):Fun FB md 42 [cv] (.fn 63 [.rp [cv] 0]):=by
 obtain ⟨c,n,k,rfl⟩:=hs
 refine Q07 rfl rfl ?_
 repeat' (first
 | (conv=>whnf)
   first
   | exact Vw.fn (VwL.cons (Vw.ref rfl rfl rfl (VwL.cons Vw.sl VwL.nil)) VwL.nil)
   | refine Get.mk _ rfl ?_
   | refine Leaves.of ?_
   | (refine Req.mk ?_ ?_;(focus first | rfl | decide | exact ⟨rfl,rfl⟩ | exact ⟨rfl,by decide⟩ | exact (fun _=>rfl) | exact (fun h=>nomatch h) | (simp;done) | omega | (simp [big];done) | exact Q02 (by omega) | exact Q01 (by omega))))
 all_goals first | rfl | (exfalso;omega;done)
end Go.Dr.T
namespace Go.Dr.T
def atB (i q:Int) (x:Cg):Bool:=decide (x.f=i) && decide (x.p=q)
def cgJ (p:Cg→Bool):List Cg→Nat→Int
 | [],_ => -1
 | x :: l,i=>if p x=true then (i:Int) else cgJ p l (i+1)
theorem Qa1 {p:Cg→Bool}:∀ {l:List Cg} {i n:Nat},(∀ j x,j<i→l[j]?=some x→p x=false)→cgJ p l n=cgJ p (l.drop i) (n+i)
 | l,0,n,_=>rfl
 | [],i+1,n,_=>rfl
 | f :: l,i+1,n,hh=>by
  rw [cgJ,if_neg (by rw [hh 0 f (Nat.succ_pos _) rfl];decide),List.drop_succ_cons,Qa1 (l:=l) (i:=i) (n:=n+1) fun j g hj hg=>hh (j+1) g (by omega) (by simpa using hg)]
  congr 1
  omega
theorem Qko {p:Cg→Bool}:∀ {l:List Cg} {n:Nat},decide (cgJ p l n ≥ 0)=l.any p
 | [],n=>rfl
 | x :: l,n=>by
  rw [cgJ,List.any_cons]
  cases e:p x
  ·rw [if_neg (by decide),Qko (l:=l),Bool.false_or]
  ·rw [if_pos rfl,Bool.true_or]
   exact decide_eq_true (by omega)
set_option maxRecDepth 100000 in
set_option maxHeartbeats 20000000 in
theorem Qr1 {x:Cg} {i q z:Int}:Fun FB md 48 [.agg (cgV x),.rp [.int .i64 i] 0,.rp [.int .i64 z,.int .i64 q] 0] (.bool (atB i q x)):=by
 unfold atB cgV
 refine Q07 rfl rfl ?_
 by_cases h1:x.f=i
 ·rw [decide_eq_true h1,Bool.true_and]
  repeat' (first
 | (conv=>whnf)
   first
   | (refine Br.decT ?_ ?_;(focus first | assumption | omega))
   | refine Get.mk _ rfl ?_
   | refine Leaves.of ?_
   | refine Vw.bool ?_
   | (refine Req.mk ?_ ?_;(focus first | rfl | decide | exact ⟨rfl,rfl⟩ | exact ⟨rfl,by decide⟩ | exact (fun _=>rfl) | exact (fun h=>nomatch h) | (simp;done) | omega | (simp [big];done) | exact Q02 (by omega) | exact Q01 (by omega))))
  all_goals first | rfl | (exfalso;omega;done)
 ·rw [decide_eq_false h1,Bool.false_and]
  repeat' (first
 | (conv=>whnf)
   first
   | (refine Br.decF ?_ ?_;(focus first | assumption | omega))
   | refine Get.mk _ rfl ?_
   | refine Leaves.of ?_
   | refine Vw.bool ?_
   | (refine Req.mk ?_ ?_;(focus first | rfl | decide | exact ⟨rfl,rfl⟩ | exact ⟨rfl,by decide⟩ | exact (fun _=>rfl) | exact (fun h=>nomatch h) | (simp;done) | omega | (simp [big];done) | exact Q02 (by omega) | exact Q01 (by omega))))
  all_goals first | rfl | (exfalso;omega;done)
set_option maxRecDepth 100000 in
set_option maxHeartbeats 20000000 in
theorem atI_ok {i q z:Int} {d:Bool} {cs:List Cg} (hl:cs.length≤30000):Fun FB md 66 [.sl d cs.length (cgC cs),.fn 48 [.rp [.int .i64 i] 0,.rp [.int .i64 z,.int .i64 q] 0]] (.int .i64 (cgJ (atB i q) cs 0)):=by
 refine Q07 rfl rfl ?_
 skip
 all_goals try (exfalso;omega;done)
 refine LoopP.by (fun k:Nat=>k≤cs.length∧∀ j z,j<k→cs[j]?=some z→atB i q z=false) (fun k=>[(8,.int .i64 (k:Nat))]) (fun k=>[]) (fun k=>cs.length - k) 0 ⟨Nat.zero_le _,fun j v h=>absurd h (Nat.not_lt_zero _)⟩ rfl ?_
 rintro j ⟨w1,w2⟩
 dsimp only
 by_cases hi:j<cs.length
 ·obtain ⟨y,hx⟩:∃ z,cs[j]?=some z:=⟨_,List.getElem?_eq_getElem hi⟩
  have hp:=Q6h hx
  have k1:=Qr1 (x:=y) (i:=i) (q:=q) (z:=z)
  have hiw:IntKind.i64.wrap ((j:Int)+1)=((j+1:Nat):Int):=by rw [wrap_i64 (by omega) (by omega)];omega
  have hil:j≤cs.length - 1:=by omega
  have h0l:0<cs.length:=by omega
  have hnx:atB i q y=false→∀ k u,k<j+1→cs[k]?=some u→atB i q u=false:=fun e k u hj hu=>by
   by_cases e' : k=j
   ·subst e'; rw [hx] at hu;cases hu;exact e
   ·exact w2 k u (by omega) hu
  cases e1:atB i q y <;> rw [e1] at k1
  ·have hnx:=hnx e1
   repeat' (first
 | (conv=>whnf)
   first
   | refine Bnd.eq hiw ?_
   | refine Br.f ?_
   | (refine Br.decT ?_ ?_;(focus first | assumption | omega))
   | refine Get.mk _ hp ?_
   | refine Q00 rfl rfl k1 (.inl rfl) ?_
   | refine Idx.nat hil ?_
   | refine Req.mk h0l ?_)
   all_goals first | (exfalso;omega;done) | exact NextP.mk (j+1) ⟨hi,hnx⟩ (by omega) rfl
  ·have hE:cgJ (atB i q) cs 0=(j:Int):=by
    obtain ⟨hi', hg⟩:=List.getElem?_eq_some_iff.1 hx
    rw [Qa1 w2,List.drop_eq_getElem_cons hi', hg,cgJ,if_pos e1,Nat.zero_add]
   rw [hE]
   repeat' (first
 | (conv=>whnf)
   first
   | refine Br.t ?_
   | (refine Br.decT ?_ ?_;(focus first | assumption | omega))
   | refine Get.mk _ hp ?_
   | refine Q00 rfl rfl k1 (.inl rfl) ?_
   | refine Idx.nat hil ?_
   | refine Req.mk h0l ?_
   | refine Get.mk _ rfl ?_
   | refine Leaves.of ?_
   | refine Vw.int ?_)
   all_goals first | rfl | (exfalso;omega;done)
 obtain rfl:j=cs.length:=by omega
 have hE:cgJ (atB i q) cs 0 = -1:=by rw [Qa1 w2,List.drop_length];rfl
 rw [hE]
 repeat' (first
 | (conv=>whnf)
   first
   | (refine Br.decF ?_ ?_;(focus first | assumption | omega))
   | refine Get.mk _ rfl ?_
   | refine Leaves.of ?_
   | refine Vw.int ?_)
 all_goals first | rfl | (exfalso;omega;done)
set_option maxRecDepth 100000 in
set_option maxHeartbeats 20000000 in
theorem atA_ok {i q z:Int} {d:Bool} {cs:List Cg} (hl:cs.length≤30000):Fun FB md 47 [.sl d cs.length (cgC cs),.fn 48 [.rp [.int .i64 i] 0,.rp [.int .i64 z,.int .i64 q] 0]] (.bool (cs.any (atB i q))):=by
 have k1:=atI_ok (i:=i) (q:=q) (z:=z) (d:=d) hl
 have k2:=Qko (p:=atB i q) (l:=cs) (n:=0)
 generalize cgJ (atB i q) cs 0=z at *
 rw [← k2]
 refine Q07 rfl rfl ?_
 repeat' (first
 | (conv=>whnf)
   first
   | refine Q00 rfl rfl k1 (.inl rfl) ?_
   | refine Get.mk _ rfl ?_
   | refine Leaves.of ?_
   | refine Vw.bool ?_)
 all_goals first | rfl | (exfalso;omega;done)
theorem Qdc {NU:Nat→UInt8} {i:Nat} {p:List UInt8} {i' q:Nat}:∀ {m:Nat},(cgM NU i p m).any (atB i' q)=(decide (i=i') && (decide (q<m) && !decide (NU q=p.getD q 0)))
 | 0=>by simp [cgM]
 | m+1=>by
  have ih:=Qdc (NU:=NU) (i:=i) (p:=p) (i' := i') (q:=q) (m:=m)
  rw [cgM]
  by_cases e:NU m=p.getD m 0
  ·rw [if_pos e,ih]
   by_cases h:q=m
   ·subst h;simp [e]
   ·rw [show decide (q<m+1)=decide (q<m) from decide_eq_decide.2 (by omega)]
  ·rw [if_neg e,List.any_append,ih]
   simp only [List.any_cons,List.any_nil,Bool.or_false,atB]
   by_cases h:q=m
   ·subst h
    rw [decide_eq_false e]
    by_cases hi:i=i'
    ·subst hi;simp
    ·have:¬ (i:Int)=(i' : Int):=by omega
     simp [hi,this]
   ·rw [show decide (q<m+1)=decide (q<m) from decide_eq_decide.2 (by omega),show decide ((m:Int)=(q:Int))=false from decide_eq_false (by omega),Bool.and_false,Bool.or_false]
theorem cgA_any {NU:Nat→Nat→UInt8} {l:List Fm} {i' q:Nat}:∀ {n:Nat},(cgA NU l n).any (atB i' q)=(decide (i' < n) && (match l[i']? with
  | some f=>decide (q<f.p.length) && !decide (NU i' q=f.p.getD q 0)
  | none=>false))
 | 0=>by simp [cgA]
 | n+1=>by
  rw [cgA,List.any_append,cgA_any (n:=n)]
  by_cases h:i' = n
  ·subst h
   rw [decide_eq_false (Nat.lt_irrefl i'),Bool.false_and,Bool.false_or,decide_eq_true (Nat.lt_succ_self i'),Bool.true_and]
   cases l[i']? with
   | none=>rfl
   | some f=>dsimp only;rw [Qdc];simp
  ·rw [show decide (i' < n+1)=decide (i' < n) from decide_eq_decide.2 (by omega)]
   cases l[n]? with
   | none=>exact Bool.or_false _
   | some f=>dsimp only;rw [Qdc,show decide (n=i')=false from decide_eq_false (fun e=>h e.symm),Bool.false_and];exact Bool.or_false _
theorem Qqr {l:List Fm} {W H:Nat} {s:Sp} {i q:Nat} {f:Fm} (hf:l[i]?=some f) (hq:q<f.p.length):(doC l W H s).any (atB i q) = !decide (newU l W H s i q=f.p.getD q 0):=by
 unfold doC
 rw [cgA_any,decide_eq_true (List.getElem?_eq_some_iff.1 hf).1,hf]
 dsimp only
 rw [decide_eq_true hq,Bool.true_and,Bool.true_and]
end Go.Dr.T
