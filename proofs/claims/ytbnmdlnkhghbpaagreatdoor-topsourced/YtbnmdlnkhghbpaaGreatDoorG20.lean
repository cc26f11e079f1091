/- Top, of chapter 08: a list of numbers, turned; a range over a program, from its end. -/
import Derived.Test.YtbnmdlnkhghbpaaGreatDoorG19
import Derived.Test.YtbnmdlnkhghbpaaGreatDoorG17
set_option maxRecDepth 100000
set_option maxHeartbeats 20000000
namespace Go.Dr.T
def kAt (L:List Int) (i:Nat):Int:=L.getD i 0
theorem Q49 {L:List Int} {i:Nat} (h:i<L.length):L[i]?=some (kAt L i):=by
 unfold kAt
 rw [jM,jC h]
 rfl
theorem Q15 {L:List Int} {i:Nat} (h:i<L.length):∃ y,L[i]?=some y∧Q0h (Q00 L) (i*1)=some (.int .i64 y):=by
 refine ⟨L[i],jC h,?_⟩
 rw [Q31,Nat.mul_one,Q00,jH,jC h]
 rfl
def rvS (L:List Int) (i:Nat):List Int:=(List.range L.length).map fun x=>if x<i∨L.length≤x+i then kAt L (L.length-1-x) else kAt L x
theorem Q69 (L:List Int) (i:Nat):(rvS L i).length=L.length:=by simp [rvS]
theorem Q6a {L:List Int} {i x:Nat} (hx:x<L.length):(rvS L i)[x]?=some (if x<i∨L.length≤x+i then kAt L (L.length-1-x) else kAt L x):=by
 simp [rvS,hx]
theorem Qp2 (L:List Int):rvS L 0=L:=by
 apply List.ext_getElem?
 intro x
 by_cases hx:x<L.length
 ·rw [Q6a hx,if_neg (by omega),Q49 hx]
 ·rw [List.getElem?_eq_none (by rw [Q69];omega),List.getElem?_eq_none (by omega)]
theorem Qt2 {L:List Int} {i:Nat} (h:L.length≤2*i+1):rvS L i=L.reverse:=by
 apply List.ext_getElem?
 intro x
 by_cases hx:x<L.length
 ·rw [Q6a hx,List.getElem?_reverse hx,Q49 (by omega)]
  split
  ·rfl
  ·have:x=L.length-1-x:=by omega
   rw [← this]
 ·rw [List.getElem?_eq_none (by rw [Q69];omega),List.getElem?_eq_none (by simp;omega)]
theorem Qp3 {L:List Int} {i:Nat} (h:i<L.length-1-i):((rvS L i).set i (kAt L (L.length-1-i))).set (L.length-1-i) (kAt L i)=rvS L (i+1):=by
 apply List.ext_getElem?
 intro x
 by_cases hx:x<L.length
 ·rw [Q6a hx,List.getElem?_set,List.getElem?_set,List.length_set,Q69,Q6a hx]
  by_cases h1:L.length-1-i=x
  ·rw [if_pos h1,if_pos (by omega),if_pos (by omega)]
   congr 2;omega
  ·rw [if_neg h1]
   by_cases h2:i=x
   ·subst h2
    rw [if_pos rfl,if_pos hx,if_pos (by omega)]
   ·rw [if_neg h2]
    congr 1
    by_cases h3:x<i∨L.length≤x+i
    ·rw [if_pos h3,if_pos (by omega)]
    ·rw [if_neg h3,if_neg (by omega)]
 ·rw [List.getElem?_eq_none (by simp [Q69];omega),List.getElem?_eq_none (by rw [Q69];omega)]
theorem Qb1:∀ {M:List Int} {i:Nat} {y:Int},over (Q00 M) i [.int .i64 y]=Q00 (M.set i y)
 | [],i,y=>by cases i<;>rfl
 | m::M,0,y=>by cases M<;>rfl
 | m::M,i+1,y=>by
  have:=Qb1 (M:=M) (i:=i) (y:=y)
  simp only [Q00,List.map_cons,List.set_cons_succ,over] at this ⊢
  rw [this]
theorem Qhp {M:List Int} {q:Nat} (h:q<M.length):Q0h (Q00 M) (0+q*1)=some (.int .i64 (kAt M q)):=by
 obtain ⟨y,h1,h2⟩:=Q15 h
 rw [Q49 h] at h1
 cases h1;rw [Nat.zero_add];exact h2
theorem Qja {h:List B} {i:Nat} {a b:B}:bset (bset h i a) i b=bset h i b:=by
 rw [Q1m,Q1m,Q1m,List.set_set]
theorem fB.tw {h:List B} {i:Nat} {a b:B} {K:List B→Prop} (hk:K (bset h i b)):fB (bset (bset h i a) i b) K:=fB.mk (by rw [Qja];exact hk)
theorem reverse_call {h:List B} {id:Nat} {L:List Int} {K:V→List B→Prop} (hb:bget h id=some (.blk (Q00 L) true)) (hl:L.length≤100000) (hk:K (.tup []) (bset h id (.blk (Q00 L.reverse) true))):CallP FB md 0 (.fn 41 []) [.ms 1 id L.length 0 L.length false] h K:=by
 refine Q16 rfl rfl rfl ?_
 repeat' ((conv=>whnf);first|refine zB ?_|refine fLen.mk ?_|refine fB.i0 ?_)
 refine LoopP.by (fun i:Nat=>i≤L.length) (fun i=>[(2,.int .i64 (i:Nat)),(3,.int .i64 ((L.length:Int)-1-(i:Nat)))]) (fun i=>bset h id (.blk (Q00 (rvS L i)) true)) (fun i=>L.length-i) 0 (Nat.zero_le _) (by rw [Qp2,Q0t hb,show (L.length:Int)-1-((0:Nat):Int)=L.length-1 by omega];rfl) ?_
 rintro i hi
 dsimp only
 have hlt:=Q05 hb
 by_cases hij:i<L.length-1-i
 rotate_left
 ·rw [Qt2 (by omega)]
  repeat' ((conv=>whnf);first|refine zF ?_|refine fLen.mk ?_|refine fB.i0 ?_|refine fB.mk ?_|refine Get.mk _ rfl ?_|refine Ends.of ?_)
  all_goals (show K _ (trunc h.length _ (bset h id _));rw [Q28 (by rw [Q03])];exact hk)
 have hjj:(L.length:Int)-1-(i:Nat)=((L.length-1-i:Nat):Int):=by omega
 rw [hjj]
 obtain ⟨j,hj⟩:∃ j,L.length-1-i=j:=⟨_,rfl⟩
 have hbj:IntKind.i64.wrap ((j:Int)-1)=(L.length:Int)-1-((i+1:Nat):Int):=by rw [wrap_i64 (by omega) (by omega)];omega
 have hst:=Qp3 (L:=L) (i:=i) (by omega)
 rw [hj] at hst ⊢ hij
 have hml:=Q69 L i
 have hki:kAt (rvS L i) i=kAt L i:=by
  have h1:=Q6a (L:=L) (i:=i) (x:=i) (by omega)
  rw [if_neg (by omega),Q49 (by rw [hml];omega)] at h1
  simpa using h1
 have hkj:kAt (rvS L i) j=kAt L j:=by
  have h1:=Q6a (L:=L) (i:=i) (x:=j) (by omega)
  rw [if_neg (by omega),Q49 (by rw [hml];omega)] at h1
  simpa using h1
 generalize rvS L i=M at *
 have c1:=Qhp (M:=M) (q:=i) (by omega)
 have c2:=Qhp (M:=M) (q:=j) (by omega)
 rw [hki] at c1
 rw [hkj] at c2
 have hg:=Q0b (b:=.blk (Q00 M) true) hlt
 have ov1:over (Q00 M) (0+i*1) [.int .i64 (kAt L j)]=Q00 (M.set i (kAt L j)):=by rw [Nat.zero_add,Nat.mul_one];exact Qb1
 have ov2:over (Q00 (M.set i (kAt L j))) (0+j*1) [.int .i64 (kAt L i)]=Q00 ((M.set i (kAt L j)).set j (kAt L i)):=by rw [Nat.zero_add,Nat.mul_one];exact Qb1
 have hol:(Q00 M).length=L.length:=by simp [Q00,hml]
 have hol2:(Q00 (M.set i (kAt L j))).length=L.length:=by simp [Q00,hml]
 have hg2:=Q0b (b:=.blk (Q00 (M.set i (kAt L j))) true) hlt
 repeat' ((conv=>whnf);first|refine Bnd.eq hbj ?_|refine zT ?_|refine zB ?_|refine fLen.mk ?_|refine fB.i0 ?_|refine Get.mk _ hg ?_|refine Get.mk _ hg2 ?_|refine Get.mk _ c1 ?_|refine Get.mk _ c2 ?_|refine fV.as ov1 ?_|refine fV.as ov2 ?_|refine Req.mk hol ?_|refine Req.mk ⟨hol,by rw [hol];omega⟩ ?_|refine Req.mk ⟨hol2,by rw [hol2];omega⟩ ?_|refine fB.tw ?_|refine fB.mk ?_|refine zN ?_|refine zR ?_)
 refine NextP.mk (i+1) (by omega) (by omega) ?_
 rw [← hst]
 exact Q2w (by rw [Q03])
theorem Qeb {h:List B} {K:V→List B→Prop} (hk:K (.tup []) h):CallP FB md 0 (.fn 41 []) [.nilsl] h K:=by
 refine Q16 rfl rfl rfl ?_
 repeat' ((conv=>whnf);first|refine zB ?_|refine fLen.mk ?_|refine fB.i0 ?_)
 all_goals try (exfalso;omega)
 refine LoopP.by (fun _:Unit=>True) (fun _=>[]) (fun _=>h) (fun _=>0) () trivial rfl ?_
 rintro ⟨⟩ -
 dsimp only
 repeat' ((conv=>whnf);first|refine Br.f ?_|refine fLen.mk ?_|refine fB.i0 ?_|refine fB.mk ?_|refine Get.mk _ rfl ?_|refine Ends.of ?_)
 all_goals try (exfalso;omega)
 show K _ (trunc h.length _ h)
 rw [Q28 rfl]
 exact hk
structure IterD (L:List Sp) (id N:Nat) (Q:Nat→List B→Prop) (S:List B→Prop) (ok:Nat→Prop):Prop where
 qcl:∀ k G,Q k G→Cl G∧N≤G.length
 qtk:∀ k G j,Q k G→N≤j→Cl (G.take j)→Q k (G.take j)
 scl:∀ G,S G→Cl G∧N≤G.length
 stk:∀ G j,S G→N≤j→Cl (G.take j)→S (G.take j)
 go:∀ k s G (K:V→List B→Prop),k<L.length→L[L.length-(k+1)]?=some s→ok k→Q k G→(∀ G',G.length≤G'.length→Q (k+1) G'→K (.bool true) G')→CallP FB md 0 (.yld id) [.int .i64 ((L.length-(k+1):Nat):Int),.agg (spV s)] G K
 no:∀ k s G (K:V→List B→Prop),k<L.length→L[L.length-(k+1)]?=some s→¬ ok k→Q k G→(∀ G',G.length≤G'.length→S G'→K (.bool false) G')→CallP FB md 0 (.yld id) [.int .i64 ((L.length-(k+1):Nat):Int),.agg (spV s)] G K
theorem it93 {c:Bool} {L:List Sp} {id N:Nat} {Q:Nat→List B→Prop} {S:List B→Prop} {ok:Nat→Prop} {G0:List B} {K:V→List B→Prop} (hl:L.length≤1000000) (h:IterD L id N Q S ok) (hN:G0.length=N) (h0:Q 0 G0) (hk1:∀ G,Q L.length G→K (.tup []) G) (hk2:∀ G,S G→K (.tup []) G):CallP FB md 0 (.fn 72 [.rp [.sl c L.length (spC L)] 0]) [.yld id] G0 K:=by
 have hb0:IntKind.i64.wrap ((L.length:Int)-1)=bIx L.length 0:=by rw [wrap_i64 (by omega) (by omega)];unfold bIx;omega
 refine Q16 rfl rfl rfl ?_
 repeat' ((conv=>whnf);first|refine Bnd.eq hb0 ?_|refine fLen.mk ?_|refine fB.i0 ?_|refine Get.mk _ rfl ?_)
 all_goals try (exfalso;omega)
 refine LoopP.by (fun a:GA=>a.i≤L.length∧Q a.i a.G) (fun a=>[(3,.int .i64 (bIx L.length a.i))]) (fun a=>a.G) (fun a=>L.length-a.i) ⟨0,G0⟩ ⟨Nat.zero_le _,h0⟩ rfl ?_
 rintro ⟨k,G⟩ ⟨w1,w2⟩
 dsimp only at w1 w2 ⊢
 have hGl:=(h.qcl k G w2).2
 by_cases hi:k<L.length
 rotate_left
 ·obtain rfl:k=L.length:=by omega
  have hb:bIx L.length L.length = -1:=by unfold bIx;omega
  rw [hb]
  repeat' ((conv=>whnf);first|refine Br.f ?_|refine fLen.mk ?_|refine fB.i0 ?_|refine fB.mk ?_|refine Get.mk _ rfl ?_|refine Ends.of ?_)
  all_goals try (exfalso;omega)
  obtain ⟨j,h1,h2,h3,_⟩:=Q19 (n:=G0.length) (tm:=[.tup []]) (h:=G) (by omega) (h.qcl _ G w2).1
  show K (.tup []) (trunc G0.length [.tup []] G)
  rw [h2]
  exact hk1 _ (h.qtk _ G j w2 (by omega) h3)
 have hb:bIx L.length k=((L.length-(k+1):Nat):Int):=by unfold bIx;omega
 have hb1:IntKind.i64.wrap (((L.length-(k+1):Nat):Int)-1)=bIx L.length (k+1):=by rw [wrap_i64 (by omega) (by omega)];unfold bIx;omega
 rw [hb]
 obtain ⟨s,hcs⟩:∃ x,L[L.length-(k+1)]?=some x:=⟨_,jC (by omega)⟩
 have hp:=Q5c hcs
 have hil:L.length-(k+1)≤L.length-1:=by omega
 have h0l:0<L.length:=by omega
 by_cases hok:ok k
 ·have hgo:=fun (K':V→List B→Prop) (hK)=>h.go k s G K' hi hcs hok w2 hK
  generalize L.length-(k+1)=q at *
  repeat' ((conv=>whnf);first|refine Bnd.eq hb1 ?_|refine Br.t ?_|refine Br.f ?_|refine fLen.mk ?_|refine fB.i0 ?_|refine Get.mk _ hp ?_|refine Idx.nat hil ?_|refine Req.mk h0l ?_|(refine hgo _ ?_;intro G' g1 g2)|refine fB.mk ?_|refine Get.mk _ rfl ?_)
  all_goals try (exfalso;omega)
  refine NextP.of (fun g=>⟨k+1,g⟩) ⟨hi,?_⟩ (by dsimp only;omega) rfl
  obtain ⟨j,h1,h2,h3,_⟩:=Q4k (n:=G0.length) (mk:=_) (tm:=_) (h:=G') (by omega) (h.qcl _ G' g2).1
  show Q (k+1) (norm _ G0.length ⟨_,G'⟩).h
  rw [h2]
  exact h.qtk _ G' j g2 (by omega) h3
 ·have hno:=fun (K':V→List B→Prop) (hK)=>h.no k s G K' hi hcs hok w2 hK
  generalize L.length-(k+1)=q at *
  repeat' ((conv=>whnf);first|refine Br.t ?_|refine fLen.mk ?_|refine fB.i0 ?_|refine Get.mk _ hp ?_|refine Idx.nat hil ?_|refine Req.mk h0l ?_|(refine hno _ ?_;intro G' g1 g2)|refine fB.mk ?_|refine Get.mk _ rfl ?_|refine Ends.of ?_)
  all_goals try (exfalso;omega)
  obtain ⟨j,h1,h2,h3,_⟩:=Q19 (n:=G0.length) (tm:=[.tup []]) (h:=G') (by omega) (h.scl G' g2).1
  show K (.tup []) (trunc G0.length [.tup []] G')
  rw [h2]
  exact hk2 _ (h.stk G' j g2 (by omega) h3)
theorem Qqy {cv:V} (hs:∃ c n k,cv=.sl c n k):Fun FB md 37 [cv] (.fn 72 [.rp [cv] 0]):=by
 obtain ⟨c,n,k,rfl⟩:=hs
 refine Q04 rfl rfl ?_
 repeat' ((conv=>whnf);first|exact Vw.fn (VwL.cons (Vw.ref rfl rfl rfl (VwL.cons Vw.sl VwL.nil)) VwL.nil)|refine Get.mk _ rfl ?_|refine Leaves.of ?_|refine zR ?_)
 all_goals first|rfl|(exfalso;omega)
end Go.Dr.T
namespace Go.Dr.T6
open Go.Dr.T
theorem reverse_call {h:List B} {id:Nat} {L:List Int} {K:V→List B→Prop} (hb:bget h id=some (.blk (Q00 L) true)) (hl:L.length≤100000) (hk:K (.tup []) (bset h id (.blk (Q00 L.reverse) true))):CallP FB1 md 0 (.fn 41 []) [.ms 1 id L.length 0 L.length false] h K:=by
 obtain ⟨v,h',⟨n,e⟩,k⟩:=Go.Dr.T.reverse_call hb hl hk
 exact ⟨v,h',⟨n,fun m hm=>Q6k sub1 (Q7u sub1 m) 0 _ _ _ _ (e m hm)⟩,k⟩
def lkp (bf:List (Int × Int)) (k:Int):Option Int:=(bf.find? fun p=>decide (k=p.1)).map (·.2)
def qu (a:Int) (bf:List (Int × Int)):List Int:=a::bf.map (·.1)
def stQ (a ab q:Int) (bf:List (Int × Int)) (k:Int):List (Int × Int):=if k∉bf.map (·.1)∧ab<k∧k≠a then bf++[(k,q)] else bf
def chain (a:Int) (bf:List (Int × Int)):Nat→Int→Option (List Int)
 | 0,k=>if k=a then some [] else none
 | n+1,k=>if k=a then some [] else match lkp bf k with
  | none=>none
  | some p=>(chain a bf n p).map (k :: ·)
def Q65 (D:List PE) (a t ab:Int):Nat→Nat→List (Int × Int)→Option (Option (List Int))
 | 0,_,_=>none
 | n+1,at',bf=>match (qu a bf)[at']? with
  | none=>some none
  | some q=>if t∈pM D q then (chain a bf (bf.length+1) q).map fun cs=>some (cs++[a]).reverse else Q65 D a t ab n (at'+1) ((Q0k (pM D q)).foldl (stQ a ab q) bf)
theorem Q9a {k:Int}:∀ {bf:List (Int × Int)} {i:Nat},k∈bf.map (·.1)→∃ j p,Q0w 0 (.int .i64 k) (Q00 (bf.map (·.1))) i=some (some (i+j))∧tg (Q00 (bf.map (·.2))) j=.int .i64 p∧lkp bf k=some p
 | [],_,h=>by simp at h
 | (x,y)::bf,i,h=>by
  by_cases h1:k=x
  ·subst h1
   exact ⟨0,y,by simp only [List.map_cons,Q00,Q0w,eq1,if_true,decide_true];rfl,rfl,by simp [lkp]⟩
  ·obtain ⟨j,p,q1,q2,q3⟩:=Q9a (bf:=bf) (i:=i+1) (by simpa [h1] using h)
   refine ⟨j+1,p,?_,?_,?_⟩
   ·simp only [List.map_cons,Q00,Q0w,eq1,if_true,decide_eq_false h1] at q1 ⊢
    rw [q1];congr 2;omega
   ·exact q2
   ·simp only [lkp,List.find?_cons,decide_eq_false h1] at q3 ⊢;exact q3
theorem Qpo {k:Int} {bf:List (Int × Int)} (h:k∉bf.map (·.1)):lkp bf k=none:=by
 unfold lkp
 rw [List.find?_eq_none.2 fun p hp=>by
  simp only [jG]
  rintro rfl;exact h (List.mem_map.2 ⟨p,hp,rfl⟩)]
 rfl
theorem Q4c {a:Int} {bf:List (Int × Int)}:∀ {n:Nat} {k:Int} {cs:List Int},chain a bf n k=some cs→cs.length≤n
 | 0,k,cs,h=>by unfold chain at h;split at h<;>cases h;simp
 | n+1,k,cs,h=>by
  unfold chain at h
  split at h
  ·cases h;simp
  ·split at h
   ·cases h
   ·rename_i p hp
    obtain ⟨r,hr,rfl⟩:=map_some h
    have:=Q4c hr
    simp;omega
end Go.Dr.T6
