/- Top, of chapter 08: a step, done: the program's. -/
import Derived.Test.YtbnmdlnkhghbpaaGreatDoorG8
set_option maxRecDepth 100000
set_option maxHeartbeats 20000000
namespace Go.Dr.T
theorem chg86 {H:List B} {L w:Nat} {K:V→List B→Prop} (hL:H.length=L) (hk:K (.fn 94 [.ref L 1 0]) (H++[.blk [.ref w 13 0] false])):CallP FB md 0 (.fn 63 []) [.ref w 13 0] H K:=by
 refine Q16 rfl rfl rfl ?_
 subst hL
 repeat' ((conv=>whnf);first|refine fLen.mk ?_|refine fB.i0 ?_|refine fB.i1 ?_|refine Get.newj 0 rfl rfl ?_|refine fB.newj 0 rfl ?_|refine fB.mk ?_|refine Get.mk _ rfl ?_|refine Ends.of ?_|refine zR ?_)
 all_goals try (exfalso;omega)
 rw [Qah (k:=0) rfl (by simp [V.blo,blos])]
 exact hk
theorem Qkz {tm:List V} {g:List B} {v w:V} {i j:Nat} {P:V→Prop} (h1:tg tm 4=.ref i 1 0) (h2:tg tm 5=.ref j 1 0) (hb:bget g i=some (.blk [v] false)) (hc:bget g j=some (.blk [w] false)) (hk:P (.tup [v,w])):Get (Q0s ⟨tm,g⟩ [.cell 4 false 1,.cell 5 false 1]) P:=by
 refine ⟨.tup [v,w],?_,hk⟩
 simp only [Q0s,results,h1,h2,hb,hc,Q10,List.length_cons,List.length_nil]
 rfl
section
variable {s:Sp} {c:Bool} {l:List Fm} {NU:Nat→Nat→UInt8} {lp:B} {i m:Nat} {v:V} {G:List B} {f:Fm}
theorem fB.lopD {lp':B} {K:List B→Prop} (e:DoH s c l NU lp i m v G) (hb:lp'.blo G.length=true) (hk:∀ G',G'.length=G.length→(∀ k,k≠l.length+7→bget G' k=bget G k)→DoH s c l NU lp' i m v G'→K G'):fB (bset G (l.length+7) lp') K :=
 fB.mk (hk _ (Q03 ..) (fun k hk=>Q02 (Ne.symm hk)) (e.setlop hb))
theorem DoH.put0 {x:Cg} {cs:List V} (e:DoH s c l NU lp i m .nilsl G) (hf:l[i]?=some f) (hm:m<f.p.length) (hE:¬ NU i m=f.p.getD m 0) (hcs:csT NU l i m=[]) (hx:x=⟨i,m,f.p.getD m 0,NU i m⟩) (hc:cs=cgV x):DoH s c l NU lp i (m+1) (.ms 4 G.length (1*4) 0 1 false) (bset (bset G (3+2+i) (.blk (ofBytes ((mA NU l i m i).set m (NU i m))) true)++[.blk cs true]) 2 (.blk [.ms 4 G.length (1*4) 0 1 false] false)):=by
 have hi:=(jB.1 hf).1
 have hl:=e.lt
 have hP:3+2+i<G.length:=by omega
 have e1:=e.eh.put0 hf hm hE hcs hx hc
 rw [Qbt hP] at e1
 have hlen:(bset G (3+2+i) (B.blk (ofBytes ((mA NU l i m i).set m (NU i m))) true)++[B.blk cs true]).length=G.length+1:=by rw [jD,Q03];rfl
 have o:∀ k b,k≠2→k≠3+2+i→bget G k=some b→bget (bset (bset G (3+2+i) (.blk (ofBytes ((mA NU l i m i).set m (NU i m))) true)++[.blk cs true]) 2 (.blk [.ms 4 G.length (1*4) 0 1 false] false)) k=some b:=fun k b h1 h2 h3=>by
  rw [Q02 (Ne.symm h1)]
  exact Q01 ((Q02 (Ne.symm h2)).trans h3)
 obtain ⟨a,y,z,w,hw⟩:=e.wk
 refine ⟨e1.other ?_ (by omega) (by omega) (fun j hj=>by omega),o _ _ (by omega) (by omega) e.b1,Q0b (by rw [hlen];omega),⟨a,y,z,w,o _ _ (by omega) (by omega) hw⟩,o _ _ (by omega) (by omega) e.bx,o _ _ (by omega) (by omega) e.lop⟩
 rw [hlen]
 simp [B.blo,blos,V.blo]
theorem DoH.putS {x:Cg} {q:Nat} {cs:List V} (e:DoH s c l NU lp i m (.ms 4 q ((csT NU l i m).length*4) 0 (csT NU l i m).length false) G) (hf:l[i]?=some f) (hm:m<f.p.length) (hE:¬ NU i m=f.p.getD m 0) (hq:l.length+8≤q) (hql:q<G.length) (hx:x=⟨i,m,f.p.getD m 0,NU i m⟩) (hc:cs=cgC (csT NU l i m)++cgV x):DoH s c l NU lp i (m+1) (.ms 4 q (((csT NU l i m).length+1)*4) 0 ((csT NU l i m).length+1) false) (bset (bset (bset G (3+2+i) (.blk (ofBytes ((mA NU l i m i).set m (NU i m))) true)++[.unborn]) q (.blk cs true)) 2 (.blk [.ms 4 q (((csT NU l i m).length+1)*4) 0 ((csT NU l i m).length+1) false] false)):=by
 have hi:=(jB.1 hf).1
 have hl:=e.lt
 have hP:3+2+i<G.length:=by omega
 have e1:=e.eh.putS hf hm hE hq hx hc
 have hcomm:bset (bset (G++[B.unborn]) q (B.blk cs true)) (3+2+i) (B.blk (ofBytes ((mA NU l i m i).set m (NU i m))) true)=bset (bset G (3+2+i) (B.blk (ofBytes ((mA NU l i m i).set m (NU i m))) true)++[.unborn]) q (.blk cs true):=by
  rw [← Qbt hP,Q1m,Q1m,Q1m,Q1m,List.set_comm _ _ (by omega)]
 rw [hcomm] at e1
 have hlen:(bset (bset G (3+2+i) (B.blk (ofBytes ((mA NU l i m i).set m (NU i m))) true)++[B.unborn]) q (B.blk cs true)).length=G.length+1:=by rw [Q03,jD,Q03];rfl
 have o:∀ k b,k≠2→k≠3+2+i→k≠q→bget G k=some b→bget (bset (bset (bset G (3+2+i) (.blk (ofBytes ((mA NU l i m i).set m (NU i m))) true)++[.unborn]) q (.blk cs true)) 2 (.blk [.ms 4 q (((csT NU l i m).length+1)*4) 0 ((csT NU l i m).length+1) false] false)) k=some b:=fun k b h1 h2 h4 h3=>by
  rw [Q02 (Ne.symm h1),Q02 (Ne.symm h4)]
  exact Q01 ((Q02 (Ne.symm h2)).trans h3)
 obtain ⟨a,y,z,w,hw⟩:=e.wk
 refine ⟨e1.other ?_ (by omega) (by omega) (fun j hj=>by omega),o _ _ (by omega) (by omega) (by omega) e.b1,Q0b (by rw [hlen];omega),⟨a,y,z,w,o _ _ (by omega) (by omega) (by omega) hw⟩,o _ _ (by omega) (by omega) (by omega) e.bx,o _ _ (by omega) (by omega) (by omega) e.lop⟩
 rw [hlen]
 simp [B.blo,blos,V.blo]
 omega
end
theorem Q0t:∀ {h:List B} {i:Nat} {b:B},bget h i=some b→bset h i b=h
 | x::h,0,b,e=>by simp only [bget,jA] at e;subst e;rfl
 | x::h,i+1,b,e=>by
  show x::bset h i b=x::h
  rw [Q0t (h:=h) (i:=i) e]
theorem FH.up {N M M':Nat} {l:List Fm} {A:Nat→List UInt8} {o:Nat} {P:Nat→Nat} {h:List B} (e:FH N M l A o P h) (hM:M≤M'):FH N M' l A o P h :=
 ⟨⟨e.oN.1,Nat.lt_of_lt_of_le e.oN.2 hM⟩,fun j hj=>⟨(e.PN j hj).1,Nat.lt_of_lt_of_le (e.PN j hj).2.1 hM,(e.PN j hj).2.2⟩,e.inj,e.out,e.pic,e.len⟩
theorem Qgx {l:List Fm} {W H:Nat} {s:Sp} {j m:Nat} {f:Fm} (hf:l[j]?=some f) (h:(j:Int)<s.fr∨s.un<(j:Int)):newU l W H s j m=f.p.getD m 0:=by
 refine Q5k hf ?_
 have:outB (j:Int) s.fr s.un=true:=by
  simp only [outB,Bool.or_eq_true,jG]
  omega
 unfold Q35
 rw [this,Bool.true_or]
theorem DoH.start {s:Sp} {c:Bool} {l:List Fm} {W H F:Nat} {lp:B} {G0:List B} {a x y k:Int} (hF:s.fr=(F:Int)) (c1:Cl G0) (c2:bget G0 2=some (.blk [.nilsl] false)) (c3:G0.length=3+2+l.length) (c4:FH 3 G0.length l (pxL l) 4 (fun j=>3+2+j) G0) (hlp:lp.blo (l.length+7)=true):DoH s c l (newU l W H s) lp F 0 .nilsl (((bset G0 (0+1) (.blk [.ms 3 4 (l.length*3) 0 l.length false] false)++[.blk (wkC s c l a x y k) false])++[.blk [.ref (l.length+5) 13 0] false])++[lp]):=by
 have hk:∀ j f m,0≤j→j<0+F→l[j]?=some f→m<f.p.length→newU l W H s j m=f.p.getD m 0:=fun j f m _ h2 hf _=>Qgx hf (.inl (by omega))
 have e1:=Qel (NU:=newU l W H s) (l:=l) (i:=0) (k:=F) hk
 have e2:=Qbn (NU:=newU l W H s) (l:=l) (i:=0) (k:=F) hk
 rw [Nat.zero_add] at e1 e2
 have hg1:(bset G0 (0+1) (.blk [.ms 3 4 (l.length*3) 0 l.length false] false)).length=l.length+5:=by rw [Q03,c3];omega
 have hg2:∀ b:B,(bset G0 (0+1) (.blk [.ms 3 4 (l.length*3) 0 l.length false] false)++[b]).length=l.length+6:=fun b=>by rw [jD,hg1];rfl
 have hg3:∀ b b':B,((bset G0 (0+1) (.blk [.ms 3 4 (l.length*3) 0 l.length false] false)++[b])++[b']).length=l.length+7:=fun b b'=>by rw [jD,hg2];rfl
 have hg4:∀ b b' b'':B,(((bset G0 (0+1) (.blk [.ms 3 4 (l.length*3) 0 l.length false] false)++[b])++[b'])++[b'']).length=l.length+8:=fun b b' b''=>by rw [jD,hg3];rfl
 have d1:Cl (bset G0 (0+1) (.blk [.ms 3 4 (l.length*3) 0 l.length false] false)):=c1.set (by simp only [B.blo,blos,V.blo,Bool.false_or,Bool.and_true];exact decide_eq_true (by omega))
 have d2:=d1.app (b:=.blk (wkC s c l a x y k) false) rfl
 have d3:=d2.app (b:=.blk [.ref (l.length+5) 13 0] false) (by rw [hg2];simp only [B.blo,blos,V.blo,Bool.false_or,Bool.and_true];exact decide_eq_true (by omega))
 have d4:=d3.app (b:=lp) (by rw [hg3];exact hlp)
 have f1:=(((c4.other (k:=0+1) (b:=.blk [.ms 3 4 (l.length*3) 0 l.length false] false) (.inl (by omega))).app (g:=[.blk (wkC s c l a x y k) false])).app (g:=[.blk [.ref (l.length+5) 13 0] false])).app (g:=[lp])
 refine ⟨⟨d4,Nat.le_of_eq (hg4 _ _ _).symm,?_,.inl ⟨by rw [Qqg,e2];rfl,rfl⟩⟩,Q01 (Q01 (Q01 (Q0b (by omega)))),Q01 (Q01 (Q01 ((Q02 (by omega)).trans c2))),⟨a,x,y,k,Q01 (Q01 ?_)⟩,Q01 ?_,?_⟩
 ·rw [e1,← pxL_mA]
  exact f1.up (by omega)
 ·have:=bget_new (h:=bset G0 (0+1) (.blk [.ms 3 4 (l.length*3) 0 l.length false] false)) (g:=[.blk (wkC s c l a x y k) false]) (i:=0)
  rw [hg1] at this
  exact this
 ·have:=bget_new (h:=bset G0 (0+1) (.blk [.ms 3 4 (l.length*3) 0 l.length false] false)++[.blk (wkC s c l a x y k) false]) (g:=[.blk [.ref (l.length+5) 13 0] false]) (i:=0)
  rw [hg2] at this
  exact this
 ·have:=bget_new (h:=(bset G0 (0+1) (.blk [.ms 3 4 (l.length*3) 0 l.length false] false)++[.blk (wkC s c l a x y k) false])++[.blk [.ref (l.length+5) 13 0] false]) (g:=[lp]) (i:=0)
  rw [hg3] at this
  exact this
theorem DoH.fin {s:Sp} {c:Bool} {l:List Fm} {W H:Nat} {lp:B} {v:V} {G:List B} (hu:0≤s.un∧s.un<(l.length:Int)) (e:DoH s c l (newU l W H s) lp (s.un.toNat+1) 0 v G):EH 3 (l.length+8) l (newU l W H s) 4 (fun j=>3+2+j) l.length 0 v G:=by
 have hk:∀ j f m,s.un.toNat+1≤j→j<s.un.toNat+1+(l.length-(s.un.toNat+1))→l[j]?=some f→m<f.p.length→newU l W H s j m=f.p.getD m 0:=fun j f m h1 h2 hf _=>Qgx hf (.inr (by omega))
 have e1:=Qel (NU:=newU l W H s) (l:=l) hk
 have e2:=Qbn (NU:=newU l W H s) (l:=l) hk
 rw [show s.un.toNat+1+(l.length-(s.un.toNat+1))=l.length by omega] at e1 e2
 refine ⟨e.eh.cl,e.eh.le,by rw [e1];exact e.eh.fh,?_⟩
 have:=e.eh.ch
 rw [Qqg] at this ⊢
 rw [e2]
 exact this
theorem Qq3 {c:Bool} {l:List Fm} {s:Sp} {W H:Nat} (o:FOk l W H) (p:SOk s l.length W H):FunF FB md 29 [.sl c l.length (fmC l),.agg (spV s)] (.tup [.sl false (doF l W H s).length (fmC (doF l W H s)),cgL (doC l W H s)]):=by
 have hn0:=o.n0
 have hn12:=o.n12
 have hnn:=o.nn
 have o3:=o.w
 have o4:=o.h
 have pf:=p.fr
 have pu:=p.un
 have hcp:∀ {K:V→List B→Prop},(∀ G,Cl G→(∀ m b,bget [B.blk (spV s) false,.blk [.nilsl] false,.blk [.nilsl] false] m=some b→bget G m=some b)→G.length=3+2+l.length→FH 3 G.length l (pxL l) 4 (fun j=>3+2+j) G→K (.ms 3 4 (l.length*3) 0 l.length false) G)→CallP FB md 0 (.fn 28 []) [.sl c l.length (fmC l)] [.blk (spV s) false,.blk [.nilsl] false,.blk [.nilsl] false] K:=fun h=>Q6m o rfl h
 refine Qez rfl rfl ?_
 repeat' ((conv=>whnf);first|refine Get.mk _ rfl ?_|refine zR ?_)
 all_goals try (exfalso;omega)
 refine hcp ?_
 intro G0 c1 c2 c3 c4
 clear hcp
 have hb0:∀ {b:B},bget (bset G0 (0+1) b) 0=some (.blk (spV s) false):=fun {b}=>(Q02 (by omega)).trans (c2 0 _ rfl)
 have hb1:=c2 1 _ rfl
 have hl1:∀ {b:B},(bset G0 (0+1) b).length=l.length+5:=fun {b}=>by rw [Q03,c3];omega
 have hj0:∀ {b:B},l.length+5+0+0=(bset G0 (0+1) b).length+0:=fun {b}=>by rw [hl1]
 have hl2:∀ {b b':B},(bset G0 (0+1) b++[b']).length=l.length+6:=fun {b b'}=>by rw [jD,hl1];rfl
 have hl3:∀ {b b' b'':B},((bset G0 (0+1) b++[b'])++[b'']).length=l.length+7:=fun {b b' b''}=>by rw [jD,hl2];rfl
 repeat' ((conv=>whnf);first|refine fLen.as hl1 ?_|refine fLen.as hl3 ?_|refine fB.i1 ?_|refine Get.mk _ hb1 ?_|refine Get.mk _ (Q01 hb0) ?_|refine Get.newj 0 hj0 rfl ?_|refine fB.newj 0 hj0 ?_|refine chg86 hl2 ?_|refine fB.mk ?_|refine Get.mk _ rfl ?_|refine zR ?_)
 all_goals try (exfalso;omega)
 obtain ⟨F,hF⟩:∃ F:Nat,s.fr=(F:Int):=⟨s.fr.toNat,by omega⟩
 refine Qqk o p hF (v0:=.nilsl) (DoH.start hF c1 (c2 2 _ rfl) c3 c4 ?_) (by rw [jD,hl3];rfl) ?_ ?_
 ·simp [B.blo,blos,V.blo]
  exact rfl
 ·intro i m f v G K hf hm hE hD hK
  have hi:=(jB.1 hf).1
  have hil:i≤l.length-1:=by omega
  have hml:m≤f.p.length-1:=by omega
  have hp0:0<f.p.length:=by omega
  have hGl:=hD.lt
  have hDx:=hD.app (b:=.blk [.int .i64 (i:Nat),.int .i64 (m:Nat),.int .u8 ((f.p.getD m 0).toNat:Nat),.int .u8 ((newU l W H s i m).toNat:Nat)] false) rfl
  have hlb:=Q08 hDx.eh.cl (Q0p hDx.lop)
  have hlb0:=Q08 hD.eh.cl (Q0p hD.lop)
  have hlopx:=hDx.lop
  refine Q2d hD.lop (Nat.zero_le _) rfl ?_
  repeat' ((conv=>whnf);first|refine fLen.mk ?_|refine fB.i1 ?_|refine Get.newj 0 rfl rfl ?_|refine fB.newj 0 rfl ?_|refine ⟨rfl,?_⟩|refine Get.mk _ hlopx ?_|refine zR ?_)
  all_goals try (exfalso;omega)
  refine fB.lopD hDx hlb ?_
  intro G2 g1 g2 hD2
  rw [jD] at g1
  have hx2:bget G2 (G.length+0+0)=some (.blk [.int .i64 (i:Nat),.int .i64 (m:Nat),.int .u8 ((f.p.getD m 0).toNat:Nat),.int .u8 ((newU l W H s i m).toNat:Nat)] false):=(g2 _ (by omega)).trans (bget_new (i:=0))
  have hb1:=hD2.b1
  have hb2:=hD2.b2
  have hout:=hD2.eh.fh.out
  have hpic:=hD2.eh.fh.pic i hi
  have hol:(fmG (piV fun j=>3+2+j) 0 l).length=l.length*3:=Q1p
  have hpc:Q0h (fmG (piV fun j=>3+2+j) 0 l) (0+i*3+2)=some (.ms 1 (3+2+i) f.p.length 0 f.p.length false):=by
   have:=(Qf1 (g:=piV fun j=>3+2+j) (k:=0) hf).2.2
   rw [Nat.zero_add] at this
   rw [Nat.zero_add]
   exact this
  have hAl:(ofBytes (mA (newU l W H s) l i m i)).length=f.p.length:=by rw [Q0j];exact hD2.eh.fh.len i f hf
  have hAs:(ofBytes (mA (newU l W H s) l i m i)).length=f.p.length∧0+m*1+1≤(ofBytes (mA (newU l W H s) l i m i)).length:=⟨hAl,by omega⟩
  have hov:=Q6c (u:=newU l W H s i m) (p:=mA (newU l W H s) l i m i) (m:=m)
  have hcl:=Qup (NU:=newU l W H s) (i:=i) (m:=m) o hi (by have:=(o.all f (jE hf)).2.2;omega)
  have hb23:∀ {b:B},bget (bset G2 (3+2+i) b) (0+2)=some (.blk [v] false):=fun {b}=>(Q02 (by omega)).trans hb2
  have hx3:∀ {b:B},bget (bset G2 (3+2+i) b) (G.length+0+0)=some (.blk [.int .i64 (i:Nat),.int .i64 (m:Nat),.int .u8 ((f.p.getD m 0).toNat:Nat),.int .u8 ((newU l W H s i m).toNat:Nat)] false):=fun {b}=>(Q02 (by omega)).trans hx2
  have hnw:∀ {b:B},bget (bset G2 (3+2+i) b++[.unborn]) (G2.length+0+0)=some .unborn:=fun {b}=>by
   have:=bget_new (h:=bset G2 (3+2+i) b) (g:=[.unborn]) (i:=0)
   rw [Q03] at this
   exact this
  have hj:∀ {b:B},G2.length+0+0=(bset G2 (3+2+i) b).length+0:=fun {b}=>by rw [Q03]
  have hfin:∀ {lp':B} {v':V} {G4:List B},G.length≤G4.length→DoH s c l (newU l W H s) lp' i (m+1) v' G4→K (.bool true) (bset (trunc G.length [] G4) (l.length+7) _):=fun {lp' v' G4} h1 h2=>by
   have h3:=h2.trunc (tm:=[]) hGl h1
   have h4:G.length≤(trunc G.length [] G4).length:=Q1y (by omega)
   have h5:=h3.setlop (Q1n h4 _ hlb0)
   exact hK _ _ (by rw [Q03];exact h4) h5
  rcases hD2.eh.ch with ⟨hcs,rfl⟩|⟨q,hq1,hq2,rfl,hq4⟩
  ·have d1:=hD2.put0 (cs:=[]++cgV ⟨i,m,f.p.getD m 0,newU l W H s i m⟩) hf hm hE hcs rfl rfl
   repeat' ((conv=>whnf);first|refine fLen.as (Q03 ..) ?_|refine fLen.mk ?_|refine fB.i0 ?_|refine fB.i1 ?_|refine Req.mk hnw ?_|refine Get.mk _ hnw ?_|refine fB.newj 0 hj ?_|refine fV.as hov ?_|refine Get.mk _ hb1 ?_|refine Get.mk _ hx2 ?_|refine Get.mk _ hout ?_|refine Get.mk _ hpc ?_|refine Get.mk _ hpic ?_|refine Get.mk _ (Q01 hb23) ?_|refine Get.mk _ (Q01 hx3) ?_|refine Req.mk hol ?_|refine Req.mk hAs ?_|refine Req.mk hn0 ?_|refine Req.mk hp0 ?_|refine Idx.nat hil ?_|refine Idx.nat hml ?_|refine fB.mk ?_|refine zZ ?_|refine Get.mk _ rfl ?_|refine zR ?_)
   all_goals try (exfalso;omega)
   exact hfin (by rw [Q03,jD,Q03];omega) d1
  ·have d1:=hD2.putS (cs:=cgC (csT (newU l W H s) l i m)++cgV ⟨i,m,f.p.getD m 0,newU l W H s i m⟩) hf hm hE hq1 (Q05 hq4) rfl rfl
   have hqs:0+(csT (newU l W H s) l i m).length*4=(csT (newU l W H s) l i m).length*4∧((cgC (csT (newU l W H s) l i m)).length+[V.int .i64 i,.int .i64 m,.int .u8 ((f.p.getD m 0).toNat:Nat),.int .u8 ((newU l W H s i m).toNat:Nat)].length)*(24+1)<big:=⟨Nat.zero_add _,by rw [Q3i];unfold big;simp;omega⟩
   have e5:∀ a b c d:V,(csT (newU l W H s) l i m).length*4+[a,b,c,d].length=((csT (newU l W H s) l i m).length+1)*4:=fun _ _ _ _=>by simp;omega
   have hq5:∀ {b:B},bget (bset G2 (3+2+i) b) q=some (.blk (cgC (csT (newU l W H s) l i m)) true):=fun {b}=>(Q02 (by omega)).trans hq4
   have hb24:∀ {b b':B},bget (bset (bset G2 (3+2+i) b++[.unborn]) q b') (0+2)=some (.blk [.ms 4 q ((csT (newU l W H s) l i m).length*4) 0 (csT (newU l W H s) l i m).length false] false):=fun {b b'}=>(Q02 (by omega)).trans (Q01 hb23)
   repeat' ((conv=>whnf);first|refine fLen.as (Q03 ..) ?_|refine fLen.mk ?_|refine fB.i0 ?_|refine fB.i1 ?_|refine fV.as hov ?_|refine Get.mk _ hb1 ?_|refine Get.mk _ hx2 ?_|refine Get.mk _ hout ?_|refine Get.mk _ hpc ?_|refine Get.mk _ hpic ?_|refine Get.mk _ (Q01 hb23) ?_|refine Get.mk _ (Q01 hx3) ?_|refine Get.mk _ (Q01 hq5) ?_|refine Get.mk _ hb24 ?_|refine Req.mk hol ?_|refine Req.mk hAs ?_|refine Req.mk (Q3i _) ?_|refine Req.mk hqs ?_|refine Req.mk hn0 ?_|refine Req.mk hp0 ?_|refine Idx.nat hil ?_|refine Idx.nat hml ?_|refine fB.mk ?_|refine zZ ?_|refine Get.mk _ rfl ?_|refine zR ?_)
   all_goals try (exfalso;omega)
   rw [e5]
   exact hfin (by rw [Q03,Q03,jD,Q03];omega) d1
 ·intro v G hD
  have hlop:=hD.lop
  have hlb:=Q08 hD.eh.cl (Q0p hD.lop)
  rw [show bget G (l.length+7+0)=_ from hlop]
  skip
  refine fB.lopD hD hlb ?_
  intro G2 g1 g2 hD2
  have he:=hD2.fin (by omega)
  have hb1:=hD2.b1
  have hb2:=hD2.b2
  have hF:VwF G2 (0+1+1+1+60) (.ms 3 4 (l.length*3) 0 l.length false) (.sl false (doF l W H s).length (fmC (doF l W H s))):=by
   refine he.fh.vw (d:=60) Q2z fun j f hf=>?_
   rw [Qbk hf]
   congr 2
   unfold mA
   rw [hf]
   dsimp only
   rw [if_pos (jB.1 hf).1]
  have hC:VwF G2 (0+1+1+61) v (cgL (doC l W H s)):=by
   have:=he.ch
   rw [Qqg] at this
   exact this.vw
  rcases hD2.eh.ch.frm with rfl|⟨q,rfl⟩
  all_goals
   repeat' ((conv=>whnf);first|refine fLen.mk ?_|refine fB.i0 ?_|refine fB.as (Q0t hb1) ?_|refine fB.as (Q0t hb2) ?_|refine Get.mk _ hb1 ?_|refine Get.mk _ hb2 ?_|refine Qkz rfl rfl hb1 hb2 ?_|exact hF|exact hC|refine Get.mk _ rfl ?_|refine LeavesF.of ?_|refine VwF.tup ?_|refine VwLF.cons ?_ ?_|refine VwLF.nil|refine zR ?_)
   all_goals try (exfalso;omega)
end Go.Dr.T
namespace Go.Dr.T
structure FSm (A B:List Fm):Prop where
 len:A.length=B.length
 eq:∀ (i:Nat) (f g:Fm),A[i]?=some f→B[i]?=some g→f.w=g.w∧f.h=g.h∧f.p=g.p
theorem Qa4 {c d:Bool} {A B:List Fm} (hA:A.length≤1000000) (hs:FSm A B):Fun FB md 10 [.sl c A.length (fmC A),.sl d B.length (fmC B)] (.bool true):=by
 rw [← hs.len]
 refine Q04 rfl rfl ?_
 repeat' ((conv=>whnf);first|refine zT ?_|refine Br.not ?_)
 all_goals try (exfalso;omega)
 refine LoopP.by (fun i:Nat=>i≤A.length) (fun i=>[(5,.int .i64 (i:Nat))]) (fun _=>[]) (fun i=>A.length-i) 0 (Nat.zero_le _) rfl ?_
 rintro i hi'
 dsimp only
 by_cases hi:i<A.length
 rotate_left
 ·repeat' ((conv=>whnf);first|refine zF ?_|refine Get.mk _ rfl ?_|refine Leaves.of ?_|refine Vw.bool ?_)
  all_goals first|rfl|(exfalso;omega)
 obtain ⟨f,hf⟩:∃ x,A[i]?=some x:=⟨_,jC hi⟩
 obtain ⟨g,hg⟩:∃ x,B[i]?=some x:=⟨_,jC (by rw [← hs.len];exact hi)⟩
 obtain ⟨e1,e2,e3⟩:=hs.eq i f g hf hg
 obtain ⟨a0,a1,a2⟩:=fm_c hf
 obtain ⟨b0,b1,b2⟩:=fm_c hg
 rw [← e1] at b0
 rw [← e2] at b1
 rw [← e3] at b2
 have hiw:IntKind.i64.wrap ((i:Int)+1)=((i+1:Nat):Int):=by rw [wrap_i64 (by omega) (by omega)];omega
 have hil:i≤A.length-1:=by omega
 have h0l:0<A.length:=by omega
 have hl1:(ofBytes f.p).length=f.p.length*1:=by rw [Q0j,Nat.mul_one]
 have hbo:=Q94 f.p
 have hso:sop .neq f.p f.p=some (.bool false):=by simp [sop]
 repeat' ((conv=>whnf);first|refine Bnd.eq hiw ?_|refine Br.f ?_|refine zT ?_|refine Br.not ?_|refine Get.mk _ a0 ?_|refine Get.mk _ a1 ?_|refine Get.mk _ a2 ?_|refine Get.mk _ b0 ?_|refine Get.mk _ b1 ?_|refine Get.mk _ b2 ?_|refine Get.mk _ hbo ?_|refine Get.mk _ hso ?_|refine Req.mk hl1 ?_|refine Idx.nat hil ?_|refine Req.mk h0l ?_)
 all_goals first|(exfalso;omega)|exact NextP.mk (i+1) hi (by omega) rfl
def lgC (A:List (List Cg)):List V:=A.map cgL
theorem Q2t {A:List (List Cg)}:(lgC A).length=A.length:=by simp [lgC]
theorem Qm3 {A:List (List Cg)} {i:Nat} {x:List Cg} (h:A[i]?=some x):Q0h (lgC A) (i*1)=some (cgL x):=by
 rw [Q31,Nat.mul_one,lgC,jH,h];rfl
theorem Q7e {A:List (List Cg)} {x:List Cg}:lgC (A++[x])=lgC A++[cgL x]:=by simp [lgC]
theorem Qh1 {A:List (List Cg)} {n:Nat}:blos n (lgC A)=true:=by
 refine Qo1 fun v hv=>?_
 unfold lgC at hv
 obtain ⟨x,_,rfl⟩:=List.mem_map.1 hv
 rfl
def lgL (A:List (List Cg)):V:=.sl (decide (A=[])) A.length (lgC A)
def czF (l:List Fm):List Fm:=l.map fun f=>⟨false,f.w,f.h,f.p⟩
theorem Q0u {l:List Fm}:(czF l).length=l.length:=by simp [czF]
theorem Q8w {l:List Fm} {i:Nat} {f:Fm} (h:l[i]?=some f):(czF l)[i]?=some ⟨false,f.w,f.h,f.p⟩:=by simp [czF,h]
theorem Q4v {l:List Fm} {W H:Nat} (o:FOk l W H):FOk (czF l) W H:=by
 refine ⟨by rw [Q0u];exact o.n0,by rw [Q0u];exact o.n12,o.w,o.h,fun f hf=>?_⟩
 unfold czF at hf
 obtain ⟨g,hg,rfl⟩:=List.mem_map.1 hf
 exact o.all g hg
theorem Qnl {l:List Fm} {i n:Nat}:pixI (czF l) i n=pixI l i n:=by
 unfold pixI czF
 rw [jH]
 cases l[i]?<;>rfl
theorem Qll {l:List Fm} {W H:Nat} {s:Sp}:newU (czF l) W H s=newU l W H s:=by
 funext i n
 have ho:∀ i x y,oldN (czF l) W H i x y=oldN l W H i x y:=fun i x y=>by
  unfold oldN
  rw [Q0u,Qnl]
 unfold newU newP newK
 simp only [Qnl,ho,Q0u]
theorem Qhf {l:List Fm} {W H:Nat} {s:Sp}:doF (czF l) W H s=doF l W H s:=by
 unfold doF
 rw [Qll]
 apply List.ext_getElem?
 intro i
 rw [List.getElem?_mapIdx,List.getElem?_mapIdx]
 unfold czF
 rw [jH]
 cases l[i]?<;>rfl
theorem Qrz {l:List Fm} {NU:Nat→Nat→UInt8}:∀ {n:Nat},cgA NU (czF l) n=cgA NU l n
 | 0=>rfl
 | n+1=>by
  rw [cgA,cgA,Qrz (n:=n)]
  unfold czF
  rw [jH]
  cases l[n]?<;>rfl
theorem Qhg {l:List Fm} {W H:Nat} {s:Sp}:doC (czF l) W H s=doC l W H s:=by
 unfold doC
 rw [Qll,Qrz,Q0u]
def rnF (W H:Nat):List Fm→List Sp→List Fm
 | l,[]=>l
 | l,s::ss=>rnF W H (doF l W H s) ss
def rnC (W H:Nat):List Fm→List Sp→List (List Cg)
 | _,[]=>[]
 | l,s::ss=>doC l W H s::rnC W H (doF l W H s) ss
theorem rnF_snoc {W H:Nat} {s:Sp}:∀ {ss:List Sp} {l:List Fm},rnF W H l (ss++[s])=doF (rnF W H l ss) W H s
 | [],_=>rfl
 | t::ss,l=>by simp only [List.cons_append,rnF,rnF_snoc (ss:=ss)]
theorem rnC_snoc {W H:Nat} {s:Sp}:∀ {ss:List Sp} {l:List Fm},rnC W H l (ss++[s])=rnC W H l ss++[doC (rnF W H l ss) W H s]
 | [],_=>rfl
 | t::ss,l=>by simp only [List.cons_append,rnC,rnF,rnC_snoc (ss:=ss)]
theorem Q2j {W H:Nat}:∀ {ss:List Sp} {l:List Fm},(rnC W H l ss).length=ss.length
 | [],_=>rfl
 | t::ss,l=>by simp only [rnC,List.length_cons,Q2j (ss:=ss)]
theorem Q2u {W H:Nat}:∀ {ss:List Sp} {l:List Fm},(rnF W H l ss).length=l.length
 | [],_=>rfl
 | t::ss,l=>by simp only [rnF,Q2u (ss:=ss),Q2z]
theorem Q6u {W H:Nat}:∀ {ss:List Sp} {l:List Fm},FOk l W H→FOk (rnF W H l ss) W H
 | [],_,o=>o
 | t::ss,l,o=>by rw [rnF];exact Q6u (ss:=ss) (Qrw o)
theorem Quh {W H:Nat} {l:List Fm} {s:Sp} (o:FOk l W H):(doC l W H s).length≤30000:=by
 have h1:=o.nn
 have h2:=o.n12
 have h3:=Qfl (NU:=newU l W H s) (l:=l) (fun f hf=>by rw [(o.all f hf).2.2];exact h1.2) (i:=l.length)
 have h4:l.length*2304≤12*2304:=Nat.mul_le_mul_right _ h2
 unfold doC
 exact Nat.le_trans h3 (Nat.le_trans h4 (by decide))
end Go.Dr.T
