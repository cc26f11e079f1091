/- Top, of chapter 08: Undo, walked. -/
import Derived.Test.YtbnmdlnkhghbpaaGreatDoorG28
namespace Go.Dr.T
structure UH (l:List Fm) (A:Nat→List UInt8) (v0 v1 v2:V) (lp:B) (G:List B):Prop where
 cl:Cl G
 le:l.length+6≤G.length
 fh:FH 3 (l.length+5) l A 4 (fun j=>3+2+j) G
 b0:bget G 0=some (.blk [v0] false)
 b1:bget G 1=some (.blk [v1] false)
 b2:bget G 2=some (.blk [v2] false)
 lop:bget G (l.length+5)=some lp
section
variable {l:List Fm} {A:Nat→List UInt8} {v0 v1 v2:V} {lp:B} {G:List B}
theorem UH.take {k:Nat} (e:UH l A v0 v1 v2 lp G) (hk:l.length+6≤k) (c:Cl (G.take k)):UH l A v0 v1 v2 lp (G.take k) :=
 ⟨c,by rw [jQ];have:=e.le;omega,e.fh.cap (by omega),by rw [Q09 (by omega)];exact e.b0,by rw [Q09 (by omega)];exact e.b1,by rw [Q09 (by omega)];exact e.b2,by rw [Q09 (by omega)];exact e.lop⟩
theorem UH.trunc {tm:List V} {n:Nat} (e:UH l A v0 v1 v2 lp G) (hn:l.length+6≤n) (hn2:n≤G.length):UH l A v0 v1 v2 lp (trunc n tm G):=by
 obtain ⟨k,h1,h2,h3,h4⟩:=Q19 (tm:=tm) hn2 e.cl
 rw [h2]
 exact e.take (by omega) h3
theorem UH.setlop {lp':B} (e:UH l A v0 v1 v2 lp G) (hb:lp'.blo G.length=true):UH l A v0 v1 v2 lp' (bset G (l.length+5) lp') :=
 ⟨e.cl.set hb,by rw [Q03];exact e.le,e.fh.other (.inr (Nat.le_refl _)),by rw [Q02 (by omega)];exact e.b0,by rw [Q02 (by omega)];exact e.b1,by rw [Q02 (by omega)];exact e.b2,Q0b (by have:=e.le;omega)⟩
theorem fB.lopU {lp':B} {K:List B→Prop} (e:UH l A v0 v1 v2 lp G) (hb:lp'.blo G.length=true) (hk:∀ G',G'.length=G.length→UH l A v0 v1 v2 lp' G'→K G'):fB (bset G (l.length+5) lp') K :=
 fB.mk (hk _ (Q03 ..) (e.setlop hb))
theorem UH.res {w0 w1 w2:V} (e:UH l A v0 v1 v2 lp G) (h0:w0.blo G.length=true) (h1:w1.blo G.length=true) (h2:w2.blo G.length=true):UH l A w0 w1 w2 lp (bset (bset (bset G (0+0) (.blk [w0] false)) (0+1) (.blk [w1] false)) (0+2) (.blk [w2] false)):=by
 have hl:=e.le
 refine ⟨((e.cl.set (by simp [B.blo,blos,h0])).set (by rw [Q03];simp [B.blo,blos,h1])).set (by rw [Q03,Q03];simp [B.blo,blos,h2]),by rw [Q03,Q03,Q03];exact hl,((e.fh.other (.inl (by omega))).other (.inl (by omega))).other (.inl (by omega)),?_,?_,?_,?_⟩
 ·rw [Q02 (by omega),Q02 (by omega)];exact Q0b (by omega)
 ·rw [Q02 (by omega)];exact Q0b (by rw [Q03];omega)
 ·exact Q0b (by rw [Q03,Q03];omega)
 ·rw [Q02 (by omega),Q02 (by omega),Q02 (by omega)];exact e.lop
theorem UH.start {G0:List B} {A:Nat→List UInt8} (c1:Cl G0) (c3:G0.length=3+2+l.length) (c4:FH 3 G0.length l A 4 (fun j=>3+2+j) G0) (h1:bget G0 1=some (.blk [v1] false)) (h2:bget G0 2=some (.blk [v2] false)) (hlp:lp.blo (l.length+5)=true):UH l A (.ms 3 4 (l.length*3) 0 l.length false) v1 v2 lp (bset G0 (0+0) (.blk [.ms 3 4 (l.length*3) 0 l.length false] false)++[lp]):=by
 have hg1:(bset G0 (0+0) (.blk [.ms 3 4 (l.length*3) 0 l.length false] false)).length=l.length+5:=by rw [Q03,c3];omega
 have d1:Cl (bset G0 (0+0) (.blk [.ms 3 4 (l.length*3) 0 l.length false] false)):=c1.set (by simp only [B.blo,blos,V.blo,Bool.false_or,Bool.and_true];exact decide_eq_true (by omega))
 refine ⟨d1.app (by rw [hg1];exact hlp),by rw [jD,hg1];exact Nat.le_refl _,((c4.other (.inl (by omega))).app).up (by omega),Q01 (Q0b (by omega)),Q01 ((Q02 (by omega)).trans h1),Q01 ((Q02 (by omega)).trans h2),?_⟩
 have:=bget_new (h:=bset G0 (0+0) (.blk [.ms 3 4 (l.length*3) 0 l.length false] false)) (g:=[lp]) (i:=0)
 rw [hg1] at this
 exact this
end
theorem Q9q {tm:List V} {g:List B} {v w u:V} {i j k:Nat} {P:V→Prop} (h1:tg tm 4=.ref i 1 0) (h2:tg tm 5=.ref j 1 0) (h3:tg tm 6=.ref k 1 0) (hb:bget g i=some (.blk [v] false)) (hc:bget g j=some (.blk [w] false)) (hd:bget g k=some (.blk [u] false)) (hk:P (.tup [v,w,u])):Get (Q0s ⟨tm,g⟩ [.cell 4 false 1,.cell 5 false 1,.cell 6 false 1]) P:=by
 refine ⟨.tup [v,w,u],?_,hk⟩
 simp only [Q0s,results,h1,h2,h3,hb,hc,hd,Q10,List.length_cons,List.length_nil]
 rfl
theorem Qsm {c:Bool} {l:List Fm} {L:List (List Cg)} {lp:B} {Gs:List B} {K:V→List B→Prop} (hL:L.length≤20) (h0:UH l (pxL l) (.ms 3 4 (l.length*3) 0 l.length false) (.int .i64 0) (.int .i64 0) lp Gs) (hGs:Gs.length=l.length+6) (hlp:lp.blo (l.length+5)=true)
  (hgo:∀ k cs G (K:V→List B→Prop),k<L.length→L[L.length-(k+1)]?=some cs→unOk (pxL l) L k→UH l (unT (pxL l) L k) (.ms 3 4 (l.length*3) 0 l.length false) (.int .i64 0) (.int .i64 0) lp G→(∀ G',G.length≤G'.length→UH l (unT (pxL l) L (k+1)) (.ms 3 4 (l.length*3) 0 l.length false) (.int .i64 0) (.int .i64 0) lp G'→K (.bool true) G')→CallP FB md 0 (.yld (l.length+5)) [.int .i64 ((L.length-(k+1):Nat):Int),.sl (decide (cs=[])) cs.length (cgC cs)] G K)
  (hno:∀ k cs G (K:V→List B→Prop),k<L.length→L[L.length-(k+1)]?=some cs→¬ unOk (pxL l) L k→UH l (unT (pxL l) L k) (.ms 3 4 (l.length*3) 0 l.length false) (.int .i64 0) (.int .i64 0) lp G→(∀ G',G.length≤G'.length→(∃ A tm ps as bo,UH l A .nilsl (.int .i64 ((L.length-(k+1):Nat):Int)) (.int .i64 181) (.lop false .ret tm ps as bo) G')→K (.bool false) G')→CallP FB md 0 (.yld (l.length+5)) [.int .i64 ((L.length-(k+1):Nat):Int),.sl (decide (cs=[])) cs.length (cgC cs)] G K)
  (hk1:(∀ k,k<L.length→unOk (pxL l) L k)→∀ G,UH l (unT (pxL l) L L.length) (.ms 3 4 (l.length*3) 0 l.length false) (.int .i64 0) (.int .i64 0) lp G→K (.tup []) G)
  (hk2:∀ k:Nat,k<L.length→(∀ j,j<k→unOk (pxL l) L j)→¬ unOk (pxL l) L k→∀ G A tm ps as bo,lp.blo G.length=true→UH l A .nilsl (.int .i64 ((L.length-(k+1):Nat):Int)) (.int .i64 181) (.lop false .ret tm ps as bo) G→K (.tup []) G):CallP FB md 0 (.fn 70 [.rp [.sl c L.length (lgC L)] 0]) [.yld (l.length+5)] Gs K:=by
 refine it105 (N:=l.length+6) (Q:=fun k G=>UH l (unT (pxL l) L k) (.ms 3 4 (l.length*3) 0 l.length false) (.int .i64 0) (.int .i64 0) lp G∧∀ j,j<k→unOk (pxL l) L j) (S:=fun G=>∃ k A tm ps as bo,(k<L.length∧(∀ j,j<k→unOk (pxL l) L j)∧¬ unOk (pxL l) L k)∧UH l A .nilsl (.int .i64 ((L.length-(k+1):Nat):Int)) (.int .i64 181) (.lop false .ret tm ps as bo) G) (ok:=fun k=>unOk (pxL l) L k) (by omega) ⟨fun k G e=>⟨e.1.cl,e.1.le⟩,fun k G j e h1 h2=>⟨e.1.take h1 h2,e.2⟩,fun G ⟨k,A,tm,ps,as,bo,e0,e⟩=>⟨e.cl,e.le⟩,fun G j ⟨k,A,tm,ps,as,bo,e0,e⟩ h1 h2=>⟨k,A,tm,ps,as,bo,e0,e.take h1 h2⟩,?_,?_⟩ hGs ⟨h0,fun j hj=>absurd hj (Nat.not_lt_zero _)⟩ (fun G e=>hk1 e.2 G e.1) (fun G ⟨k,A,tm,ps,as,bo,e0,e⟩=>hk2 k e0.1 e0.2.1 e0.2.2 G A tm ps as bo (Q1n (by have:=e.le;omega) _ hlp) e)
 ·intro k cs G K' hk hcs hok e hK
  refine hgo k cs G K' hk hcs hok e.1 fun G' g1 g2=>hK G' g1 ⟨g2,fun j hj=>?_⟩
  by_cases ej:j=k
  ·subst ej;exact hok
  ·exact e.2 j (by omega)
 ·intro k cs G K' hk hcs hnk e hK
  exact hno k cs G K' hk hcs hnk e.1 fun G' g1 ⟨A,tm,ps,as,bo,g2⟩=>hK G' g1 ⟨k,A,tm,ps,as,bo,⟨hk,e.2,hnk⟩,g2⟩
set_option maxRecDepth 100000 in
set_option maxHeartbeats 20000000 in
theorem Qok {c d:Bool} {l:List Fm} {W H:Nat} {L:List (List Cg)} {v:V} (o:FOk l W H) (hL:L.length≤20) (q:∀ x∈L,COk l.length (W*H) x∧x.length≤30000) (he:(flE l).2=0)
  (hok:(∀ k,k<L.length→unOk (pxL l) L k)→v=.tup [.sl false l.length (fmC (mkF l (unT (pxL l) L L.length))),.int .i64 0,.int .i64 0])
  (hno:∀ i:Nat,i<L.length→(∀ k,k<i→unOk (pxL l) L k)→¬ unOk (pxL l) L i→v=.tup [.sl true 0 [],.int .i64 ((L.length-(i+1):Nat):Int),.int .i64 181]):FunF FB md 9 [.sl c l.length (fmC l),.sl d L.length (lgC L)] v:=by
 have k1:=Qlx (c:=c) (d:=d) o hL q he
 have k2:=Qfo (cv:=.sl d L.length (lgC L)) ⟨_,_,_,rfl⟩
 have hnn:=o.nn
 have hn12:=o.n12
 have hcp:∀ {K:V→List B→Prop},(∀ G,Cl G→(∀ m b,bget [B.blk [.nilsl] false,.blk [.int .i64 0] false,.blk [.int .i64 0] false] m=some b→bget G m=some b)→G.length=3+2+l.length→FH 3 G.length l (pxL l) 4 (fun j=>3+2+j) G→K (.ms 3 4 (l.length*3) 0 l.length false) G)→CallP FB md 0 (.fn 28 []) [.sl c l.length (fmC l)] [.blk [.nilsl] false,.blk [.int .i64 0] false,.blk [.int .i64 0] false] K:=fun h=>Q6m o rfl h
 refine Qez rfl rfl ?_
 repeat' ((conv=>whnf);first|refine Br.f ?_|refine zC k1 ?_|refine Get.mk _ rfl ?_|refine zR ?_)
 all_goals try (exfalso;omega)
 refine hcp ?_
 intro G0 c1 c2 c3 c4
 clear hcp k1
 have hb0:=c2 0 _ rfl
 have hl1:∀ {b:B},(bset G0 (0+0) b).length=l.length+5:=fun {b}=>by rw [Q03,c3];omega
 repeat' ((conv=>whnf);first|refine fLen.as hl1 ?_|refine fB.i0 ?_|refine Get.mk _ hb0 ?_|refine fB.mk ?_|refine zC k2 ?_|refine zR ?_)
 all_goals try (exfalso;omega)
 refine Qsm hL (UH.start c1 c3 c4 (c2 1 _ rfl) (c2 2 _ rfl) ?hb) (by rw [jD,hl1];rfl) ?hb ?_ ?_ ?_ ?_
 case hb =>
  simp [B.blo,blos,V.blo]
 ·intro k cs G K' hk hcs hok1 hS hK
  obtain ⟨q1,q2⟩:=q cs (jE hcs)
  have hGl:=hS.le
  have hlb:=Q08 hS.cl (Q0p hS.lop)
  have hlopx:=hS.lop
  have kv:=Qo5 (cv:=.sl (decide (cs=[])) cs.length (cgC cs)) (.inr rfl) ⟨_,_,_,rfl⟩
  have hr:=q1.sw (A:=unT (pxL l) L k) fun j hj=>by rw [Qag];exact Ql4 o j hj
  have hit:Itr 71 (.sl (decide (cs=[])) cs.length (cgC cs)) (cs.map swC):=@it106 _ _ (by omega)
  refine Q2d hS.lop (Nat.zero_le _) rfl ?_
  repeat' ((conv=>whnf);first|refine fLen.mk ?_|refine fB.i0 ?_|refine ⟨rfl,?_⟩|refine Get.mk _ hlopx ?_)
  all_goals try (exfalso;omega)
  refine fB.lopU hS hlb ?_
  intro G2 g1 hS2
  have g1:G2.length=G.length:=g1
  have hb0:=hS2.b0
  have hM2:l.length+5≤G2.length:=by omega
  have hset:∀ {K:V→List B→Prop},(∀ G',Cl G'→G2.length≤G'.length→FH 3 (l.length+5) l (unT (pxL l) L (k+1)) 4 (fun j=>3+2+j) G'→(∀ k b,k<G2.length→(∀ j,j<l.length→k≠3+2+j)→bget G2 k=some b→bget G' k=some b)→K (.bool true) G')→CallP FB md 0 (.fn 34 []) [.ms 3 4 (l.length*3) 0 l.length false,.fn 71 [.rp [.sl (decide (cs=[])) cs.length (cgC cs)] 0]] G2 K:=fun hK=>Qgm hit hS2.fh hM2 hS2.cl hr (fun _ G' g1 g2 g3 g4=>hK G' g1 g2 (by rw [unT_S hcs];exact g3) g4) fun h=>absurd (hok1 cs hcs) h
  repeat' ((conv=>whnf);first|refine Br.f ?_|refine fLen.mk ?_|refine fB.i0 ?_|refine Get.mk _ hb0 ?_|refine zC kv ?_|(refine hset ?_;intro G' g2 g3 g4 g5)|refine fB.mk ?_|refine Get.mk _ rfl ?_|refine zR ?_)
  all_goals try (exfalso;omega)
  have hU:UH l (unT (pxL l) L (k+1)) (.ms 3 4 (l.length*3) 0 l.length false) (.int .i64 0) (.int .i64 0) _ G':=⟨g2,by omega,g4,g5 0 _ (by omega) (fun j _=>by omega) hS2.b0,g5 1 _ (by omega) (fun j _=>by omega) hS2.b1,g5 2 _ (by omega) (fun j _=>by omega) hS2.b2,g5 (l.length+5) _ (by omega) (fun j hj=>by omega) hS2.lop⟩
  have hT:=hU.trunc (tm:=[]) (n:=G.length) hGl (by omega)
  have hTl:G.length≤(trunc G.length [] G').length:=Q1y (by omega)
  exact hK _ (by rw [Q03];exact hTl) (hT.setlop (Q1n hTl _ hlb))
 ·intro k cs G K' hk hcs hno1 hS hK
  obtain ⟨q1,q2⟩:=q cs (jE hcs)
  have hGl:=hS.le
  have hlb:=Q08 hS.cl (Q0p hS.lop)
  have hlopx:=hS.lop
  have kv:=Qo5 (cv:=.sl (decide (cs=[])) cs.length (cgC cs)) (.inr rfl) ⟨_,_,_,rfl⟩
  have hr:=q1.sw (A:=unT (pxL l) L k) fun j hj=>by rw [Qag];exact Ql4 o j hj
  have hit:Itr 71 (.sl (decide (cs=[])) cs.length (cgC cs)) (cs.map swC):=@it106 _ _ (by omega)
  refine Q2d hS.lop (Nat.zero_le _) rfl ?_
  repeat' ((conv=>whnf);first|refine fLen.mk ?_|refine fB.i0 ?_|refine ⟨rfl,?_⟩|refine Get.mk _ hlopx ?_)
  all_goals try (exfalso;omega)
  refine fB.lopU hS hlb ?_
  intro G2 g1 hS2
  have g1:G2.length=G.length:=g1
  have hb0:=hS2.b0
  have hM2:l.length+5≤G2.length:=by omega
  have hn:¬ Qbz (unT (pxL l) L k) (cs.map swC):=fun h=>hno1 fun c hc=>by rw [hcs] at hc;cases hc;exact h
  have hset:∀ {K:V→List B→Prop},(∀ G' A',Cl G'→G2.length≤G'.length→FH 3 (l.length+5) l A' 4 (fun j=>3+2+j) G'→(∀ k b,k<G2.length→(∀ j,j<l.length→k≠3+2+j)→bget G2 k=some b→bget G' k=some b)→K (.bool false) G')→CallP FB md 0 (.fn 34 []) [.ms 3 4 (l.length*3) 0 l.length false,.fn 71 [.rp [.sl (decide (cs=[])) cs.length (cgC cs)] 0]] G2 K:=fun hK=>Qgm hit hS2.fh hM2 hS2.cl hr (fun h=>absurd h hn) fun _ G' A' g1 g2 g3 g4=>hK G' A' g1 g2 g3 g4
  repeat' ((conv=>whnf);first|refine Br.t ?_|refine fLen.mk ?_|refine fB.i0 ?_|refine Get.mk _ hb0 ?_|refine zC kv ?_|(refine hset ?_;intro G' A' g2 g3 g5 g4)|refine Get.mk _ rfl ?_|refine zR ?_)
  all_goals try (exfalso;omega)
  have p0:=g4 0 _ (by omega) (fun j _=>by omega) hS2.b0
  have p1:=g4 1 _ (by omega) (fun j _=>by omega) hS2.b1
  have p2:=g4 2 _ (by omega) (fun j _=>by omega) hS2.b2
  have p3:=g4 (l.length+5) _ (by omega) (fun j hj=>by omega) hS2.lop
  have p1':∀ b,bget (bset G' (0+0) b) (0+1)=some (.blk [.int .i64 0] false):=fun b=>(Q02 (by omega)).trans p1
  have p2':∀ b b',bget (bset (bset G' (0+0) b) (0+1) b') (0+2)=some (.blk [.int .i64 0] false):=fun b b'=>(Q02 (by omega)).trans ((Q02 (by omega)).trans p2)
  repeat' ((conv=>whnf);first|refine Get.mk _ p0 ?_|refine Get.mk _ (p1' _) ?_|refine Get.mk _ (p2' _ _) ?_|refine fB.mk ?_|refine zR ?_)
  all_goals try (exfalso;omega)
  have hU:UH l A' (.ms 3 4 (l.length*3) 0 l.length false) (.int .i64 0) (.int .i64 0) _ G':=⟨g2,by omega,g5,p0,p1,p2,p3⟩
  have hR:=hU.res (w0:=.nilsl) (w1:=.int .i64 ((L.length-(k+1):Nat):Int)) (w2:=.int .i64 181) rfl rfl rfl
  have hT:=hR.trunc (tm:=[]) (n:=G.length) hGl (by rw [Q03,Q03,Q03];omega)
  have hTl:∀ G4:List B,G.length≤G4.length→G.length≤(trunc G.length [] G4).length:=fun G4 h=>Q1y (by omega)
  have hTl2:=hTl (bset (bset (bset G' (0+0) (.blk [.nilsl] false)) (0+1) (.blk [.int .i64 ((L.length-(k+1):Nat):Int)] false)) (0+2) (.blk [.int .i64 181] false)) (by rw [Q03,Q03,Q03];omega)
  exact hK _ (by rw [Q03];exact hTl2) ⟨A',_,_,_,_,hT.setlop (Q1n hTl2 _ hlb)⟩
 ·intro hall G hS
  rw [show bget G (l.length+5+0)=_ from hS.lop]
  skip
  have hlb:=Q08 hS.cl (Q0p hS.lop)
  refine fB.lopU hS hlb ?_
  intro G2 g1 hS2
  have hb0:=hS2.b0
  have hb1:=hS2.b1
  have hb2:=hS2.b2
  have hF:=hS2.fh.mkF (d:=60)
  rw [hok hall]
  repeat' ((conv=>whnf);first|refine fLen.mk ?_|refine fB.i0 ?_|refine fB.as (Q0t hb0) ?_|refine fB.as (Q0t hb1) ?_|refine fB.as (Q0t hb2) ?_|refine Get.mk _ hb0 ?_|refine Get.mk _ hb1 ?_|refine Get.mk _ hb2 ?_|refine Q9q rfl rfl rfl hb0 hb1 hb2 ?_|exact hF|refine Get.mk _ rfl ?_|refine LeavesF.of ?_|refine VwF.int ?_|refine VwF.tup ?_|refine VwLF.cons ?_ ?_|refine VwLF.nil|refine zR ?_)
  all_goals first|rfl|(exfalso;omega)
 ·intro k hk hpre hno1 G A tm ps as bo hlb hS
  rw [show bget G (l.length+5+0)=_ from hS.lop]
  skip
  refine fB.lopU hS hlb ?_
  intro G2 g1 hS2
  have hb0:=hS2.b0
  have hb1:=hS2.b1
  have hb2:=hS2.b2
  rw [hno k hk hpre hno1]
  repeat' ((conv=>whnf);first|refine Q9q rfl rfl rfl hb0 hb1 hb2 ?_|refine LeavesF.of ?_|refine VwF.int ?_|refine VwF.nil|refine VwF.tup ?_|refine VwLF.cons ?_ ?_|refine VwLF.nil)
  all_goals first|rfl|exact VwF.nil|(exfalso;omega)
end Go.Dr.T
namespace Go.Dr.T
theorem Qm1 {p q:List UInt8} (h:p.length=q.length) (e:∀ m,m<p.length→p.getD m 0=q.getD m 0):p=q:=by
 apply List.ext_getElem h
 intro m h1 h2
 have:=e m h1
 rw [jM,jM,jC h1,jC h2] at this
 exact this
theorem Qlr {NU:Nat→UInt8} {p:List UInt8} {m:Nat} (h:m<p.length):(mixP NU p p.length).getD m 0=NU m:=by
 unfold mixP
 rw [List.drop_length,List.append_nil,jM,jH,List.getElem?_range h]
 rfl
theorem Q90 {NU:Nat→UInt8} {i:Nat} {p:List UInt8} {x:Cg}:∀ {m:Nat},x∈cgM NU i p m↔∃ k,k<m∧¬ NU k=p.getD k 0∧x=⟨i,k,p.getD k 0,NU k⟩
 | 0=>⟨fun h=>absurd h List.not_mem_nil,fun ⟨k,h,_⟩=>absurd h (Nat.not_lt_zero _)⟩
 | m+1=>by
  rw [cgM]
  have ih:=Q90 (NU:=NU) (i:=i) (p:=p) (x:=x) (m:=m)
  by_cases e:NU m=p.getD m 0
  ·rw [if_pos e,ih]
   constructor
   ·rintro ⟨k,h1,h2,h3⟩;exact ⟨k,by omega,h2,h3⟩
   ·rintro ⟨k,h1,h2,h3⟩
    by_cases ek:k=m
    ·subst ek;exact absurd e h2
    ·exact ⟨k,by omega,h2,h3⟩
  ·rw [if_neg e,jK,ih,jJ]
   constructor
   ·rintro (⟨k,h1,h2,h3⟩|h)
    ·exact ⟨k,by omega,h2,h3⟩
    ·exact ⟨m,Nat.lt_succ_self m,e,h⟩
   ·rintro ⟨k,h1,h2,h3⟩
    by_cases ek:k=m
    ·subst ek;exact .inr h3
    ·exact .inl ⟨k,by omega,h2,h3⟩
theorem Qfj {NU:Nat→UInt8} {i:Nat} {p:List UInt8}:∀ {m:Nat},(cgM NU i p m).Pairwise cgLt
 | 0=>List.Pairwise.nil
 | m+1=>by
  rw [cgM]
  by_cases e:NU m=p.getD m 0
  ·rw [if_pos e];exact Qfj (m:=m)
  ·rw [if_neg e,List.pairwise_append]
   refine ⟨Qfj (m:=m),List.pairwise_singleton _ _,fun x hx y hy=>?_⟩
   obtain ⟨k,hk,_,rfl⟩:=Q90.1 hx
   rw [jJ] at hy
   subst hy
   refine .inr ⟨rfl,?_⟩
   show (k:Int)<(m:Int)
   omega
theorem Q6n {NU:Nat→Nat→UInt8} {l:List Fm} {x:Cg}:∀ {n:Nat},x∈cgA NU l n↔∃ i f m,i<n∧l[i]?=some f∧m<f.p.length∧¬ NU i m=f.p.getD m 0∧x=⟨i,m,f.p.getD m 0,NU i m⟩
 | 0=>⟨fun h=>absurd h List.not_mem_nil,fun ⟨i,f,m,h,_⟩=>absurd h (Nat.not_lt_zero _)⟩
 | n+1=>by
  rw [cgA,jK,Q6n (n:=n)]
  constructor
  ·rintro (⟨i,f,m,h1,h2⟩|h)
   ·exact ⟨i,f,m,by omega,h2⟩
   ·cases hf:l[n]? with
    | none=>rw [hf] at h;cases h
    | some f =>
     rw [hf] at h
     obtain ⟨k,h1,h2,h3⟩:=Q90.1 h
     exact ⟨n,f,k,Nat.lt_succ_self n,hf,h1,h2,h3⟩
  ·rintro ⟨i,f,m,h1,h2,h3,h4,h5⟩
   by_cases e:i=n
   ·subst e
    right
    rw [h2]
    exact Q90.2 ⟨m,h3,h4,h5⟩
   ·exact .inl ⟨i,f,m,by omega,h2,h3,h4,h5⟩
theorem Qnu {NU:Nat→Nat→UInt8} {l:List Fm}:∀ {n:Nat},(cgA NU l n).Pairwise cgLt
 | 0=>List.Pairwise.nil
 | n+1=>by
  rw [cgA,List.pairwise_append]
  refine ⟨Qnu (n:=n),?_,fun x hx y hy=>?_⟩
  ·cases l[n]? with
   | none=>exact List.Pairwise.nil
   | some f=>exact Qfj
  ·obtain ⟨i,f,m,h1,_,_,_,rfl⟩:=Q6n.1 hx
   cases hf:l[n]? with
   | none=>rw [hf] at hy;cases hy
   | some g =>
    rw [hf] at hy
    obtain ⟨k,_,_,rfl⟩:=Q90.1 hy
    left
    show (i:Int)<(n:Int)
    omega
theorem Qn6 {l:List Fm} {W H:Nat} {s:Sp} (o:FOk l W H):COk l.length (W*H) (doC l W H s):=by
 refine ⟨fun x hx=>?_,Qnu⟩
 obtain ⟨i,f,m,h1,h2,h3,h4,rfl⟩:=Q6n.1 hx
 obtain ⟨_,_,hp⟩:=o.all f (jE h2)
 refine ⟨⟨?_,?_⟩,⟨?_,?_⟩,fun e=>h4 e.symm⟩
 ·show (0:Int)≤(i:Int);omega
 ·show (i:Int)<_;omega
 ·show (0:Int)≤(m:Int);omega
 ·show (m:Int)<((W*H:Nat):Int);omega
theorem Q7y {l:List Fm} {W H:Nat} {s:Sp} {j:Nat} {f:Fm} (hf:l[j]?=some f):pxL (doF l W H s) j=mixP (newU l W H s j) f.p f.p.length:=Q25 (Qbk hf)
theorem Ql3 {l:List Fm} {j:Nat} (h:l.length≤j):pxL l j=[]:=by
 unfold pxL
 rw [List.getElem?_eq_none h]
theorem Qsn {l:List Fm} {W H:Nat} {s:Sp} (o:FOk l W H):Qbz (pxL (doF l W H s)) ((doC l W H s).map swC)∧apT (pxL (doF l W H s)) ((doC l W H s).map swC) ((doC l W H s).map swC).length=pxL l:=by
 have c:=Qn6 (s:=s) o
 have hd:=plD_sw c.pl
 have hO:∀ x∈(doC l W H s).map swC,(pxL (doF l W H s) x.f.toNat).getD x.p.toNat 0=x.o:=fun x hx=>by
  obtain ⟨y,hy,rfl⟩:=List.mem_map.1 hx
  obtain ⟨i,f,m,h1,h2,h3,h4,rfl⟩:=Q6n.1 hy
  show (pxL (doF l W H s) i).getD m 0=newU l W H s i m
  rw [Q7y h2,Qlr h3]
 refine ⟨Qr2 hd hO,?_⟩
 funext j
 by_cases hj:j<l.length
 rotate_left
 ·have h1:(apT (pxL (doF l W H s)) ((doC l W H s).map swC) ((doC l W H s).map swC).length j).length=0:=by rw [Q36,Ql3 (by rw [Q2z];omega)];rfl
  rw [List.eq_nil_of_length_eq_zero h1,Ql3 (by omega)]
 obtain ⟨f,hf,_,_,hp⟩:=o.at hj
 rw [Q25 hf]
 refine Qm1 (by rw [Q36,Q7y hf,Q7a (Nat.le_refl _)]) fun m hm=>?_
 rw [Q36,Q7y hf,Q7a (Nat.le_refl _)] at hm
 by_cases e:newU l W H s j m=f.p.getD m 0
 ·rw [Qfp,Q7y hf,Qlr hm,e]
  intro i x _ hx hpl
  obtain ⟨y,hy,rfl⟩:=List.mem_map.1 (jE hx)
  obtain ⟨i',f',m',h1,h2,h3,h4,rfl⟩:=Q6n.1 hy
  obtain ⟨e1,e2⟩:=hpl
  have e1:i'=j:=e1
  have e2:m'=m:=e2
  subst e1 e2
  rw [hf] at h2
  cases h2
  exact h4 e
 ·have hx:swC (⟨j,m,f.p.getD m 0,newU l W H s j m⟩:Cg)∈(doC l W H s).map swC:=List.mem_map.2 ⟨_,Q6n.2 ⟨j,f,m,hj,hf,hm,e,rfl⟩,rfl⟩
  obtain ⟨i,hi⟩:=List.getElem?_of_mem hx
  exact Qs4 (A:=pxL (doF l W H s)) hd hi (by show m<(pxL (doF l W H s) j).length;rw [Q7y hf,Q7a (Nat.le_refl _)];exact hm) (jB.1 hi).1
theorem Qe9 {W H:Nat} {s:Sp}:∀ {ss:List Sp} {l:List Fm} {i:Nat},ss[i]?=some s→(rnC W H l ss)[i]?=some (doC (rnF W H l (ss.take i)) W H s)
 | t::ss,l,0,h=>by
  simp only [List.getElem?_cons_zero,jA] at h
  subst h
  rfl
 | t::ss,l,i+1,h=>by
  have:=Qe9 (W:=W) (H:=H) (ss:=ss) (l:=doF l W H t) (i:=i) (by simpa using h)
  simpa [rnC,rnF] using this
theorem Qgn {W H:Nat} {s:Sp} {ss:List Sp} {l:List Fm} {i:Nat} (h:ss[i]?=some s):rnF W H l (ss.take (i+1))=doF (rnF W H l (ss.take i)) W H s:=by
 have ht:ss.take (i+1)=ss.take i++[s]:=by
  rw [List.take_add_one,h]
  rfl
 rw [ht,rnF_snoc]
theorem Qr5 {l:List Fm} {W H:Nat} {ss:List Sp} (o:FOk l W H):∀ k,k≤ss.length→unT (pxL (rnF W H l ss)) (rnC W H l ss) k=pxL (rnF W H l (ss.take (ss.length-k)))∧∀ j,j<k→unOk (pxL (rnF W H l ss)) (rnC W H l ss) j
 | 0,_=>⟨by rw [Nat.sub_zero,List.take_length];rfl,fun j h=>absurd h (Nat.not_lt_zero _)⟩
 | k+1,hk=>by
  obtain ⟨ih1,ih2⟩:=Qr5 (ss:=ss) o k (by omega)
  obtain ⟨s,hs⟩:∃ s,ss[ss.length-(k+1)]?=some s:=⟨_,jC (by omega)⟩
  have hc:=Qe9 (W:=W) (H:=H) (l:=l) hs
  have hL:(rnC W H l ss).length=ss.length:=Q2j
  have e:ss.length-k=ss.length-(k+1)+1:=by omega
  rw [e,Qgn hs] at ih1
  obtain ⟨u1,u2⟩:=Qsn (s:=s) (Q6u (ss:=ss.take (ss.length-(k+1))) o)
  refine ⟨by rw [unT_S (by rw [hL];exact hc),ih1,u2],fun j hj=>?_⟩
  by_cases ej:j=k
  ·subst ej
   intro cs hcs
   rw [hL,hc] at hcs
   cases hcs
   rw [ih1]
   exact u1
  ·exact ih2 j (by omega)
theorem Qea {W H:Nat}:∀ {ss:List Sp} {l:List Fm},FOk l W H→∀ x∈rnC W H l ss,COk l.length (W*H) x∧x.length≤30000
 | [],_,_,x,hx=>by cases hx
 | t::ss,l,o,x,hx=>by
  rw [rnC] at hx
  rcases List.mem_cons.1 hx with rfl|hx
  ·exact ⟨Qn6 o,Quh o⟩
  ·have:=Qea (ss:=ss) (Qrw o) x hx
   rwa [Q2z] at this
theorem FOk.fl {l:List Fm} {W H:Nat} (o:FOk l W H):(flE l).2=0:=by
 obtain ⟨f0,hf0,h1,h2,_⟩:=o.at o.n0
 have hz:∀ f∈l,fmE f0.w f0.h f=0:=fun f hf=>by
  obtain ⟨e1,e2,e3⟩:=o.all f hf
  have ow:=o.w
  have oh:=o.h
  unfold fmE
  have a1:¬ (outB f.w 1 48=true∨outB f.h 1 48=true):=by
   simp only [outB,Bool.or_eq_true,jG,e1,e2]
   omega
  have a2:¬ ((f.p.length:Int)≠f.w*f.h):=by
   rw [e1,e2,e3,Int.natCast_mul]
   exact fun h=>h rfl
  have a3:¬ (f.w≠f0.w∨f.h≠f0.h):=by
   rw [e1,e2,h1,h2]
   exact fun h=>h.elim (fun q=>q rfl) fun q=>q rfl
  rw [if_neg a1,if_neg a2,if_neg a3]
 cases l with
 | nil=>exact absurd o.n0 (by decide)
 | cons f l =>
  simp only [List.getElem?_cons_zero,jA] at hf0
  subst hf0
  have h12:=o.n12
  rw [flE,if_neg (by omega),Qf2 fun j g _ hg=>hz g (jE hg)]
theorem Qpg {F l:List Fm} {W H:Nat} {A:Nat→List UInt8} (oF:FOk F W H) (o:FOk l W H) (hl:F.length=l.length) (hA:A=pxL l):FSm (mkF F A) l:=by
 refine ⟨mkF_len.trans hl,fun i f g hf hg=>?_⟩
 have hi:=(jB.1 hg).1
 obtain ⟨u,hu,h1,h2,_⟩:=oF.at (i:=i) (by omega)
 obtain ⟨e1,e2,_⟩:=o.all g (jE hg)
 rw [Qlp hu] at hf
 cases hf
 refine ⟨h1.trans e1.symm,h2.trans e2.symm,?_⟩
 show A i=g.p
 rw [hA,Q25 hg]
end Go.Dr.T
