/- Chapter 08: Redo, walked. -/
import Derived.Test.YthihdpbgmhnloaaGreatDoorG16
namespace Go.Dr.T
theorem FH.mkF {N M:Nat} {l:List Fm} {A:Nat→List UInt8} {o:Nat} {P:Nat→Nat} {h:List B} {d:Nat} (e:FH N M l A o P h):VwF h (d+1+1+1) (.ms 3 o (l.length * 3) 0 l.length false) (.sl false l.length (fmC (mkF l A))):=by
 have:=e.vw (l' := T.mkF l A) (d:=d) mkF_len fun j f hf=>mkF_get hf
 rwa [mkF_len] at this
set_option maxRecDepth 100000 in
set_option maxHeartbeats 20000000 in
theorem redo_any {c d:Bool} {l:List Fm} {W H:Nat} {L:List (List Cg)} {v:V} (o:FOk l W H) (hL:L.length≤20) (q:∀ x∈L,COk l.length (W * H) x∧x.length≤30000) (he:(flE l).2=0)
  (hok:(∀ k,k<L.length→rdOk (pxL l) L k)→v = .tup [.sl false l.length (fmC (mkF l (rdT (pxL l) L L.length))),.int .i64 0,.int .i64 0])
  (hno:∀ i:Nat,i<L.length→(∀ k,k<i→rdOk (pxL l) L k)→¬ rdOk (pxL l) L i→v = .tup [.sl true 0 [],.int .i64 (i:Nat),.int .i64 181]):FunF FB md 32 [.sl c l.length (fmC l),.sl d L.length (lgC L)] v:=by
 have k1:=logged_ok (c:=c) (d:=d) o hL q he
 have hnn:=o.nn
 have hcp:∀ {K:V→List B→Prop},(∀ G,Cl G→FH ([]:List B).length G.length l (pxL l) (([]:List B).length+1) (fun j=>([]:List B).length+2+j) G→K (.ms 3 (([]:List B).length+1) (l.length * 3) 0 l.length false) G)→CallP FB md 0 (.fn 47 []) [.sl c l.length (fmC l)] [] K:=fun h=>clone_call o rfl fun G c1 _ _ c4=>h G c1 c4
 refine funF_of rfl rfl ?_
 repeat' (first
 | (conv=>whnf)
   first
   | refine Br.f ?_
   | refine call_fun rfl rfl k1 (.inl rfl) ?_
   | refine Get.mk _ rfl ?_)
 all_goals try (exfalso;omega;done)
 refine hcp ?_
 intro G0 c1 c4
 clear hcp k1
 repeat' (first
 | (conv=>whnf)
   first
   | refine fLen.mk ?_
   | refine fB.i0 ?_)
 all_goals try (exfalso;omega;done)
 refine LoopP.by (fun a:GA=>a.i≤L.length∧(∀ k,k<a.i→rdOk (pxL l) L k)∧Cl a.G∧G0.length≤a.G.length∧FH 0 G0.length l (rdT (pxL l) L a.i) 1 (fun j=>([]:List B).length+2+j) a.G) (fun a=>[(23,.int .i64 (a.i:Nat))]) (fun a=>a.G) (fun a=>L.length - a.i) ⟨0,G0⟩ ⟨Nat.zero_le _,fun k h=>absurd h (Nat.not_lt_zero _),c1,Nat.le_refl _,c4⟩ rfl ?_
 rintro ⟨i,G⟩ ⟨w1,w2,w3,w4,w5⟩
 dsimp only at w1 w2 w3 w4 w5 ⊢
 by_cases hi:i<L.length
 rotate_left
 ·obtain rfl:i=L.length:=by omega
  rw [hok w2]
  have hF:=w5.mkF (d:=60)
  repeat' (first
 | (conv=>whnf)
   first
   | (refine Br.decF ?_ ?_;(focus first | assumption | omega))
   | refine fLen.mk ?_
   | refine fB.i0 ?_
   | refine fB.mk ?_
   | exact hF
   | refine Get.mk _ rfl ?_
   | refine LeavesF.of ?_
   | refine VwF.int ?_
   | refine VwF.tup ?_
   | refine VwLF.cons ?_ ?_
   | refine VwLF.nil)
  all_goals first | rfl | (exfalso;omega;done)
 obtain ⟨cs,hcs⟩:∃ x,L[i]?=some x:=⟨_,List.getElem?_eq_getElem hi⟩
 obtain ⟨q1,q2⟩:=q cs (List.mem_of_getElem? hcs)
 have hp:=lgC_at hcs
 unfold cgL at hp
 have hiw:IntKind.i64.wrap ((i:Int)+1)=((i+1:Nat):Int):=by rw [wrap_i64 (by omega) (by omega)];omega
 have hil:i≤L.length - 1:=by omega
 have h0l:0<L.length:=by omega
 have kv:=values_ok (cv:=.sl (decide (cs=[])) cs.length (cgC cs)) ⟨_,_,_,rfl⟩
 have hr:=q1.nt (A:=rdT (pxL l) L i) fun j hj=>by rw [rdT_len];exact pxL_len o j hj
 have hit:Itr 107 (.sl (decide (cs=[])) cs.length (cgC cs)) cs := @it107 _ _ (by omega)
 by_cases hr1:rdOk (pxL l) L i
 ·have hset:∀ {K:V→List B→Prop},(∀ G', Cl G' → G.length≤G'.length→FH 0 G0.length l (rdT (pxL l) L (i+1)) 1 (fun j=>([]:List B).length+2+j) G' → K (.bool true) G')→CallP FB md 0 (.fn 65 []) [.ms 3 1 (l.length * 3) 0 l.length false,.fn 107 [.rp [.sl (decide (cs=[])) cs.length (cgC cs)] 0]] G K:=fun hK=>set_call hit w5 w4 w3 hr (fun _ G' g1 g2 g3 _=>hK G' g1 g2 (by rw [rdT_S hcs];exact g3)) fun h=>absurd (hr1 cs hcs) h
  repeat' (first
 | (conv=>whnf)
   first
   | refine Bnd.eq hiw ?_
   | refine Br.f ?_
   | (refine Br.decT ?_ ?_;(focus first | assumption | omega))
   | refine fLen.mk ?_
   | refine fB.i0 ?_
   | refine Get.mk _ hp ?_
   | refine Idx.nat hil ?_
   | refine Req.mk h0l ?_
   | refine call_fun rfl rfl kv (.inl rfl) ?_
   | (refine hset ?_;intro G' g1 g2 g3)
   | refine fB.mk ?_)
  all_goals try (exfalso;omega;done)
  obtain ⟨j,h1,h2,h3,_⟩:=norm_cut (n:=G0.length) (mk:=_) (tm:=_) (h:=G') (by omega) g1
  refine NextP.of (fun g=>⟨i+1,g⟩) ⟨hi,fun k hk => ?_,?_⟩ (by dsimp only;omega) rfl
  ·have hk:k<i+1:=hk
   by_cases e:k=i
   ·subst e;exact hr1
   ·exact w2 k (by omega)
  ·show Cl (norm _ G0.length ⟨_,G'⟩).h∧_≤(norm _ G0.length ⟨_,G'⟩).h.length∧FH _ _ _ _ _ _ (norm _ G0.length ⟨_,G'⟩).h
   rw [h2]
   exact ⟨h3,by rw [List.length_take];omega,g3.cap h1⟩
 ·have hn:¬ apAll (rdT (pxL l) L i) cs:=fun h=>hr1 fun c hc=>by rw [hcs] at hc;cases hc;exact h
  have hset:∀ {K:V→List B→Prop},(∀ G', K (.bool false) G')→CallP FB md 0 (.fn 65 []) [.ms 3 1 (l.length * 3) 0 l.length false,.fn 107 [.rp [.sl (decide (cs=[])) cs.length (cgC cs)] 0]] G K:=fun hK=>set_call hit w5 w4 w3 hr (fun h=>absurd h hn) fun _ G' _ _ _ _ _=>hK G'
  rw [hno i hi w2 hr1]
  repeat' (first
 | (conv=>whnf)
   first
   | refine Br.t ?_
   | (refine Br.decT ?_ ?_;(focus first | assumption | omega))
   | refine fLen.mk ?_
   | refine fB.i0 ?_
   | refine Get.mk _ hp ?_
   | refine Idx.nat hil ?_
   | refine Req.mk h0l ?_
   | refine call_fun rfl rfl kv (.inl rfl) ?_
   | (refine hset ?_;intro G')
   | refine fB.mk ?_
   | refine Get.mk _ rfl ?_
   | refine LeavesF.of ?_
   | refine VwF.int ?_
   | refine VwF.nil
   | refine VwF.tup ?_
   | refine VwLF.cons ?_ ?_
   | refine VwLF.nil)
  all_goals first | rfl | exact VwF.nil | (exfalso;omega;done)
end Go.Dr.T
namespace Go.Dr.T
structure UH (l:List Fm) (A:Nat→List UInt8) (v0 v1 v2:V) (lp:B) (G:List B):Prop where
 cl:Cl G
 le:l.length+6≤G.length
 fh:FH 3 (l.length+5) l A 4 (fun j=>3+2+j) G
 b0:bget G 0=some (.blk [v0] false)
 b1:bget G 1=some (.blk [v1] false)
 b2:bget G 2=some (.blk [v2] false)
 lop:bget G (l.length+5)=some lp
section
variable {l:List Fm} {A:Nat→List UInt8} {v0 v1 v2:V} {lp:B} {G:List B}
theorem UH.take {k:Nat} (e:UH l A v0 v1 v2 lp G) (hk:l.length+6≤k) (c:Cl (G.take k)):UH l A v0 v1 v2 lp (G.take k) :=
 ⟨c,by rw [List.length_take];have:=e.le;omega,e.fh.cap (by omega),by rw [bget_take (by omega)];exact e.b0,by rw [bget_take (by omega)];exact e.b1,by rw [bget_take (by omega)];exact e.b2,by rw [bget_take (by omega)];exact e.lop⟩
theorem UH.trunc {tm:List V} {n:Nat} (e:UH l A v0 v1 v2 lp G) (hn:l.length+6≤n) (hn2:n≤G.length):UH l A v0 v1 v2 lp (trunc n tm G):=by
 obtain ⟨k,h1,h2,h3,h4⟩:=trunc_cut (tm:=tm) hn2 e.cl
 rw [h2]
 exact e.take (by omega) h3
theorem UH.setlop {lp' : B} (e:UH l A v0 v1 v2 lp G) (hb:lp'.blo G.length=true):UH l A v0 v1 v2 lp' (bset G (l.length+5) lp') :=
 ⟨e.cl.set hb,by rw [bset_len];exact e.le,e.fh.other (.inr (Nat.le_refl _)),by rw [bset_other (by omega)];exact e.b0,by rw [bset_other (by omega)];exact e.b1,by rw [bset_other (by omega)];exact e.b2,bget_same (by have:=e.le;omega)⟩
theorem fB.lopU {lp' : B} {K:List B→Prop} (e:UH l A v0 v1 v2 lp G) (hb:lp'.blo G.length=true) (hk:∀ G', G'.length=G.length→UH l A v0 v1 v2 lp' G' → K G'):fB (bset G (l.length+5) lp') K :=
 fB.mk (hk _ (bset_len ..) (e.setlop hb))
theorem UH.res {w0 w1 w2:V} (e:UH l A v0 v1 v2 lp G) (h0:w0.blo G.length=true) (h1:w1.blo G.length=true) (h2:w2.blo G.length=true):UH l A w0 w1 w2 lp (bset (bset (bset G (0+0) (.blk [w0] false)) (0+1) (.blk [w1] false)) (0+2) (.blk [w2] false)):=by
 have hl:=e.le
 refine ⟨((e.cl.set (by simp [B.blo,blos,h0])).set (by rw [bset_len];simp [B.blo,blos,h1])).set (by rw [bset_len,bset_len];simp [B.blo,blos,h2]),by rw [bset_len,bset_len,bset_len];exact hl,((e.fh.other (.inl (by omega))).other (.inl (by omega))).other (.inl (by omega)),?_,?_,?_,?_⟩
 ·rw [bset_other (by omega),bset_other (by omega)];exact bget_same (by omega)
 ·rw [bset_other (by omega)];exact bget_same (by rw [bset_len];omega)
 ·exact bget_same (by rw [bset_len,bset_len];omega)
 ·rw [bset_other (by omega),bset_other (by omega),bset_other (by omega)];exact e.lop
theorem UH.start {G0:List B} {A:Nat→List UInt8} (c1:Cl G0) (c3:G0.length=3+2+l.length) (c4:FH 3 G0.length l A 4 (fun j=>3+2+j) G0) (h1:bget G0 1=some (.blk [v1] false)) (h2:bget G0 2=some (.blk [v2] false)) (hlp:lp.blo (l.length+5)=true):UH l A (.ms 3 4 (l.length * 3) 0 l.length false) v1 v2 lp (bset G0 (0+0) (.blk [.ms 3 4 (l.length * 3) 0 l.length false] false)++[lp]):=by
 have hg1:(bset G0 (0+0) (.blk [.ms 3 4 (l.length * 3) 0 l.length false] false)).length=l.length+5:=by rw [bset_len,c3];omega
 have d1:Cl (bset G0 (0+0) (.blk [.ms 3 4 (l.length * 3) 0 l.length false] false)):=c1.set (by simp only [B.blo,blos,V.blo,Bool.false_or,Bool.and_true];exact decide_eq_true (by omega))
 refine ⟨d1.app (by rw [hg1];exact hlp),by rw [List.length_append,hg1];exact Nat.le_refl _,((c4.other (.inl (by omega))).app).up (by omega),bget_app (bget_same (by omega)),bget_app ((bset_other (by omega)).trans h1),bget_app ((bset_other (by omega)).trans h2),?_⟩
 have:=bget_new (h:=bset G0 (0+0) (.blk [.ms 3 4 (l.length * 3) 0 l.length false] false)) (g:=[lp]) (i:=0)
 rw [hg1] at this
 exact this
end
theorem res_cells3 {tm:List V} {g:List B} {v w u:V} {i j k:Nat} {P:V→Prop} (h1:tg tm 4 = .ref i 1 0) (h2:tg tm 5 = .ref j 1 0) (h3:tg tm 6 = .ref k 1 0) (hb:bget g i=some (.blk [v] false)) (hc:bget g j=some (.blk [w] false)) (hd:bget g k=some (.blk [u] false)) (hk:P (.tup [v,w,u])):Get (result ⟨tm,g⟩ [.cell 4 false 1,.cell 5 false 1,.cell 6 false 1]) P:=by
 refine ⟨.tup [v,w,u],?_,hk⟩
 simp only [result,results,h1,h2,h3,hb,hc,hd,loadFrom,List.length_cons,List.length_nil]
 rfl
theorem undo_it {c:Bool} {l:List Fm} {L:List (List Cg)} {lp:B} {Gs:List B} {K:V→List B→Prop} (hL:L.length≤20) (h0:UH l (pxL l) (.ms 3 4 (l.length * 3) 0 l.length false) (.int .i64 0) (.int .i64 0) lp Gs) (hGs:Gs.length=l.length+6) (hlp:lp.blo (l.length+5)=true)
  (hgo:∀ k cs G (K:V→List B→Prop),k<L.length→L[L.length - (k+1)]?=some cs→unOk (pxL l) L k→UH l (unT (pxL l) L k) (.ms 3 4 (l.length * 3) 0 l.length false) (.int .i64 0) (.int .i64 0) lp G→(∀ G', G.length≤G'.length→UH l (unT (pxL l) L (k+1)) (.ms 3 4 (l.length * 3) 0 l.length false) (.int .i64 0) (.int .i64 0) lp G' → K (.bool true) G')→CallP FB md 0 (.yld (l.length+5)) [.int .i64 ((L.length - (k+1):Nat):Int),.sl (decide (cs=[])) cs.length (cgC cs)] G K)
  (hno:∀ k cs G (K:V→List B→Prop),k<L.length→L[L.length - (k+1)]?=some cs→¬ unOk (pxL l) L k→UH l (unT (pxL l) L k) (.ms 3 4 (l.length * 3) 0 l.length false) (.int .i64 0) (.int .i64 0) lp G→(∀ G', G.length≤G'.length→(∃ A tm ps as bo,UH l A .nilsl (.int .i64 ((L.length - (k+1):Nat):Int)) (.int .i64 181) (.lop false .ret tm ps as bo) G')→K (.bool false) G')→CallP FB md 0 (.yld (l.length+5)) [.int .i64 ((L.length - (k+1):Nat):Int),.sl (decide (cs=[])) cs.length (cgC cs)] G K)
  (hk1:(∀ k,k<L.length→unOk (pxL l) L k)→∀ G,UH l (unT (pxL l) L L.length) (.ms 3 4 (l.length * 3) 0 l.length false) (.int .i64 0) (.int .i64 0) lp G→K (.tup []) G)
  (hk2:∀ k:Nat,k<L.length→(∀ j,j<k→unOk (pxL l) L j)→¬ unOk (pxL l) L k→∀ G A tm ps as bo,lp.blo G.length=true→UH l A .nilsl (.int .i64 ((L.length - (k+1):Nat):Int)) (.int .i64 181) (.lop false .ret tm ps as bo) G→K (.tup []) G):CallP FB md 0 (.fn 105 [.rp [.sl c L.length (lgC L)] 0]) [.yld (l.length+5)] Gs K:=by
 refine it105 (N:=l.length+6) (Q:=fun k G=>UH l (unT (pxL l) L k) (.ms 3 4 (l.length * 3) 0 l.length false) (.int .i64 0) (.int .i64 0) lp G∧∀ j,j<k→unOk (pxL l) L j) (S:=fun G=>∃ k A tm ps as bo,(k<L.length∧(∀ j,j<k→unOk (pxL l) L j)∧¬ unOk (pxL l) L k)∧UH l A .nilsl (.int .i64 ((L.length - (k+1):Nat):Int)) (.int .i64 181) (.lop false .ret tm ps as bo) G) (ok:=fun k=>unOk (pxL l) L k) (by omega) ⟨fun k G e=>⟨e.1.cl,e.1.le⟩,fun k G j e h1 h2=>⟨e.1.take h1 h2,e.2⟩,fun G ⟨k,A,tm,ps,as,bo,e0,e⟩=>⟨e.cl,e.le⟩,fun G j ⟨k,A,tm,ps,as,bo,e0,e⟩ h1 h2=>⟨k,A,tm,ps,as,bo,e0,e.take h1 h2⟩,?_,?_⟩ hGs ⟨h0,fun j hj=>absurd hj (Nat.not_lt_zero _)⟩ (fun G e=>hk1 e.2 G e.1) (fun G ⟨k,A,tm,ps,as,bo,e0,e⟩=>hk2 k e0.1 e0.2.1 e0.2.2 G A tm ps as bo (Bblo_mono (by have:=e.le;omega) _ hlp) e)
 ·intro k cs G K' hk hcs hok e hK
  refine hgo k cs G K' hk hcs hok e.1 fun G' g1 g2=>hK G' g1 ⟨g2,fun j hj => ?_⟩
  by_cases ej:j=k
  ·subst ej;exact hok
  ·exact e.2 j (by omega)
 ·intro k cs G K' hk hcs hnk e hK
  exact hno k cs G K' hk hcs hnk e.1 fun G' g1 ⟨A,tm,ps,as,bo,g2⟩=>hK G' g1 ⟨k,A,tm,ps,as,bo,⟨hk,e.2,hnk⟩,g2⟩
set_option maxRecDepth 100000 in
set_option maxHeartbeats 20000000 in
theorem undo_any {c d:Bool} {l:List Fm} {W H:Nat} {L:List (List Cg)} {v:V} (o:FOk l W H) (hL:L.length≤20) (q:∀ x∈L,COk l.length (W * H) x∧x.length≤30000) (he:(flE l).2=0)
  (hok:(∀ k,k<L.length→unOk (pxL l) L k)→v = .tup [.sl false l.length (fmC (mkF l (unT (pxL l) L L.length))),.int .i64 0,.int .i64 0])
  (hno:∀ i:Nat,i<L.length→(∀ k,k<i→unOk (pxL l) L k)→¬ unOk (pxL l) L i→v = .tup [.sl true 0 [],.int .i64 ((L.length - (i+1):Nat):Int),.int .i64 181]):FunF FB md 29 [.sl c l.length (fmC l),.sl d L.length (lgC L)] v:=by
 have k1:=logged_ok (c:=c) (d:=d) o hL q he
 have k2:=backward_ok (cv:=.sl d L.length (lgC L)) ⟨_,_,_,rfl⟩
 have hnn:=o.nn
 have hn12:=o.n12
 have hcp:∀ {K:V→List B→Prop},(∀ G,Cl G→(∀ m b,bget [B.blk [.nilsl] false,.blk [.int .i64 0] false,.blk [.int .i64 0] false] m=some b→bget G m=some b)→G.length=3+2+l.length→FH 3 G.length l (pxL l) 4 (fun j=>3+2+j) G→K (.ms 3 4 (l.length * 3) 0 l.length false) G)→CallP FB md 0 (.fn 47 []) [.sl c l.length (fmC l)] [.blk [.nilsl] false,.blk [.int .i64 0] false,.blk [.int .i64 0] false] K:=fun h=>clone_call o rfl h
 refine funF_of rfl rfl ?_
 repeat' (first
 | (conv=>whnf)
   first
   | refine Br.f ?_
   | refine call_fun rfl rfl k1 (.inl rfl) ?_
   | refine Get.mk _ rfl ?_
   | (refine Req.mk ?_ ?_;(focus first | rfl | decide | exact ⟨rfl,rfl⟩ | exact ⟨rfl,by decide⟩ | exact (fun _=>rfl) | exact (fun h=>nomatch h) | (simp;done) | omega | (simp [big];done) | exact le_big (by omega) | exact lt_big (by omega))))
 all_goals try (exfalso;omega;done)
 refine hcp ?_
 intro G0 c1 c2 c3 c4
 clear hcp k1
 have hb0:=c2 0 _ rfl
 have hl1:∀ {b:B},(bset G0 (0+0) b).length=l.length+5:=fun {b}=>by rw [bset_len,c3];omega
 repeat' (first
 | (conv=>whnf)
   first
   | refine fLen.as hl1 ?_
   | refine fB.i0 ?_
   | refine Get.mk _ hb0 ?_
   | refine fB.mk ?_
   | refine call_fun rfl rfl k2 (.inl rfl) ?_
   | (refine Req.mk ?_ ?_;(focus first | rfl | decide | exact ⟨rfl,rfl⟩ | exact ⟨rfl,by decide⟩ | exact (fun _=>rfl) | exact (fun h=>nomatch h) | (simp;done) | omega | (simp [big];done) | exact le_big (by omega) | exact lt_big (by omega))))
 all_goals try (exfalso;omega;done)
 refine undo_it hL (UH.start c1 c3 c4 (c2 1 _ rfl) (c2 2 _ rfl) ?hb) (by rw [List.length_append,hl1];rfl) ?hb ?_ ?_ ?_ ?_
 case hb =>
  simp [B.blo,blos,V.blo]
 ·intro k cs G K' hk hcs hok1 hS hK
  obtain ⟨q1,q2⟩:=q cs (List.mem_of_getElem? hcs)
  have hGl:=hS.le
  have hlb:=blo_of_hbelow hS.cl (mem_bget hS.lop)
  have hlopx:=hS.lop
  have kv:=back_ok (cv:=.sl (decide (cs=[])) cs.length (cgC cs)) (.inr rfl) ⟨_,_,_,rfl⟩
  have hr:=q1.sw (A:=unT (pxL l) L k) fun j hj=>by rw [unT_len];exact pxL_len o j hj
  have hit:Itr 106 (.sl (decide (cs=[])) cs.length (cgC cs)) (cs.map swC) := @it106 _ _ (by omega)
  refine call_yld hS.lop (Nat.zero_le _) rfl ?_
  repeat' (first
 | (conv=>whnf)
   first
   | refine fLen.mk ?_
   | refine fB.i0 ?_
   | refine ⟨rfl,?_⟩
   | refine Get.mk _ hlopx ?_)
  all_goals try (exfalso;omega;done)
  refine fB.lopU hS hlb ?_
  intro G2 g1 hS2
  have g1:G2.length=G.length:=g1
  have hb0:=hS2.b0
  have hM2:l.length+5≤G2.length:=by omega
  have hset:∀ {K:V→List B→Prop},(∀ G', Cl G' → G2.length≤G'.length→FH 3 (l.length+5) l (unT (pxL l) L (k+1)) 4 (fun j=>3+2+j) G' → (∀ k b,k<G2.length→(∀ j,j<l.length→k≠3+2+j)→bget G2 k=some b→bget G' k=some b)→K (.bool true) G')→CallP FB md 0 (.fn 65 []) [.ms 3 4 (l.length * 3) 0 l.length false,.fn 106 [.rp [.sl (decide (cs=[])) cs.length (cgC cs)] 0]] G2 K:=fun hK=>set_call hit hS2.fh hM2 hS2.cl hr (fun _ G' g1 g2 g3 g4=>hK G' g1 g2 (by rw [unT_S hcs];exact g3) g4) fun h=>absurd (hok1 cs hcs) h
  repeat' (first
 | (conv=>whnf)
   first
   | refine Br.f ?_
   | refine fLen.mk ?_
   | refine fB.i0 ?_
   | refine Get.mk _ hb0 ?_
   | refine call_fun rfl rfl kv (.inl rfl) ?_
   | (refine hset ?_;intro G' g2 g3 g4 g5)
   | refine fB.mk ?_
   | refine Get.mk _ rfl ?_
   | (refine Req.mk ?_ ?_;(focus first | rfl | decide | exact ⟨rfl,rfl⟩ | exact ⟨rfl,by decide⟩ | exact (fun _=>rfl) | exact (fun h=>nomatch h) | (simp;done) | omega | (simp [big];done) | exact le_big (by omega) | exact lt_big (by omega))))
  all_goals try (exfalso;omega;done)
  have hU:UH l (unT (pxL l) L (k+1)) (.ms 3 4 (l.length * 3) 0 l.length false) (.int .i64 0) (.int .i64 0) _ G' := ⟨g2,by omega,g4,g5 0 _ (by omega) (fun j _=>by omega) hS2.b0,g5 1 _ (by omega) (fun j _=>by omega) hS2.b1,g5 2 _ (by omega) (fun j _=>by omega) hS2.b2,g5 (l.length+5) _ (by omega) (fun j hj=>by omega) hS2.lop⟩
  have hT:=hU.trunc (tm:=[]) (n:=G.length) hGl (by omega)
  have hTl:G.length≤(trunc G.length [] G').length:=strip_len (by omega)
  exact hK _ (by rw [bset_len];exact hTl) (hT.setlop (Bblo_mono hTl _ hlb))
 ·intro k cs G K' hk hcs hno1 hS hK
  obtain ⟨q1,q2⟩:=q cs (List.mem_of_getElem? hcs)
  have hGl:=hS.le
  have hlb:=blo_of_hbelow hS.cl (mem_bget hS.lop)
  have hlopx:=hS.lop
  have kv:=back_ok (cv:=.sl (decide (cs=[])) cs.length (cgC cs)) (.inr rfl) ⟨_,_,_,rfl⟩
  have hr:=q1.sw (A:=unT (pxL l) L k) fun j hj=>by rw [unT_len];exact pxL_len o j hj
  have hit:Itr 106 (.sl (decide (cs=[])) cs.length (cgC cs)) (cs.map swC) := @it106 _ _ (by omega)
  refine call_yld hS.lop (Nat.zero_le _) rfl ?_
  repeat' (first
 | (conv=>whnf)
   first
   | refine fLen.mk ?_
   | refine fB.i0 ?_
   | refine ⟨rfl,?_⟩
   | refine Get.mk _ hlopx ?_)
  all_goals try (exfalso;omega;done)
  refine fB.lopU hS hlb ?_
  intro G2 g1 hS2
  have g1:G2.length=G.length:=g1
  have hb0:=hS2.b0
  have hM2:l.length+5≤G2.length:=by omega
  have hn:¬ apAll (unT (pxL l) L k) (cs.map swC):=fun h=>hno1 fun c hc=>by rw [hcs] at hc;cases hc;exact h
  have hset:∀ {K:V→List B→Prop},(∀ G' A', Cl G' → G2.length≤G'.length→FH 3 (l.length+5) l A' 4 (fun j=>3+2+j) G' → (∀ k b,k<G2.length→(∀ j,j<l.length→k≠3+2+j)→bget G2 k=some b→bget G' k=some b)→K (.bool false) G')→CallP FB md 0 (.fn 65 []) [.ms 3 4 (l.length * 3) 0 l.length false,.fn 106 [.rp [.sl (decide (cs=[])) cs.length (cgC cs)] 0]] G2 K:=fun hK=>set_call hit hS2.fh hM2 hS2.cl hr (fun h=>absurd h hn) fun _ G' A' g1 g2 g3 g4=>hK G' A' g1 g2 g3 g4
  repeat' (first
 | (conv=>whnf)
   first
   | refine Br.t ?_
   | refine fLen.mk ?_
   | refine fB.i0 ?_
   | refine Get.mk _ hb0 ?_
   | refine call_fun rfl rfl kv (.inl rfl) ?_
   | (refine hset ?_;intro G' A' g2 g3 g5 g4)
   | refine Get.mk _ rfl ?_
   | (refine Req.mk ?_ ?_;(focus first | rfl | decide | exact ⟨rfl,rfl⟩ | exact ⟨rfl,by decide⟩ | exact (fun _=>rfl) | exact (fun h=>nomatch h) | (simp;done) | omega | (simp [big];done) | exact le_big (by omega) | exact lt_big (by omega))))
  all_goals try (exfalso;omega;done)
  have p0:=g4 0 _ (by omega) (fun j _=>by omega) hS2.b0
  have p1:=g4 1 _ (by omega) (fun j _=>by omega) hS2.b1
  have p2:=g4 2 _ (by omega) (fun j _=>by omega) hS2.b2
  have p3:=g4 (l.length+5) _ (by omega) (fun j hj=>by omega) hS2.lop
  have p1' : ∀ b,bget (bset G' (0+0) b) (0+1)=some (.blk [.int .i64 0] false):=fun b=>(bset_other (by omega)).trans p1
  have p2' : ∀ b b', bget (bset (bset G' (0+0) b) (0+1) b') (0+2)=some (.blk [.int .i64 0] false):=fun b b' => (bset_other (by omega)).trans ((bset_other (by omega)).trans p2)
  repeat' (first
 | (conv=>whnf)
   first
   | refine Get.mk _ p0 ?_
   | refine Get.mk _ (p1' _) ?_
   | refine Get.mk _ (p2' _ _) ?_
   | refine fB.mk ?_
   | (refine Req.mk ?_ ?_;(focus first | rfl | decide | exact ⟨rfl,rfl⟩ | exact ⟨rfl,by decide⟩ | exact (fun _=>rfl) | exact (fun h=>nomatch h) | (simp;done) | omega | (simp [big];done) | exact le_big (by omega) | exact lt_big (by omega))))
  all_goals try (exfalso;omega;done)
  have hU:UH l A' (.ms 3 4 (l.length * 3) 0 l.length false) (.int .i64 0) (.int .i64 0) _ G' := ⟨g2,by omega,g5,p0,p1,p2,p3⟩
  have hR:=hU.res (w0:=.nilsl) (w1:=.int .i64 ((L.length - (k+1):Nat):Int)) (w2:=.int .i64 181) rfl rfl rfl
  have hT:=hR.trunc (tm:=[]) (n:=G.length) hGl (by rw [bset_len,bset_len,bset_len];omega)
  have hTl:∀ G4:List B,G.length≤G4.length→G.length≤(trunc G.length [] G4).length:=fun G4 h=>strip_len (by omega)
  have hTl2:=hTl (bset (bset (bset G' (0+0) (.blk [.nilsl] false)) (0+1) (.blk [.int .i64 ((L.length - (k+1):Nat):Int)] false)) (0+2) (.blk [.int .i64 181] false)) (by rw [bset_len,bset_len,bset_len];omega)
  exact hK _ (by rw [bset_len];exact hTl2) ⟨A', _,_,_,_,hT.setlop (Bblo_mono hTl2 _ hlb)⟩
 ·intro hall G hS
  rw [show bget G (l.length+5+0)=_ from hS.lop]
  skip
  have hlb:=blo_of_hbelow hS.cl (mem_bget hS.lop)
  refine fB.lopU hS hlb ?_
  intro G2 g1 hS2
  have hb0:=hS2.b0
  have hb1:=hS2.b1
  have hb2:=hS2.b2
  have hF:=hS2.fh.mkF (d:=60)
  rw [hok hall]
  repeat' (first
 | (conv=>whnf)
   first
   | refine fLen.mk ?_
   | refine fB.i0 ?_
   | refine fB.as (bset_self hb0) ?_
   | refine fB.as (bset_self hb1) ?_
   | refine fB.as (bset_self hb2) ?_
   | refine Get.mk _ hb0 ?_
   | refine Get.mk _ hb1 ?_
   | refine Get.mk _ hb2 ?_
   | refine res_cells3 rfl rfl rfl hb0 hb1 hb2 ?_
   | exact hF
   | refine Get.mk _ rfl ?_
   | refine LeavesF.of ?_
   | refine VwF.int ?_
   | refine VwF.tup ?_
   | refine VwLF.cons ?_ ?_
   | refine VwLF.nil
   | (refine Req.mk ?_ ?_;(focus first | rfl | decide | exact ⟨rfl,rfl⟩ | exact ⟨rfl,by decide⟩ | exact (fun _=>rfl) | exact (fun h=>nomatch h) | (simp;done) | omega | (simp [big];done) | exact le_big (by omega) | exact lt_big (by omega))))
  all_goals first | rfl | (exfalso;omega;done)
 ·intro k hk hpre hno1 G A tm ps as bo hlb hS
  rw [show bget G (l.length+5+0)=_ from hS.lop]
  skip
  refine fB.lopU hS hlb ?_
  intro G2 g1 hS2
  have hb0:=hS2.b0
  have hb1:=hS2.b1
  have hb2:=hS2.b2
  rw [hno k hk hpre hno1]
  repeat' (first
 | (conv=>whnf)
   first
   | refine res_cells3 rfl rfl rfl hb0 hb1 hb2 ?_
   | refine LeavesF.of ?_
   | refine VwF.int ?_
   | refine VwF.nil
   | refine VwF.tup ?_
   | refine VwLF.cons ?_ ?_
   | refine VwLF.nil)
  all_goals first | rfl | exact VwF.nil | (exfalso;omega;done)
end Go.Dr.T
