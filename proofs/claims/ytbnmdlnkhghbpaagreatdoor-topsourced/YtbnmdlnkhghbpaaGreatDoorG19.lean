/- Top, of chapter 08: changes made in a film's blocks. -/
import Derived.Test.YtbnmdlnkhghbpaaGreatDoorG18
import Derived.Test.YtbnmdlnkhghbpaaGreatDoorG9
import Derived.Test.YtbnmdlnkhghbpaaGreatDoorG10
set_option maxRecDepth 100000
set_option maxHeartbeats 20000000
namespace Go.Dr.T
structure SH (G0:List B) (N M:Nat) (l:List Fm) (A:Nat→List UInt8) (o:Nat) (P:Nat→Nat) (lp:B) (G:List B):Prop where
 cl:Cl G
 le:G0.length+3≤G.length
 fh:FH N M l A o P G
 bx:bget G (G0.length+0)=some (.blk [.ms 3 o (l.length*3) 0 l.length false] false)
 rb:bget G (G0.length+1)=some (.blk [.bool false] false)
 lop:bget G (G0.length+2)=some lp
 old:∀ k b,k<G0.length→(∀ j,j<l.length→k≠P j)→bget G0 k=some b→bget G k=some b
section
variable {G0:List B} {N M:Nat} {l:List Fm} {A:Nat→List UInt8} {o:Nat} {P:Nat→Nat} {lp:B} {G:List B}
theorem SH.take {k:Nat} (hM:M≤G0.length) (e:SH G0 N M l A o P lp G) (hk:G0.length+3≤k) (c:Cl (G.take k)):SH G0 N M l A o P lp (G.take k) :=
 ⟨c,by rw [jQ];have:=e.le;omega,e.fh.cap (by omega),by rw [Q09 (by omega)];exact e.bx,by rw [Q09 (by omega)];exact e.rb,by rw [Q09 (by omega)];exact e.lop,fun j b h1 h2 h3=>by rw [Q09 (by omega)];exact e.old j b h1 h2 h3⟩
theorem SH.app {b:B} (e:SH G0 N M l A o P lp G) (hb:b.blo G.length=true):SH G0 N M l A o P lp (G++[b]) :=
 ⟨e.cl.app hb,by rw [jD];have:=e.le;omega,e.fh.app,Q01 e.bx,Q01 e.rb,Q01 e.lop,fun j b h1 h2 h3=>Q01 (e.old j b h1 h2 h3)⟩
theorem SH.trunc {tm:List V} {n:Nat} (hM:M≤G0.length) (e:SH G0 N M l A o P lp G) (hn:G0.length+3≤n) (hn2:n≤G.length):SH G0 N M l A o P lp (trunc n tm G):=by
 obtain ⟨k,h1,h2,h3,h4⟩:=Q19 (tm:=tm) hn2 e.cl
 rw [h2]
 exact e.take hM (by omega) h3
theorem SH.setlop {lp':B} (hM:M≤G0.length) (e:SH G0 N M l A o P lp G) (hb:lp'.blo G.length=true):SH G0 N M l A o P lp' (bset G (G0.length+2) lp') :=
 ⟨e.cl.set hb,by rw [Q03];exact e.le,e.fh.other (.inr (by omega)),by rw [Q02 (by omega)];exact e.bx,by rw [Q02 (by omega)];exact e.rb,Q0b (by have:=e.le;omega),fun j b h1 h2 h3=>by rw [Q02 (by omega)];exact e.old j b h1 h2 h3⟩
theorem SH.put {x:Cg} (hM:M≤G0.length) (e:SH G0 N M l A o P lp G) (hi:x.f.toNat<l.length):SH G0 N M l (Qby A x) o P lp (bset G (P x.f.toNat) (.blk (ofBytes ((A x.f.toNat).set x.p.toNat x.n)) true)):=by
 have hP:=e.fh.PN _ hi
 refine ⟨e.cl.set rfl,by rw [Q03];exact e.le,e.fh.put hi,by rw [Q02 (by omega)];exact e.bx,by rw [Q02 (by omega)];exact e.rb,by rw [Q02 (by omega)];exact e.lop,fun j b h1 h2 h3=>?_⟩
 rw [Q02 (Ne.symm (h2 _ hi))]
 exact e.old j b h1 h2 h3
theorem fB.lopS {lp':B} {K:List B→Prop} (hM:M≤G0.length) (e:SH G0 N M l A o P lp G) (hb:lp'.blo G.length=true) (hk:∀ G',G'.length=G.length→(∀ k,k≠G0.length+2→bget G' k=bget G k)→SH G0 N M l A o P lp' G'→K G'):fB (bset G (G0.length+2) lp') K :=
 fB.mk (hk _ (Q03 ..) (fun k hk=>Q02 (Ne.symm hk)) (e.setlop hM hb))
end
theorem SH.start {G0:List B} {N M:Nat} {l:List Fm} {A:Nat→List UInt8} {o:Nat} {P:Nat→Nat} {lp:B} (hf:FH N M l A o P G0) (hM:M≤G0.length) (hc:Cl G0) (hlp:lp.blo (G0.length+2)=true):SH G0 N M l A o P lp ((G0++[.blk [.ms 3 o (l.length*3) 0 l.length false] false,.blk [.bool false] false])++[lp]):=by
 have ho:=hf.oN
 have hl2:(G0++[B.blk [.ms 3 o (l.length*3) 0 l.length false] false,.blk [.bool false] false]).length=G0.length+2:=by rw [jD];rfl
 have c2:Cl (G0++[B.blk [.ms 3 o (l.length*3) 0 l.length false] false,.blk [.bool false] false]):=Q27 hc ⟨by simp [B.blo,blos,V.blo];omega,rfl,trivial⟩
 refine ⟨c2.app (by rw [hl2];exact hlp),by rw [jD,hl2];exact Nat.le_refl _,hf.app.app,Q01 (bget_new (i:=0)),Q01 (bget_new (i:=1)),?_,fun k b h1 h2 h3=>Q01 (Q01 h3)⟩
 have:=bget_new (h:=G0++[B.blk [.ms 3 o (l.length*3) 0 l.length false] false,.blk [.bool false] false]) (g:=[lp]) (i:=0)
 rw [hl2] at this
 exact this
theorem Qgo {tm:List V} {g:List B} {v:V} {i a:Nat} {P:V→Prop} (h1:tg tm a=.ref i 1 0) (hb:bget g i=some (.blk [v] false)) (hk:P v):Get (Q0s ⟨tm,g⟩ [.cell a false 1]) P:=by
 refine ⟨v,?_,hk⟩
 simp only [Q0s,results,h1,hb,Q10,List.length_cons,List.length_nil]
 rfl
theorem Qi0 {A:Nat→List UInt8} {x:Cg}:apOk A x=true↔(A x.f.toNat).getD x.p.toNat 0=x.o:=by unfold apOk;exact decide_eq_true_iff
theorem set_it {it:Nat} {cv:V} {xs:List Cg} {G0 Gs:List B} {N M:Nat} {l:List Fm} {A:Nat→List UInt8} {o:Nat} {P:Nat→Nat} {lp:B} {K:V→List B→Prop} (hit:Itr it cv xs) (hM:M≤G0.length) (h0:SH G0 N M l A o P lp Gs) (hGs:Gs.length=G0.length+3) (hlp:lp.blo (G0.length+2)=true)
  (hgo:∀ x A' G (K:V→List B→Prop),x∈xs→(∀ j,(A' j).length=(A j).length)→apOk A' x=true→SH G0 N M l A' o P lp G→(∀ G',G.length≤G'.length→SH G0 N M l (Qby A' x) o P lp G'→K (.bool true) G')→CallP FB md 0 (.yld (G0.length+2)) [.agg [.int .i64 x.f,.int .i64 x.p,.int .u8 x.o.toNat,.int .u8 x.n.toNat]] G K)
  (hno:∀ x A' G (K:V→List B→Prop),x∈xs→(∀ j,(A' j).length=(A j).length)→¬ apOk A' x=true→SH G0 N M l A' o P lp G→(∀ G',G.length≤G'.length→(∃ tm ps as bo,SH G0 N M l A' o P (.lop false .ret tm ps as bo) G')→K (.bool false) G')→CallP FB md 0 (.yld (G0.length+2)) [.agg [.int .i64 x.f,.int .i64 x.p,.int .u8 x.o.toNat,.int .u8 x.n.toNat]] G K)
  (hk1:Qbz A xs→∀ G,SH G0 N M l (apT A xs xs.length) o P lp G→K (.tup []) G)
  (hk2:¬ Qbz A xs→∀ G A' tm ps as bo,lp.blo G.length=true→SH G0 N M l A' o P (.lop false .ret tm ps as bo) G→K (.tup []) G):CallP FB md 0 (.fn it [.rp [cv] 0]) [.yld (G0.length+2)] Gs K:=by
 refine hit (L:=G0.length+3) (Q:=fun k G=>SH G0 N M l (apT A xs k) o P lp G∧∀ j x,j<k→xs[j]?=some x→apOk (apT A xs j) x=true) (S:=fun G=>¬ Qbz A xs∧∃ A' tm ps as bo,SH G0 N M l A' o P (.lop false .ret tm ps as bo) G) (ok:=fun k=>∀ x,xs[k]?=some x→apOk (apT A xs k) x=true) ⟨fun k G q=>⟨q.1.cl,q.1.le⟩,fun k G j q h1 h2=>⟨q.1.take hM h1 h2,q.2⟩,fun k G b q h1=>⟨q.1.app h1,q.2⟩,fun G ⟨q0,A',tm,ps,as,bo,q⟩=>⟨q.cl,q.le⟩,fun G j ⟨q0,A',tm,ps,as,bo,q⟩ h1 h2=>⟨q0,A',tm,ps,as,bo,q.take hM h1 h2⟩,?_,?_⟩ hGs ⟨h0,fun j x hj=>absurd hj (Nat.not_lt_zero _)⟩ (fun G ⟨hS,hall⟩=>hk1 (fun k x hx=>hall k x (jB.1 hx).1 hx) G hS) (fun G ⟨hn,A',tm,ps,as,bo,hS⟩=>hk2 hn G A' tm ps as bo (Q1n (by have:=hS.le;omega) _ hlp) hS)
 ·intro k x G K' hx hok ⟨hS,hall⟩ hK
  refine hgo x _ G K' (jE hx) (fun j=>Q36) (hok x hx) hS fun G' g1 g2=>hK G' g1 ⟨?_,fun j y hj hy=>?_⟩
  ·rw [Qr1 hx];exact g2
  ·by_cases e:j=k
   ·subst e;exact hok y hy
   ·exact hall j y (by omega) hy
 ·intro k x G K' hx hok ⟨hS,hall⟩ hK
  have hnx:¬ apOk (apT A xs k) x=true:=fun h=>hok fun y hy=>by rw [hx] at hy;cases hy;exact h
  refine hno x _ G K' (jE hx) (fun j=>Q36) hnx hS fun G' g1 ⟨tm,ps,as,bo,g2⟩=>hK G' g1 ⟨fun ha=>hnx (ha k x hx),_,tm,ps,as,bo,g2⟩
theorem Qgm {it:Nat} {cv:V} {xs:List Cg} {G0:List B} {N M:Nat} {l:List Fm} {A:Nat→List UInt8} {o:Nat} {P:Nat→Nat} {K:V→List B→Prop} (hit:Itr it cv xs) (hf:FH N M l A o P G0) (hM:M≤G0.length) (hc:Cl G0)
  (hr:∀ x∈xs,∃ I m:Nat,x.f=I∧x.p=m∧I<l.length∧m<(A I).length)
  (hk1:Qbz A xs→∀ G,Cl G→G0.length≤G.length→FH N M l (apT A xs xs.length) o P G→(∀ k b,k<G0.length→(∀ j,j<l.length→k≠P j)→bget G0 k=some b→bget G k=some b)→K (.bool true) G)
  (hk2:¬ Qbz A xs→∀ G A',Cl G→G0.length≤G.length→FH N M l A' o P G→(∀ k b,k<G0.length→(∀ j,j<l.length→k≠P j)→bget G0 k=some b→bget G k=some b)→K (.bool false) G) :
  CallP FB md 0 (.fn 34 []) [.ms 3 o (l.length*3) 0 l.length false,.fn it [.rp [cv] 0]] G0 K:=by
 refine Q16 rfl rfl rfl ?_
 have hl2:∀ b b':B,(G0++[b,b']).length=G0.length+2:=fun b b'=>by rw [jD];rfl
 repeat' ((conv=>whnf);first|refine fLen.as (hl2 _ _) ?_|refine fLen.mk ?_|refine fB.i0 ?_|refine fB.i2 ?_|refine Get.newj 0 rfl rfl ?_|refine Get.newj 1 rfl rfl ?_|refine fB.newj 0 rfl ?_|refine fB.newj 1 rfl ?_|refine zR ?_)
 all_goals try (exfalso;omega)
 refine set_it hit hM (SH.start hf hM hc ?hb) (by rw [jD,hl2];rfl) ?hb ?_ ?_ ?_ ?_
 case hb =>
  simp [B.blo,blos,V.blo]
  have:=hf.oN
  omega
 ·intro x A' G K' hx hlen hok hS hK
  obtain ⟨I,m,hI,hm,hIl,hmA⟩:=hr x hx
  obtain ⟨xf,xp,xo,xn⟩:=x
  dsimp only at hI hm
  subst hI hm
  have hmA':m<(A' I).length:=by rw [hlen];exact hmA
  have hIi:I≤l.length-1:=by omega
  have h0l:0<l.length:=by omega
  obtain ⟨f,hf'⟩:∃ f,l[I]?=some f:=⟨_,jC hIl⟩
  have hfl:=hS.fh.len I f hf'
  have hmi:m≤f.p.length-1:=by omega
  have h0m:0<f.p.length:=by omega
  have hGl:=hS.le
  have hSx:=hS.app (b:=.blk [.int .i64 (I:Nat),.int .i64 (m:Nat),.int .u8 (xo.toNat:Nat),.int .u8 (xn.toNat:Nat)] false) rfl
  have hlb:=Q08 hSx.cl (Q0p hSx.lop)
  have hlb0:=Q08 hS.cl (Q0p hS.lop)
  have hlopx:=hSx.lop
  refine Q2d hS.lop (Nat.zero_le _) rfl ?_
  repeat' ((conv=>whnf);first|refine fLen.mk ?_|refine fB.i1 ?_|refine Get.newj 0 rfl rfl ?_|refine fB.newj 0 rfl ?_|refine ⟨rfl,?_⟩|refine Get.mk _ hlopx ?_|refine zR ?_)
  all_goals try (exfalso;omega)
  refine fB.lopS hM hSx hlb ?_
  intro G2 g1 g2 hS2
  rw [jD] at g1
  have hx2:bget G2 (G.length+0+0)=some (.blk [.int .i64 (I:Nat),.int .i64 (m:Nat),.int .u8 (xo.toNat:Nat),.int .u8 (xn.toNat:Nat)] false):=(g2 _ (by omega)).trans (bget_new (i:=0))
  have hbx:=hS2.bx
  have hrb:=hS2.rb
  have hout:=hS2.fh.out
  have hpic:=hS2.fh.pic I hIl
  have hol:(fmG (piV P) 0 l).length=l.length*3:=Q1p
  have hpc:Q0h (fmG (piV P) 0 l) (0+I*3+2)=some (.ms 1 (P I) f.p.length 0 f.p.length false):=by
   have:=(Qf1 (g:=piV P) (k:=0) hf').2.2
   rw [Nat.zero_add] at this
   rw [Nat.zero_add]
   exact this
  have hAl:(ofBytes (A' I)).length=f.p.length:=by rw [Q0j];exact hfl
  have hAs:(ofBytes (A' I)).length=f.p.length∧0+m*1+1≤(ofBytes (A' I)).length:=⟨hAl,by omega⟩
  have hpx:Q0h (ofBytes (A' I)) (0+m*1)=some (.int .u8 (((A' I).getD m 0).toNat:Nat)):=by rw [Nat.zero_add];exact Q5f hmA'
  have hov:=Q6c (u:=xn) (p:=A' I) (m:=m)
  have hoe:(A' I).getD m 0=xo:=Qi0.1 hok
  have hEi:((((A' I).getD m 0).toNat:Nat):Int)=((xo.toNat:Nat):Int):=by rw [hoe]
  have hput:=hS2.put (x:=⟨I,m,xo,xn⟩) hM hIl
  have hfin:=hput.trunc (tm:=[]) (n:=G.length) hM (by omega) (by rw [Q03];omega)
  have hfl2:G.length≤(trunc G.length [] (bset G2 (P I) (.blk (ofBytes ((A' I).set m xn)) true))).length:=Q1y (by rw [Q03];omega)
  have hfin2:=hfin.setlop hM (Q1n hfl2 _ hlb0)
  repeat' ((conv=>whnf);first|refine Br.decT hEi ?_|refine Br.not ?_|refine fLen.mk ?_|refine fB.i0 ?_|refine fV.as hov ?_|refine Get.mk _ hbx ?_|refine Get.mk _ hx2 ?_|refine Get.mk _ hout ?_|refine Get.mk _ hpic ?_|refine Get.mk _ hpc ?_|refine Get.mk _ hpx ?_|refine Idx.nat hIi ?_|refine Idx.nat hmi ?_|refine Req.mk h0l ?_|refine Req.mk h0m ?_|refine Req.mk hol ?_|refine Req.mk hAl ?_|refine Req.mk hAs ?_|refine fB.mk ?_|refine Get.mk _ rfl ?_|refine zR ?_)
  all_goals try (exfalso;omega)
  exact hK _ (by rw [Q03];exact hfl2) hfin2
 ·intro x A' G K' hx hlen hok hS hK
  obtain ⟨I,m,hI,hm,hIl,hmA⟩:=hr x hx
  obtain ⟨xf,xp,xo,xn⟩:=x
  dsimp only at hI hm
  subst hI hm
  have hmA':m<(A' I).length:=by rw [hlen];exact hmA
  have hIi:I≤l.length-1:=by omega
  have h0l:0<l.length:=by omega
  obtain ⟨f,hf'⟩:∃ f,l[I]?=some f:=⟨_,jC hIl⟩
  have hfl:=hS.fh.len I f hf'
  have hmi:m≤f.p.length-1:=by omega
  have h0m:0<f.p.length:=by omega
  have hGl:=hS.le
  have hSx:=hS.app (b:=.blk [.int .i64 (I:Nat),.int .i64 (m:Nat),.int .u8 (xo.toNat:Nat),.int .u8 (xn.toNat:Nat)] false) rfl
  have hlb:=Q08 hSx.cl (Q0p hSx.lop)
  have hlb0:=Q08 hS.cl (Q0p hS.lop)
  have hlopx:=hSx.lop
  refine Q2d hS.lop (Nat.zero_le _) rfl ?_
  repeat' ((conv=>whnf);first|refine fLen.mk ?_|refine fB.i1 ?_|refine Get.newj 0 rfl rfl ?_|refine fB.newj 0 rfl ?_|refine ⟨rfl,?_⟩|refine Get.mk _ hlopx ?_|refine zR ?_)
  all_goals try (exfalso;omega)
  refine fB.lopS hM hSx hlb ?_
  intro G2 g1 g2 hS2
  rw [jD] at g1
  have hx2:bget G2 (G.length+0+0)=some (.blk [.int .i64 (I:Nat),.int .i64 (m:Nat),.int .u8 (xo.toNat:Nat),.int .u8 (xn.toNat:Nat)] false):=(g2 _ (by omega)).trans (bget_new (i:=0))
  have hbx:=hS2.bx
  have hrb:=hS2.rb
  have hout:=hS2.fh.out
  have hpic:=hS2.fh.pic I hIl
  have hol:(fmG (piV P) 0 l).length=l.length*3:=Q1p
  have hpc:Q0h (fmG (piV P) 0 l) (0+I*3+2)=some (.ms 1 (P I) f.p.length 0 f.p.length false):=by
   have:=(Qf1 (g:=piV P) (k:=0) hf').2.2
   rw [Nat.zero_add] at this
   rw [Nat.zero_add]
   exact this
  have hAl:(ofBytes (A' I)).length=f.p.length:=by rw [Q0j];exact hfl
  have hAs:(ofBytes (A' I)).length=f.p.length∧0+m*1+1≤(ofBytes (A' I)).length:=⟨hAl,by omega⟩
  have hpx:Q0h (ofBytes (A' I)) (0+m*1)=some (.int .u8 (((A' I).getD m 0).toNat:Nat)):=by rw [Nat.zero_add];exact Q5f hmA'
  have hov:=Q6c (u:=xn) (p:=A' I) (m:=m)
  have hEi:¬ ((((A' I).getD m 0).toNat:Nat):Int)=((xo.toNat:Nat):Int):=fun h=>hok (Qi0.2 (UInt8.toNat_inj.1 (Int.ofNat.inj h)))
  have hfin:=hS2.trunc (tm:=[]) (n:=G.length) hM (by omega) (by omega)
  have hfl2:G.length≤(trunc G.length [] G2).length:=Q1y (by omega)
  repeat' ((conv=>whnf);first|refine Br.decF hEi ?_|refine Br.not ?_|refine fLen.mk ?_|refine fB.i0 ?_|refine fB.as (Q0t hrb) ?_|refine Get.mk _ hbx ?_|refine Get.mk _ hx2 ?_|refine Get.mk _ hout ?_|refine Get.mk _ hpic ?_|refine Get.mk _ hpc ?_|refine Get.mk _ hpx ?_|refine Get.mk _ hrb ?_|refine Idx.nat hIi ?_|refine Idx.nat hmi ?_|refine Req.mk h0l ?_|refine Req.mk h0m ?_|refine Req.mk hol ?_|refine Req.mk hAl ?_|refine fB.mk ?_|refine Get.mk _ rfl ?_|refine zR ?_)
  all_goals try (exfalso;omega)
  exact hK _ (by rw [Q03];exact hfl2) ⟨_,_,_,_,hfin.setlop hM (Q1n hfl2 _ hlb0)⟩
 ·intro hAll G hS
  rw [show bget G (G0.length+2+0)=_ from hS.lop]
  skip
  have hlb:=Q08 hS.cl (Q0p hS.lop)
  refine fB.lopS hM hS hlb ?_
  intro G2 g1 g2 hS2
  have hrb:=hS2.rb
  have hle:=hS2.le
  have hr2:bget (bset G2 (G0.length+0+1) (.blk [.bool true] false)) (G0.length+1)=some (.blk [.bool true] false):=Q0b (by omega)
  repeat' ((conv=>whnf);first|refine fLen.mk ?_|refine fB.i0 ?_|refine Get.mk _ hrb ?_|refine Qgo rfl hr2 ?_|refine fB.mk ?_|refine Ends.of ?_|refine zR ?_)
  all_goals try (exfalso;omega)
  obtain ⟨j,h1,h2,h3,h4⟩:=Q19 (n:=G0.length) (tm:=[.bool true]) (h:=bset G2 (G0.length+0+1) (.blk [.bool true] false)) (by rw [Q03];omega) (hS2.cl.set rfl)
  show K (.bool true) (trunc G0.length [.bool true] (bset G2 (G0.length+0+1) (.blk [.bool true] false)))
  rw [h2]
  refine hk1 hAll _ h3 (by rw [jQ,Q03];omega) ((hS2.fh.other (.inr (by omega))).cap (by omega)) fun k b q1 q2 q3=>?_
  rw [Q09 (by omega),Q02 (by omega)]
  exact hS2.old k b q1 q2 q3
 ·intro hno G A' tm ps as bo hlb hS
  rw [show bget G (G0.length+2+0)=_ from hS.lop]
  skip
  refine fB.lopS hM hS hlb ?_
  intro G2 g1 g2 hS2
  have hrb:=hS2.rb
  have hle:=hS2.le
  repeat' ((conv=>whnf);first|refine Qgo rfl hrb ?_|refine fB.mk ?_|refine Ends.of ?_)
  all_goals try (exfalso;omega)
  obtain ⟨j,h1,h2,h3,h4⟩:=Q19 (n:=G0.length) (tm:=[.bool false]) (h:=G2) (by omega) hS2.cl
  show K (.bool false) (trunc G0.length [.bool false] G2)
  rw [h2]
  refine hk2 hno _ A' h3 (by rw [jQ];omega) (hS2.fh.cap (by omega)) fun k b q1 q2 q3=>?_
  rw [Q09 (by omega)]
  exact hS2.old k b q1 q2 q3
end Go.Dr.T
namespace Go.Dr.T
def mkF (l:List Fm) (A:Nat→List UInt8):List Fm:=l.mapIdx fun j f=>⟨false,f.w,f.h,A j⟩
theorem mkF_len {l:List Fm} {A:Nat→List UInt8}:(mkF l A).length=l.length:=by simp [mkF]
theorem Qlp {l:List Fm} {A:Nat→List UInt8} {i:Nat} {f:Fm} (h:l[i]?=some f):(mkF l A)[i]?=some ⟨false,f.w,f.h,A i⟩:=by
 unfold mkF
 rw [List.getElem?_mapIdx,h]
 rfl
def unT (A:Nat→List UInt8) (L:List (List Cg)):Nat→Nat→List UInt8
 | 0=>A
 | k+1=>match L[L.length-(k+1)]? with
  | some cs=>apT (unT A L k) (cs.map swC) (cs.map swC).length
  | none=>unT A L k
theorem unT_S {A:Nat→List UInt8} {L:List (List Cg)} {k:Nat} {cs:List Cg} (h:L[L.length-(k+1)]?=some cs):unT A L (k+1)=apT (unT A L k) (cs.map swC) (cs.map swC).length:=by rw [unT,h]
theorem Qag {A:Nat→List UInt8} {L:List (List Cg)} {j:Nat}:∀ {k:Nat},(unT A L k j).length=(A j).length
 | 0=>rfl
 | k+1=>by
  rw [unT]
  cases L[L.length-(k+1)]? with
  | none=>exact Qag (k:=k)
  | some cs =>
   show (apT _ _ _ j).length=_
   rw [Q36]
   exact Qag (k:=k)
def unOk (A:Nat→List UInt8) (L:List (List Cg)) (k:Nat):Prop:=∀ cs,L[L.length-(k+1)]?=some cs→Qbz (unT A L k) (cs.map swC)
theorem COk.sw {n k:Nat} {cs:List Cg} (c:COk n k cs) {A:Nat→List UInt8} (hA:∀ j,j<n→(A j).length=k):∀ x∈cs.map swC,∃ I m:Nat,x.f=I∧x.p=m∧I<n∧m<(A I).length:=fun x hx=>by
 obtain ⟨y,hy,rfl⟩:=List.mem_map.1 hx
 obtain ⟨h1,h2,_⟩:=c.rng y hy
 refine ⟨y.f.toNat,y.p.toNat,?_,?_,by omega,?_⟩
 ·show y.f=_;omega
 ·show y.p=_;omega
 ·rw [hA _ (by omega)];omega
theorem Ql4 {l:List Fm} {W H:Nat} (o:FOk l W H):∀ j,j<l.length→(pxL l j).length=W*H:=fun j hj=>by
 obtain ⟨f,hf,_,_,h⟩:=o.at hj
 rw [Q25 hf];exact h
def bIx (n k:Nat):Int:=(n:Int)-1-k
structure IterB (L:List (List Cg)) (id N:Nat) (Q:Nat→List B→Prop) (S:List B→Prop) (ok:Nat→Prop):Prop where
 qcl:∀ k G,Q k G→Cl G∧N≤G.length
 qtk:∀ k G j,Q k G→N≤j→Cl (G.take j)→Q k (G.take j)
 scl:∀ G,S G→Cl G∧N≤G.length
 stk:∀ G j,S G→N≤j→Cl (G.take j)→S (G.take j)
 go:∀ k cs G (K:V→List B→Prop),k<L.length→L[L.length-(k+1)]?=some cs→ok k→Q k G→(∀ G',G.length≤G'.length→Q (k+1) G'→K (.bool true) G')→CallP FB md 0 (.yld id) [.int .i64 ((L.length-(k+1):Nat):Int),.sl (decide (cs=[])) cs.length (cgC cs)] G K
 no:∀ k cs G (K:V→List B→Prop),k<L.length→L[L.length-(k+1)]?=some cs→¬ ok k→Q k G→(∀ G',G.length≤G'.length→S G'→K (.bool false) G')→CallP FB md 0 (.yld id) [.int .i64 ((L.length-(k+1):Nat):Int),.sl (decide (cs=[])) cs.length (cgC cs)] G K
theorem it105 {c:Bool} {L:List (List Cg)} {id N:Nat} {Q:Nat→List B→Prop} {S:List B→Prop} {ok:Nat→Prop} {G0:List B} {K:V→List B→Prop} (hl:L.length≤1000000) (h:IterB L id N Q S ok) (hN:G0.length=N) (h0:Q 0 G0) (hk1:∀ G,Q L.length G→K (.tup []) G) (hk2:∀ G,S G→K (.tup []) G):CallP FB md 0 (.fn 70 [.rp [.sl c L.length (lgC L)] 0]) [.yld id] G0 K:=by
 have hb0:IntKind.i64.wrap ((L.length:Int)-1)=bIx L.length 0:=by rw [wrap_i64 (by omega) (by omega)];unfold bIx;omega
 refine Q16 rfl rfl rfl ?_
 repeat' ((conv=>whnf);first|refine Bnd.eq hb0 ?_|refine fLen.mk ?_|refine fB.i0 ?_|refine Get.mk _ rfl ?_)
 all_goals try (exfalso;omega)
 refine LoopP.by (fun a:GA=>a.i≤L.length∧Q a.i a.G) (fun a=>[(3,.int .i64 (bIx L.length a.i))]) (fun a=>a.G) (fun a=>L.length-a.i) ⟨0,G0⟩ ⟨Nat.zero_le _,h0⟩ rfl ?_
 rintro ⟨k,G⟩ ⟨w1,w2⟩
 dsimp only at w1 w2 ⊢
 have hGl:=(h.qcl k G w2).2
 by_cases hi:k<L.length
 rotate_left
 ·obtain rfl:k=L.length:=by omega
  have hb:bIx L.length L.length = -1:=by unfold bIx;omega
  rw [hb]
  repeat' ((conv=>whnf);first|refine Br.f ?_|refine fLen.mk ?_|refine fB.i0 ?_|refine fB.mk ?_|refine Get.mk _ rfl ?_|refine Ends.of ?_)
  all_goals try (exfalso;omega)
  obtain ⟨j,h1,h2,h3,_⟩:=Q19 (n:=G0.length) (tm:=[.tup []]) (h:=G) (by omega) (h.qcl _ G w2).1
  show K (.tup []) (trunc G0.length [.tup []] G)
  rw [h2]
  exact hk1 _ (h.qtk _ G j w2 (by omega) h3)
 have hb:bIx L.length k=((L.length-(k+1):Nat):Int):=by unfold bIx;omega
 have hb1:IntKind.i64.wrap (((L.length-(k+1):Nat):Int)-1)=bIx L.length (k+1):=by rw [wrap_i64 (by omega) (by omega)];unfold bIx;omega
 rw [hb]
 obtain ⟨cs,hcs⟩:∃ x,L[L.length-(k+1)]?=some x:=⟨_,jC (by omega)⟩
 have hp:=Qm3 hcs
 unfold cgL at hp
 have hil:L.length-(k+1)≤L.length-1:=by omega
 have h0l:0<L.length:=by omega
 by_cases hok:ok k
 ·have hgo:=fun (K':V→List B→Prop) (hK)=>h.go k cs G K' hi hcs hok w2 hK
  generalize L.length-(k+1)=q at *
  repeat' ((conv=>whnf);first|refine Bnd.eq hb1 ?_|refine Br.t ?_|refine Br.f ?_|refine fLen.mk ?_|refine fB.i0 ?_|refine Get.mk _ hp ?_|refine Idx.nat hil ?_|refine Req.mk h0l ?_|(refine hgo _ ?_;intro G' g1 g2)|refine fB.mk ?_|refine Get.mk _ rfl ?_)
  all_goals try (exfalso;omega)
  refine NextP.of (fun g=>⟨k+1,g⟩) ⟨hi,?_⟩ (by dsimp only;omega) rfl
  obtain ⟨j,h1,h2,h3,_⟩:=Q4k (n:=G0.length) (mk:=_) (tm:=_) (h:=G') (by omega) (h.qcl _ G' g2).1
  show Q (k+1) (norm _ G0.length ⟨_,G'⟩).h
  rw [h2]
  exact h.qtk _ G' j g2 (by omega) h3
 ·have hno:=fun (K':V→List B→Prop) (hK)=>h.no k cs G K' hi hcs hok w2 hK
  generalize L.length-(k+1)=q at *
  repeat' ((conv=>whnf);first|refine Br.t ?_|refine fLen.mk ?_|refine fB.i0 ?_|refine Get.mk _ hp ?_|refine Idx.nat hil ?_|refine Req.mk h0l ?_|(refine hno _ ?_;intro G' g1 g2)|refine fB.mk ?_|refine Get.mk _ rfl ?_|refine Ends.of ?_)
  all_goals try (exfalso;omega)
  obtain ⟨j,h1,h2,h3,_⟩:=Q19 (n:=G0.length) (tm:=[.tup []]) (h:=G') (by omega) (h.scl G' g2).1
  show K (.tup []) (trunc G0.length [.tup []] G')
  rw [h2]
  exact hk2 _ (h.stk G' j g2 (by omega) h3)
theorem Qfo {cv:V} (hs:∃ c n k,cv=.sl c n k):Fun FB md 33 [cv] (.fn 70 [.rp [cv] 0]):=by
 obtain ⟨c,n,k,rfl⟩:=hs
 refine Q04 rfl rfl ?_
 repeat' ((conv=>whnf);first|exact Vw.fn (VwL.cons (Vw.ref rfl rfl rfl (VwL.cons Vw.sl VwL.nil)) VwL.nil)|refine Get.mk _ rfl ?_|refine Leaves.of ?_|refine zR ?_)
 all_goals first|rfl|(exfalso;omega)
end Go.Dr.T
