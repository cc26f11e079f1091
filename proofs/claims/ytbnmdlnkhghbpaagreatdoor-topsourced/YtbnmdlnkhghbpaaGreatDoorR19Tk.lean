/- Top, of chapter 08: Trace, walked: the steps that do not move. -/
import Derived.Test.YtbnmdlnkhghbpaaGreatDoorG30
set_option maxRecDepth 100000
set_option maxHeartbeats 20000000
namespace Go.Dr.T
theorem Qi9 {X:Nat→V} {c:Bool} {l:List Fm} {W H:Nat} {ss:List Sp} {i q k:Nat} {s:Sp} {v:V} {G:List B} {K:V→List B→Prop} (o:FOk l W H) (hL:ss.length≤20) (p:∀ s∈ss,SOk s l.length W H) (hi:i<l.length) (hk:k<ss.length) (hcs:ss[ss.length-(k+1)]?=some s) (hok1:trOk W H l ss i q k) (hx:(tr W H l ss i q k).q<W*H) (hS:TH (.sl c l.length (fmC l)) i i (tr W H l ss i q k).q (.sl (decide (rnC W H (czF l) ss=[])) (rnC W H (czF l) ss).length (lgC (rnC W H (czF l) ss))) (.lop true .nrm (TM24 X) [59,60] AS24 BO24) (tr W H l ss i q k).b v G) (hK:∀ v' G',G.length≤G'.length→TH (.sl c l.length (fmC l)) i i (tr W H l ss i q (k+1)).q (.sl (decide (rnC W H (czF l) ss=[])) (rnC W H (czF l) ss).length (lgC (rnC W H (czF l) ss))) (.lop true .nrm (TM24 X) [59,60] AS24 BO24) (tr W H l ss i q (k+1)).b v' G'→K (.bool true) G') (h1:s.k=1) (hkp:Q35 s i ((tr W H l ss i q k).q%W:Nat) ((tr W H l ss i q k).q/W:Nat)=true):CallP FB md 0 (.yld 6) [.int .i64 ((ss.length-(k+1):Nat):Int),.agg (spV s)] G K:=by
 have hnn:=o.nn
 have hn12:=o.n12
 have hn0:=o.n0
 have o3:=o.w
 have o4:=o.h
 obtain ⟨f0,hf0,h0w,_,h0p⟩:=o.at o.n0
 obtain ⟨b0,_,b2⟩:=fm_c hf0
 rw [h0w] at b0
 rw [h0p] at b2
 unfold TM24 AS24 BO24 at *
 generalize hxe:(tr W H l ss i q k).q=x at *
 have hGl:=hS.le
 have hsp:=p s (jE hcs)
 have hDx:=hS.app (x:=.blk (spV s) false) rfl
 have hlb:=Q08 hDx.cl (Q0p hDx.lop)
 have hlopx:=hDx.lop
 refine Q2d hS.lop (Nat.zero_le _) rfl ?_
 repeat' ((conv=>whnf);first|refine fLen.mk ?_|refine fB.i0 ?_|refine fB.i1 ?_|refine Get.newj 0 rfl rfl ?_|refine fB.newj 0 rfl ?_|refine ⟨rfl,?_⟩|refine Get.mk _ hlopx ?_|refine zR ?_)
 all_goals try (exfalso;omega)
 refine fB.lopT hDx hlb ?_
 intro G2 g1 g2 hD2
 rw [jD] at g1
 have hx2:bget G2 (G.length+0+0)=some (.blk (spV s) false):=(g2 _ (by omega)).trans (bget_new (i:=0))
 have hb0:=hD2.b0
 have hb1:=hD2.b1
 have hb2:=hD2.b2
 have hlk:∀ {K:V→List B→Prop},K (.tup []) (G2++[.blk (wkC s c l i (x%W:Nat) (x/W:Nat) x) false])→CallP FB md 0 (.fn 38 []) [.ref (G2.length+0) 13 0,.int .i64 (i:Nat),.int .i64 (x:Nat)] (G2++[.blk (wkC s c l 0 0 0 0) false]) K:=fun {K} h=>Q3a o hx (bget_new (i:=0)) (by rw [Nat.add_zero,Q4f];exact h)
 have hD3:=hD2.app (x:=.blk (wkC s c l i (x%W:Nat) (x/W:Nat) x) false) rfl
 have hw3:bget (G2++[.blk (wkC s c l i (x%W:Nat) (x/W:Nat) x) false]) (G2.length+0)=some (.blk (wkC s c l i (x%W:Nat) (x/W:Nat) x) false):=bget_new (i:=0)
 have hx3:=Q01 (g:=[.blk (wkC s c l i (x%W:Nat) (x/W:Nat) x) false]) hx2
 have hl3:G.length≤(G2++[B.blk (wkC s c l i (x%W:Nat) (x/W:Nat) x) false]).length:=by rw [jD,g1];omega
 generalize hG3:G2++[B.blk (wkC s c l i (x%W:Nat) (x/W:Nat) x) false]=G3 at *
 have c0:=hD3.b0
 have c1:=hD3.b1
 have c2:=hD3.b2
 have c3:=hD3.b3
 have c5:=hD3.b5
 have hk53:=Q4n (s:=s) (c:=c) (l:=l) (i:=i) (x:=(x%W:Nat)) (y:=(x/W:Nat)) (n:=x) hsp.kp
 have hfin:∀ {v':V} {G4:List B} {lp':B},G.length≤G4.length→TH (.sl c l.length (fmC l)) i i (tr W H l ss i q (k+1)).q (lgL (rnC W H (czF l) ss)) lp' (tr W H l ss i q (k+1)).b v' G4→K (.bool true) (bset (trunc G.length [] G4) 6 _):=fun h1 h2=>hK _ _ (Qc6 hS h1 h2).1 (Qc6 hS h1 h2).2
 rw [hkp] at hk53
 have hyy:tY (fK W H l ss (ss.length-(k+1))) W H s i (tr W H l ss i q k).q=false:=by
  rw [hxe];unfold tY;rw [if_pos h1,hkp];rfl
 have htr:=tr_no (W:=W) (H:=H) (l:=l) (i:=i) (q:=q) hcs hyy
 rw [htr,hxe] at hfin
 focus
  repeat' ((conv=>whnf);first|refine Br.f ?_|refine zT ?_|refine Br.not ?_|refine fLen.mk ?_|refine fB.i0 ?_|refine fB.i1 ?_|refine Get.mk _ (Q01 hx2) ?_|refine Get.mk _ (Q01 hb0) ?_|refine Get.mk _ (Q01 hb1) ?_|refine Get.mk _ (Q01 hb2) ?_|refine Get.mk _ hx3 ?_|refine Get.newj 0 rfl rfl ?_|refine fB.newj 0 rfl ?_|refine hlk ?_|refine Q06 rfl (Q1x hw3) hk53 (.inr rfl) ?_|refine fB.mk ?_|refine Get.mk _ rfl ?_|refine zR ?_)
  all_goals try (exfalso;omega)
  exact hfin hl3 hD3
theorem Qi8 {X:Nat→V} {c:Bool} {l:List Fm} {W H:Nat} {ss:List Sp} {i q k:Nat} {s:Sp} {v:V} {G:List B} {K:V→List B→Prop} (o:FOk l W H) (hL:ss.length≤20) (p:∀ s∈ss,SOk s l.length W H) (hi:i<l.length) (hk:k<ss.length) (hcs:ss[ss.length-(k+1)]?=some s) (hok1:trOk W H l ss i q k) (hx:(tr W H l ss i q k).q<W*H) (hS:TH (.sl c l.length (fmC l)) i i (tr W H l ss i q k).q (.sl (decide (rnC W H (czF l) ss=[])) (rnC W H (czF l) ss).length (lgC (rnC W H (czF l) ss))) (.lop true .nrm (TM24 X) [59,60] AS24 BO24) (tr W H l ss i q k).b v G) (hK:∀ v' G',G.length≤G'.length→TH (.sl c l.length (fmC l)) i i (tr W H l ss i q (k+1)).q (.sl (decide (rnC W H (czF l) ss=[])) (rnC W H (czF l) ss).length (lgC (rnC W H (czF l) ss))) (.lop true .nrm (TM24 X) [59,60] AS24 BO24) (tr W H l ss i q (k+1)).b v' G'→K (.bool true) G') (h1:s.k=1) (hkp:Q35 s i ((tr W H l ss i q k).q%W:Nat) ((tr W H l ss i q k).q/W:Nat)=false) (ha:s.a=0) (hb:s.b=0):CallP FB md 0 (.yld 6) [.int .i64 ((ss.length-(k+1):Nat):Int),.agg (spV s)] G K:=by
 have hnn:=o.nn
 have hn12:=o.n12
 have hn0:=o.n0
 have o3:=o.w
 have o4:=o.h
 obtain ⟨f0,hf0,h0w,_,h0p⟩:=o.at o.n0
 obtain ⟨b0,_,b2⟩:=fm_c hf0
 rw [h0w] at b0
 rw [h0p] at b2
 unfold TM24 AS24 BO24 at *
 generalize hxe:(tr W H l ss i q k).q=x at *
 have hGl:=hS.le
 have hsp:=p s (jE hcs)
 have hDx:=hS.app (x:=.blk (spV s) false) rfl
 have hlb:=Q08 hDx.cl (Q0p hDx.lop)
 have hlopx:=hDx.lop
 refine Q2d hS.lop (Nat.zero_le _) rfl ?_
 repeat' ((conv=>whnf);first|refine fLen.mk ?_|refine fB.i0 ?_|refine fB.i1 ?_|refine Get.newj 0 rfl rfl ?_|refine fB.newj 0 rfl ?_|refine ⟨rfl,?_⟩|refine Get.mk _ hlopx ?_|refine zR ?_)
 all_goals try (exfalso;omega)
 refine fB.lopT hDx hlb ?_
 intro G2 g1 g2 hD2
 rw [jD] at g1
 have hx2:bget G2 (G.length+0+0)=some (.blk (spV s) false):=(g2 _ (by omega)).trans (bget_new (i:=0))
 have hb0:=hD2.b0
 have hb1:=hD2.b1
 have hb2:=hD2.b2
 have hlk:∀ {K:V→List B→Prop},K (.tup []) (G2++[.blk (wkC s c l i (x%W:Nat) (x/W:Nat) x) false])→CallP FB md 0 (.fn 38 []) [.ref (G2.length+0) 13 0,.int .i64 (i:Nat),.int .i64 (x:Nat)] (G2++[.blk (wkC s c l 0 0 0 0) false]) K:=fun {K} h=>Q3a o hx (bget_new (i:=0)) (by rw [Nat.add_zero,Q4f];exact h)
 have hD3:=hD2.app (x:=.blk (wkC s c l i (x%W:Nat) (x/W:Nat) x) false) rfl
 have hw3:bget (G2++[.blk (wkC s c l i (x%W:Nat) (x/W:Nat) x) false]) (G2.length+0)=some (.blk (wkC s c l i (x%W:Nat) (x/W:Nat) x) false):=bget_new (i:=0)
 have hx3:=Q01 (g:=[.blk (wkC s c l i (x%W:Nat) (x/W:Nat) x) false]) hx2
 have hl3:G.length≤(G2++[B.blk (wkC s c l i (x%W:Nat) (x/W:Nat) x) false]).length:=by rw [jD,g1];omega
 generalize hG3:G2++[B.blk (wkC s c l i (x%W:Nat) (x/W:Nat) x) false]=G3 at *
 have c0:=hD3.b0
 have c1:=hD3.b1
 have c2:=hD3.b2
 have c3:=hD3.b3
 have c5:=hD3.b5
 have hk53:=Q4n (s:=s) (c:=c) (l:=l) (i:=i) (x:=(x%W:Nat)) (y:=(x/W:Nat)) (n:=x) hsp.kp
 have hfin:∀ {v':V} {G4:List B} {lp':B},G.length≤G4.length→TH (.sl c l.length (fmC l)) i i (tr W H l ss i q (k+1)).q (lgL (rnC W H (czF l) ss)) lp' (tr W H l ss i q (k+1)).b v' G4→K (.bool true) (bset (trunc G.length [] G4) 6 _):=fun h1 h2=>hK _ _ (Qc6 hS h1 h2).1 (Qc6 hS h1 h2).2
 rw [hkp] at hk53
 have hyy:tY (fK W H l ss (ss.length-(k+1))) W H s i (tr W H l ss i q k).q=false:=by
  rw [hxe];unfold tY;rw [if_pos h1,hkp,decide_eq_true ha,decide_eq_true hb];rfl
 have htr:=tr_no (W:=W) (H:=H) (l:=l) (i:=i) (q:=q) hcs hyy
 rw [htr,hxe] at hfin
 focus
  repeat' ((conv=>whnf);first|refine Br.t ?_|refine Br.f ?_|refine zT ?_|refine Br.not ?_|refine fLen.mk ?_|refine fB.i0 ?_|refine fB.i1 ?_|refine Get.mk _ (Q01 hx2) ?_|refine Get.mk _ (Q01 hb0) ?_|refine Get.mk _ (Q01 hb1) ?_|refine Get.mk _ (Q01 hb2) ?_|refine Get.mk _ hx3 ?_|refine Get.newj 0 rfl rfl ?_|refine fB.newj 0 rfl ?_|refine hlk ?_|refine Q06 rfl (Q1x hw3) hk53 (.inr rfl) ?_|refine fB.mk ?_|refine Get.mk _ rfl ?_|refine zR ?_)
  all_goals try (exfalso;omega)
  exact hfin hl3 hD3
theorem Qe0 {X:Nat→V} {c:Bool} {l:List Fm} {W H:Nat} {ss:List Sp} {i q k:Nat} {s:Sp} {v:V} {G:List B} {K:V→List B→Prop} (o:FOk l W H) (hL:ss.length≤20) (p:∀ s∈ss,SOk s l.length W H) (hi:i<l.length) (hk:k<ss.length) (hcs:ss[ss.length-(k+1)]?=some s) (hok1:trOk W H l ss i q k) (hx:(tr W H l ss i q k).q<W*H) (hS:TH (.sl c l.length (fmC l)) i i (tr W H l ss i q k).q (.sl (decide (rnC W H (czF l) ss=[])) (rnC W H (czF l) ss).length (lgC (rnC W H (czF l) ss))) (.lop true .nrm (TM24 X) [59,60] AS24 BO24) (tr W H l ss i q k).b v G) (hK:∀ v' G',G.length≤G'.length→TH (.sl c l.length (fmC l)) i i (tr W H l ss i q (k+1)).q (.sl (decide (rnC W H (czF l) ss=[])) (rnC W H (czF l) ss).length (lgC (rnC W H (czF l) ss))) (.lop true .nrm (TM24 X) [59,60] AS24 BO24) (tr W H l ss i q (k+1)).b v' G'→K (.bool true) G') (h1:¬ s.k=1):CallP FB md 0 (.yld 6) [.int .i64 ((ss.length-(k+1):Nat):Int),.agg (spV s)] G K:=by
 have hnn:=o.nn
 have hn12:=o.n12
 have hn0:=o.n0
 have o3:=o.w
 have o4:=o.h
 obtain ⟨f0,hf0,h0w,_,h0p⟩:=o.at o.n0
 obtain ⟨b0,_,b2⟩:=fm_c hf0
 rw [h0w] at b0
 rw [h0p] at b2
 unfold TM24 AS24 BO24 at *
 generalize hxe:(tr W H l ss i q k).q=x at *
 have hGl:=hS.le
 have hsp:=p s (jE hcs)
 have hDx:=hS.app (x:=.blk (spV s) false) rfl
 have hlb:=Q08 hDx.cl (Q0p hDx.lop)
 have hlopx:=hDx.lop
 refine Q2d hS.lop (Nat.zero_le _) rfl ?_
 repeat' ((conv=>whnf);first|refine fLen.mk ?_|refine fB.i0 ?_|refine fB.i1 ?_|refine Get.newj 0 rfl rfl ?_|refine fB.newj 0 rfl ?_|refine ⟨rfl,?_⟩|refine Get.mk _ hlopx ?_|refine zR ?_)
 all_goals try (exfalso;omega)
 refine fB.lopT hDx hlb ?_
 intro G2 g1 g2 hD2
 rw [jD] at g1
 have hx2:bget G2 (G.length+0+0)=some (.blk (spV s) false):=(g2 _ (by omega)).trans (bget_new (i:=0))
 have hb0:=hD2.b0
 have hb1:=hD2.b1
 have hb2:=hD2.b2
 have hlk:∀ {K:V→List B→Prop},K (.tup []) (G2++[.blk (wkC s c l i (x%W:Nat) (x/W:Nat) x) false])→CallP FB md 0 (.fn 38 []) [.ref (G2.length+0) 13 0,.int .i64 (i:Nat),.int .i64 (x:Nat)] (G2++[.blk (wkC s c l 0 0 0 0) false]) K:=fun {K} h=>Q3a o hx (bget_new (i:=0)) (by rw [Nat.add_zero,Q4f];exact h)
 have hD3:=hD2.app (x:=.blk (wkC s c l i (x%W:Nat) (x/W:Nat) x) false) rfl
 have hw3:bget (G2++[.blk (wkC s c l i (x%W:Nat) (x/W:Nat) x) false]) (G2.length+0)=some (.blk (wkC s c l i (x%W:Nat) (x/W:Nat) x) false):=bget_new (i:=0)
 have hx3:=Q01 (g:=[.blk (wkC s c l i (x%W:Nat) (x/W:Nat) x) false]) hx2
 have hl3:G.length≤(G2++[B.blk (wkC s c l i (x%W:Nat) (x/W:Nat) x) false]).length:=by rw [jD,g1];omega
 generalize hG3:G2++[B.blk (wkC s c l i (x%W:Nat) (x/W:Nat) x) false]=G3 at *
 have c0:=hD3.b0
 have c1:=hD3.b1
 have c2:=hD3.b2
 have c3:=hD3.b3
 have c5:=hD3.b5
 have hk53:=Q4n (s:=s) (c:=c) (l:=l) (i:=i) (x:=(x%W:Nat)) (y:=(x/W:Nat)) (n:=x) hsp.kp
 have hfin:∀ {v':V} {G4:List B} {lp':B},G.length≤G4.length→TH (.sl c l.length (fmC l)) i i (tr W H l ss i q (k+1)).q (lgL (rnC W H (czF l) ss)) lp' (tr W H l ss i q (k+1)).b v' G4→K (.bool true) (bset (trunc G.length [] G4) 6 _):=fun h1 h2=>hK _ _ (Qc6 hS h1 h2).1 (Qc6 hS h1 h2).2
 have hjl:ss.length-(k+1)<ss.length:=by omega
 have hlc:(rnC W H (czF l) ss)[ss.length-(k+1)]?=some (doC (fK W H l ss (ss.length-(k+1))) W H s):=Qe9 hcs
 have hcl:=(Qea (Q4v o) _ (jE hlc)).2
 have hla:=Qm3 hlc
 have hFo:FOk (fK W H l ss (ss.length-(k+1))) W H:=Q6u (Q4v o)
 have hFl:(fK W H l ss (ss.length-(k+1))).length=l.length:=by unfold fK;rw [Q2u,Q0u]
 obtain ⟨f,hf,_,_,hfp⟩:=hFo.at (i:=i) (by omega)
 have hya:=tY_any (W:=W) (H:=H) (s:=s) (i:=i) (q:=x) h1 hf (by omega)
 have k56:=atA_ok (i:=i) (q:=x) (z:=i) (d:=decide (doC (fK W H l ss (ss.length-(k+1))) W H s=[])) hcl
 have hcl2:(rnC W H (czF l) ss).length=ss.length:=Q2j
 have hil:ss.length-(k+1)≤(rnC W H (czF l) ss).length-1:=by omega
 have h0l:0<(rnC W H (czF l) ss).length:=by omega
 unfold cgL at hla
 have htr:=Qe2 (W:=W) (H:=H) (l:=l) (i:=i) (q:=q) hcs
 rw [hxe,hya,if_neg h1] at htr
 have hbl:=Q7o (W:=W) (H:=H) (l:=l) (ss:=ss) (i:=i) (q:=q) (k:=k)
 have hvw:=Qr0 (d:=decide (doC (fK W H l ss (ss.length-(k+1))) W H s=[])) (n:=(doC (fK W H l ss (ss.length-(k+1))) W H s).length) (k:=cgC (doC (fK W H l ss (ss.length-(k+1))) W H s)) c1 c2
 cases hC:(doC (fK W H l ss (ss.length-(k+1))) W H s).any (atB i x) with
 | false =>
  rw [hC] at k56 htr
  rw [if_neg (by decide)] at htr
  rw [htr,hxe] at hfin
  generalize Q35 s i (x%W:Nat) (x/W:Nat)=kb at hk53
  generalize doC (fK W H l ss (ss.length-(k+1))) W H s=D at *
  generalize ss.length-(k+1)=j at *
  focus
   repeat' ((conv=>whnf);first|refine Br.f ?_|refine zF ?_|refine Br.not ?_|refine fLen.mk ?_|refine fB.i0 ?_|refine fB.i1 ?_|refine Get.mk _ (Q01 hx2) ?_|refine Get.mk _ (Q01 hb0) ?_|refine Get.mk _ (Q01 hb1) ?_|refine Get.mk _ (Q01 hb2) ?_|refine Get.mk _ hx3 ?_|refine Get.newj 0 rfl rfl ?_|refine fB.newj 0 rfl ?_|refine hlk ?_|refine Get.mk _ c5 ?_|refine Get.mk _ hla ?_|refine Idx.nat hil ?_|refine Req.mk h0l ?_|refine Q06 rfl hvw k56 (.inr rfl) ?_|refine fB.mk ?_|refine Get.mk _ rfl ?_|refine zR ?_)
   all_goals try (exfalso;omega)
   exact hfin hl3 hD3
 | true =>
  rw [hC] at k56 htr
  rw [if_pos rfl] at htr
  rw [htr] at hfin
  generalize Q35 s i (x%W:Nat) (x/W:Nat)=kb at hk53
  generalize doC (fK W H l ss (ss.length-(k+1))) W H s=D at *
  rcases hS.il.frm with rfl|⟨r,rfl⟩
  ·have hbe:(tr W H l ss i q k).b=[]:=by
    rcases hD3.il with h|⟨_,_,_,h,_⟩
    ·exact h.1
    ·cases h
   rw [hbe] at hD3 hfin
   generalize ss.length-(k+1)=j at *
   focus
    repeat' ((conv=>whnf);first|refine Br.t ?_|refine Br.f ?_|refine zF ?_|refine Br.not ?_|refine fLen.mk ?_|refine fB.i0 ?_|refine fB.i1 ?_|refine Get.mk _ (Q01 hx2) ?_|refine Get.mk _ (Q01 hb0) ?_|refine Get.mk _ (Q01 hb1) ?_|refine Get.mk _ (Q01 hb2) ?_|refine Get.mk _ hx3 ?_|refine Get.newj 0 rfl rfl ?_|refine fB.newj 0 rfl ?_|refine hlk ?_|refine Get.mk _ (Q01 c3) ?_|refine Req.mk (bget_new (i:=0)) ?_|(refine fB.put0T hD3 ?_;intro G5 g5 g6 hD5)|refine Get.mk _ c5 ?_|refine Get.mk _ hla ?_|refine Idx.nat hil ?_|refine Req.mk h0l ?_|refine Q06 rfl hvw k56 (.inr rfl) ?_|refine fB.mk ?_|refine zZ ?_|refine Get.mk _ rfl ?_|refine zR ?_)
    all_goals try (exfalso;omega)
    exact hfin (show G.length≤G5.length by omega) hD5
  ·obtain ⟨r7,rG,_,_,_⟩:=hS.at rfl
   obtain ⟨_,_,_,_,hr4⟩:=hD3.at rfl
   generalize (tr W H l ss i q k).b=bl at *
   generalize ss.length-(k+1)=j at *
   have hol:(Q00 bl).length=bl.length:=by simp [Q00]
   have hqs:0+bl.length=bl.length∧((Q00 bl).length+[V.int .i64 ((j:Nat):Int)].length)*(8+1)<big:=⟨Nat.zero_add _,by rw [hol];unfold big;simp;omega⟩
   have hc3r:∀ b',bget (bset (G3++[.unborn]) r b') (0+3)=some (.blk [.ms 1 r bl.length 0 bl.length false] false):=fun b'=>(Q02 (by omega)).trans (Q01 c3)
   focus
    repeat' ((conv=>whnf);first|refine Br.t ?_|refine Br.f ?_|refine zF ?_|refine Br.not ?_|refine fLen.mk ?_|refine fB.i0 ?_|refine fB.i1 ?_|refine Get.mk _ (Q01 hx2) ?_|refine Get.mk _ (Q01 hb0) ?_|refine Get.mk _ (Q01 hb1) ?_|refine Get.mk _ (Q01 hb2) ?_|refine Get.mk _ hx3 ?_|refine Get.newj 0 rfl rfl ?_|refine fB.newj 0 rfl ?_|refine hlk ?_|refine Get.mk _ (Q01 c3) ?_|refine Get.mk _ (Q01 hr4) ?_|refine Get.mk _ (hc3r _) ?_|refine Req.mk hol ?_|(refine fB.putST hD3 rfl ?_;intro G5 g5 g6 hD5)|refine Get.mk _ c5 ?_|refine Get.mk _ hla ?_|refine Idx.nat hil ?_|refine Req.mk h0l ?_|refine Q06 rfl hvw k56 (.inr rfl) ?_|refine fB.mk ?_|refine zZ ?_|refine Get.mk _ rfl ?_|refine zR ?_)
    all_goals try (exfalso;omega)
    exact hfin (show G.length≤G5.length by omega) hD5
end Go.Dr.T
