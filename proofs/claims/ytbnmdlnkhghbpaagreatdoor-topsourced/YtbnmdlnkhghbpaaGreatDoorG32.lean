/- Top, of chapter 08: Trace, walked: the steps that move. -/
import Derived.Test.YtbnmdlnkhghbpaaGreatDoorG30
set_option maxRecDepth 100000
set_option maxHeartbeats 20000000
namespace Go.Dr.T
theorem Qka {X:Nat→V} {c:Bool} {l:List Fm} {W H:Nat} {ss:List Sp} {i q k:Nat} {s:Sp} {v:V} {G:List B} {K:V→List B→Prop} (o:FOk l W H) (hL:ss.length≤20) (p:∀ s∈ss,SOk s l.length W H) (hi:i<l.length) (hk:k<ss.length) (hcs:ss[ss.length-(k+1)]?=some s) (hok1:trOk W H l ss i q k) (hx:(tr W H l ss i q k).q<W*H) (hS:TH (.sl c l.length (fmC l)) i i (tr W H l ss i q k).q (.sl (decide (rnC W H (czF l) ss=[])) (rnC W H (czF l) ss).length (lgC (rnC W H (czF l) ss))) (.lop true .nrm (TM24 X) [59,60] AS24 BO24) (tr W H l ss i q k).b v G) (hK:∀ v' G',G.length≤G'.length→TH (.sl c l.length (fmC l)) i i (tr W H l ss i q (k+1)).q (.sl (decide (rnC W H (czF l) ss=[])) (rnC W H (czF l) ss).length (lgC (rnC W H (czF l) ss))) (.lop true .nrm (TM24 X) [59,60] AS24 BO24) (tr W H l ss i q (k+1)).b v' G'→K (.bool true) G') (h1:s.k=1) (hkp:Q35 s i ((tr W H l ss i q k).q%W:Nat) ((tr W H l ss i q k).q/W:Nat)=false) (hab:¬ (s.a=0∧s.b=0)):CallP FB md 0 (.yld 6) [.int .i64 ((ss.length-(k+1):Nat):Int),.agg (spV s)] G K:=by
 have hnn:=o.nn
 have hn12:=o.n12
 have hn0:=o.n0
 have o3:=o.w
 have o4:=o.h
 obtain ⟨f0,hf0,h0w,_,h0p⟩:=o.at o.n0
 obtain ⟨b0,_,b2⟩:=fm_c hf0
 rw [h0w] at b0
 rw [h0p] at b2
 unfold TM24 AS24 BO24 at *
 generalize hxe:(tr W H l ss i q k).q=x at *
 have hGl:=hS.le
 have hsp:=p s (jE hcs)
 have hDx:=hS.app (x:=.blk (spV s) false) rfl
 have hlb:=Q08 hDx.cl (Q0p hDx.lop)
 have hlopx:=hDx.lop
 refine Q2d hS.lop (Nat.zero_le _) rfl ?_
 repeat' ((conv=>whnf);first|refine fLen.mk ?_|refine fB.i0 ?_|refine fB.i1 ?_|refine Get.newj 0 rfl rfl ?_|refine fB.newj 0 rfl ?_|refine ⟨rfl,?_⟩|refine Get.mk _ hlopx ?_|refine zR ?_)
 all_goals try (exfalso;omega)
 refine fB.lopT hDx hlb ?_
 intro G2 g1 g2 hD2
 rw [jD] at g1
 have hx2:bget G2 (G.length+0+0)=some (.blk (spV s) false):=(g2 _ (by omega)).trans (bget_new (i:=0))
 have hb0:=hD2.b0
 have hb1:=hD2.b1
 have hb2:=hD2.b2
 have hlk:∀ {K:V→List B→Prop},K (.tup []) (G2++[.blk (wkC s c l i (x%W:Nat) (x/W:Nat) x) false])→CallP FB md 0 (.fn 38 []) [.ref (G2.length+0) 13 0,.int .i64 (i:Nat),.int .i64 (x:Nat)] (G2++[.blk (wkC s c l 0 0 0 0) false]) K:=fun {K} h=>Q3a o hx (bget_new (i:=0)) (by rw [Nat.add_zero,Q4f];exact h)
 have hD3:=hD2.app (x:=.blk (wkC s c l i (x%W:Nat) (x/W:Nat) x) false) rfl
 have hw3:bget (G2++[.blk (wkC s c l i (x%W:Nat) (x/W:Nat) x) false]) (G2.length+0)=some (.blk (wkC s c l i (x%W:Nat) (x/W:Nat) x) false):=bget_new (i:=0)
 have hx3:=Q01 (g:=[.blk (wkC s c l i (x%W:Nat) (x/W:Nat) x) false]) hx2
 have hl3:G.length≤(G2++[B.blk (wkC s c l i (x%W:Nat) (x/W:Nat) x) false]).length:=by rw [jD,g1];omega
 generalize hG3:G2++[B.blk (wkC s c l i (x%W:Nat) (x/W:Nat) x) false]=G3 at *
 have c0:=hD3.b0
 have c1:=hD3.b1
 have c2:=hD3.b2
 have c3:=hD3.b3
 have c5:=hD3.b5
 have hk53:=Q4n (s:=s) (c:=c) (l:=l) (i:=i) (x:=(x%W:Nat)) (y:=(x/W:Nat)) (n:=x) hsp.kp
 have hfin:∀ {v':V} {G4:List B} {lp':B},G.length≤G4.length→TH (.sl c l.length (fmC l)) i i (tr W H l ss i q (k+1)).q (lgL (rnC W H (czF l) ss)) lp' (tr W H l ss i q (k+1)).b v' G4→K (.bool true) (bset (trunc G.length [] G4) 6 _):=fun h1 h2=>hK _ _ (Qc6 hS h1 h2).1 (Qc6 hS h1 h2).2
 rw [hkp] at hk53
 have hyy:tY (fK W H l ss (ss.length-(k+1))) W H s i (tr W H l ss i q k).q=true:=by
  have hz:(decide (s.a=0)&&decide (s.b=0))=false:=by simpa using hab
  rw [hxe];unfold tY;rw [if_pos h1,hkp,hz];rfl
 have hin:=hok1 s hcs h1 hyy
 rw [hxe] at hin
 have htr:=Qe2 (W:=W) (H:=H) (l:=l) (i:=i) (q:=q) hcs
 rw [if_pos hyy,if_pos h1,hxe] at htr
 rw [htr] at hfin
 have k54:=Q82 (s:=s) (c:=c) (l:=l) (fi:=i) (fx:=(x%W:Nat)) (fy:=(x/W:Nat)) (fn:=x) (i:=i) (x:=(x%W:Nat)-s.a) (y:=(x/W:Nat)-s.b) o
 have hin':oldB l.length W H i ((x%W:Nat)-s.a) ((x/W:Nat)-s.b)=true:=hin
 rw [hin'] at k54
 generalize oldN l W H i ((x%W:Nat)-s.a) ((x/W:Nat)-s.b)=z at k54
 obtain ⟨hxa,hya,hmw,haw,hsw⟩:=Qie o3 hnn hx (hsp.k1 h1).1 (hsp.k1 h1).2.1 hin
 have hbl:=Q7o (W:=W) (H:=H) (l:=l) (ss:=ss) (i:=i) (q:=q) (k:=k)
 rcases hS.il.frm with rfl|⟨r,rfl⟩
 ·have hbe:(tr W H l ss i q k).b=[]:=by
   rcases hD3.il with h|⟨_,_,_,h,_⟩
   ·exact h.1
   ·cases h
  rw [hbe] at hD3 hfin
  focus
   repeat' ((conv=>whnf);first|refine Bnd.eq hxa ?_|refine Bnd.eq hya ?_|refine Bnd.eq hmw ?_|refine Bnd.eq haw ?_|refine Bnd.eq hsw ?_|refine Br.t ?_|refine Br.f ?_|refine zT ?_|refine zF ?_|refine Br.dec (fun _=>?_) (fun _=>?_)|refine Br.not ?_|refine fLen.mk ?_|refine fB.i0 ?_|refine fB.i1 ?_|refine Get.mk _ (Q01 hx2) ?_|refine Get.mk _ (Q01 hb0) ?_|refine Get.mk _ (Q01 hb1) ?_|refine Get.mk _ (Q01 hb2) ?_|refine Get.mk _ hx3 ?_|refine Get.newj 0 rfl rfl ?_|refine fB.newj 0 rfl ?_|refine hlk ?_|refine Q06 rfl (Q1x hw3) hk53 (.inr rfl) ?_|refine Get.mk _ (Q01 c3) ?_|refine Req.mk (bget_new (i:=0)) ?_|(refine fB.put0T hD3 ?_;intro G5 g5 g6 hD5)|refine Q06 rfl (Q58 (g6 _ _ (by omega) hw3)) k54 (.inr rfl) ?_|refine Get.mk _ hD5.b0 ?_|refine Get.mk _ hD5.b1 ?_|refine Get.mk _ hD5.b2 ?_|refine Get.mk _ (g6 _ _ (by omega) hw3) ?_|refine Get.mk _ (g6 _ _ (by omega) hx3) ?_|refine Get.mk _ b0 ?_|(refine fB.fromT hD5 ?_;intro G6 g7 hD6)|refine fB.mk ?_|refine zI ?_|refine zZ ?_|refine Get.mk _ rfl ?_|refine zR ?_)
   all_goals try (exfalso;omega)
   all_goals exact hfin (show G.length≤G6.length by omega) hD6
 ·obtain ⟨r7,rG,_,_,_⟩:=hS.at rfl
  obtain ⟨_,_,_,_,hr4⟩:=hD3.at rfl
  generalize (tr W H l ss i q k).b=bl at *
  have hol:(Q00 bl).length=bl.length:=by simp [Q00]
  have hqs:0+bl.length=bl.length∧((Q00 bl).length+[V.int .i64 ((ss.length-(k+1):Nat):Int)].length)*(8+1)<big:=⟨Nat.zero_add _,by rw [hol];unfold big;simp;omega⟩
  have hwr:G2.length+0≠r:=by omega
  have hxr:G.length+0+0≠r:=by omega
  have hc3r:∀ b',bget (bset (G3++[.unborn]) r b') (0+3)=some (.blk [.ms 1 r bl.length 0 bl.length false] false):=fun b'=>(Q02 (by omega)).trans (Q01 c3)
  focus
   repeat' ((conv=>whnf);first|refine Bnd.eq hxa ?_|refine Bnd.eq hya ?_|refine Bnd.eq hmw ?_|refine Bnd.eq haw ?_|refine Bnd.eq hsw ?_|refine Br.t ?_|refine Br.f ?_|refine zT ?_|refine zF ?_|refine Br.dec (fun _=>?_) (fun _=>?_)|refine Br.not ?_|refine fLen.mk ?_|refine fB.i0 ?_|refine fB.i1 ?_|refine Get.mk _ (Q01 hx2) ?_|refine Get.mk _ (Q01 hb0) ?_|refine Get.mk _ (Q01 hb1) ?_|refine Get.mk _ (Q01 hb2) ?_|refine Get.mk _ hx3 ?_|refine Get.newj 0 rfl rfl ?_|refine fB.newj 0 rfl ?_|refine hlk ?_|refine Q06 rfl (Q1x hw3) hk53 (.inr rfl) ?_|refine Get.mk _ (Q01 c3) ?_|refine Get.mk _ (Q01 hr4) ?_|refine Get.mk _ (hc3r _) ?_|refine Req.mk hol ?_|(refine fB.putST hD3 rfl ?_;intro G5 g5 g6 hD5)|refine Q06 rfl (Q58 (g6 _ _ (by omega) hwr hw3)) k54 (.inr rfl) ?_|refine Get.mk _ hD5.b0 ?_|refine Get.mk _ hD5.b1 ?_|refine Get.mk _ hD5.b2 ?_|refine Get.mk _ (g6 _ _ (by omega) hwr hw3) ?_|refine Get.mk _ (g6 _ _ (by omega) hxr hx3) ?_|refine Get.mk _ b0 ?_|(refine fB.fromT hD5 ?_;intro G6 g7 hD6)|refine fB.mk ?_|refine zI ?_|refine zZ ?_|refine Get.mk _ rfl ?_|refine zR ?_)
   all_goals try (exfalso;omega)
   all_goals exact hfin (show G.length≤G6.length by omega) hD6
end Go.Dr.T
namespace Go.Dr.T
theorem Qk9 {X:Nat→V} {c:Bool} {l:List Fm} {W H:Nat} {ss:List Sp} {i q k:Nat} {s:Sp} {v:V} {G:List B} {K:V→List B→Prop} (o:FOk l W H) (hL:ss.length≤20) (p:∀ s∈ss,SOk s l.length W H) (hi:i<l.length) (hk:k<ss.length) (hcs:ss[ss.length-(k+1)]?=some s) (hno1:¬ trOk W H l ss i q k) (hx:(tr W H l ss i q k).q<W*H) (hS:TH (.sl c l.length (fmC l)) i i (tr W H l ss i q k).q (.sl (decide (rnC W H (czF l) ss=[])) (rnC W H (czF l) ss).length (lgC (rnC W H (czF l) ss))) (.lop true .nrm (TM24 X) [59,60] AS24 BO24) (tr W H l ss i q k).b v G) (hK:∀ G',G.length≤G'.length→(∃ v' tm ps as bo,TH (.sl c l.length (fmC l)) i (-1) (-1) (.sl (decide (rnC W H (czF l) ss=[])) (rnC W H (czF l) ss).length (lgC (rnC W H (czF l) ss))) (.lop false .ret tm ps as bo) ((tr W H l ss i q k).b++[((ss.length-(k+1):Nat):Int)]).reverse v' G')→K (.bool false) G'):CallP FB md 0 (.yld 6) [.int .i64 ((ss.length-(k+1):Nat):Int),.agg (spV s)] G K:=by
 have hnn:=o.nn
 have hn12:=o.n12
 have hn0:=o.n0
 have o3:=o.w
 have o4:=o.h
 obtain ⟨f0,hf0,h0w,_,h0p⟩:=o.at o.n0
 obtain ⟨b0,_,b2⟩:=fm_c hf0
 rw [h0w] at b0
 rw [h0p] at b2
 unfold TM24 AS24 BO24 at *
 obtain ⟨h1,hyy,hout⟩:=Qkf hcs hno1
 generalize hxe:(tr W H l ss i q k).q=x at *
 have hlb0:=Q08 hS.cl (Q0p hS.lop)
 have hGl:=hS.le
 have hsp:=p s (jE hcs)
 have hDx:=hS.app (x:=.blk (spV s) false) rfl
 have hlb:=Q08 hDx.cl (Q0p hDx.lop)
 have hlopx:=hDx.lop
 refine Q2d hS.lop (Nat.zero_le _) rfl ?_
 repeat' ((conv=>whnf);first|refine fLen.mk ?_|refine fB.i0 ?_|refine fB.i1 ?_|refine Get.newj 0 rfl rfl ?_|refine fB.newj 0 rfl ?_|refine ⟨rfl,?_⟩|refine Get.mk _ hlopx ?_|refine zR ?_)
 all_goals try (exfalso;omega)
 refine fB.lopT hDx hlb ?_
 intro G2 g1 g2 hD2
 rw [jD] at g1
 have hx2:bget G2 (G.length+0+0)=some (.blk (spV s) false):=(g2 _ (by omega)).trans (bget_new (i:=0))
 have hb0:=hD2.b0
 have hb1:=hD2.b1
 have hb2:=hD2.b2
 have hlk:∀ {K:V→List B→Prop},K (.tup []) (G2++[.blk (wkC s c l i (x%W:Nat) (x/W:Nat) x) false])→CallP FB md 0 (.fn 38 []) [.ref (G2.length+0) 13 0,.int .i64 (i:Nat),.int .i64 (x:Nat)] (G2++[.blk (wkC s c l 0 0 0 0) false]) K:=fun {K} h=>Q3a o hx (bget_new (i:=0)) (by rw [Nat.add_zero,Q4f];exact h)
 have hD3:=hD2.app (x:=.blk (wkC s c l i (x%W:Nat) (x/W:Nat) x) false) rfl
 have hw3:bget (G2++[.blk (wkC s c l i (x%W:Nat) (x/W:Nat) x) false]) (G2.length+0)=some (.blk (wkC s c l i (x%W:Nat) (x/W:Nat) x) false):=bget_new (i:=0)
 have hx3:=Q01 (g:=[.blk (wkC s c l i (x%W:Nat) (x/W:Nat) x) false]) hx2
 have hl3:G.length≤(G2++[B.blk (wkC s c l i (x%W:Nat) (x/W:Nat) x) false]).length:=by rw [jD,g1];omega
 generalize hG3:G2++[B.blk (wkC s c l i (x%W:Nat) (x/W:Nat) x) false]=G3 at *
 have c0:=hD3.b0
 have c1:=hD3.b1
 have c2:=hD3.b2
 have c3:=hD3.b3
 have c5:=hD3.b5
 have hk53:=Q4n (s:=s) (c:=c) (l:=l) (i:=i) (x:=(x%W:Nat)) (y:=(x/W:Nat)) (n:=x) hsp.kp
 have hab:¬ (s.a=0∧s.b=0):=fun ⟨z1,z2⟩=>by
  have h:=hyy
  unfold tY at h
  rw [if_pos h1,decide_eq_true z1,decide_eq_true z2] at h
  simp at h
 have hyy2:=hyy
 unfold tY at hyy2
 rw [if_pos h1] at hyy2
 have hkp:Q35 s i (x%W:Nat) (x/W:Nat)=false:=by
  cases h:Q35 s i (x%W:Nat) (x/W:Nat) with
  | false=>rfl
  | true=>rw [h] at hyy2;cases hyy2
 rw [hkp] at hk53
 have k54:=Q82 (s:=s) (c:=c) (l:=l) (fi:=i) (fx:=(x%W:Nat)) (fy:=(x/W:Nat)) (fn:=x) (i:=i) (x:=(x%W:Nat)-s.a) (y:=(x/W:Nat)-s.b) o
 have hout':oldB l.length W H i ((x%W:Nat)-s.a) ((x/W:Nat)-s.b)=false:=hout
 rw [hout'] at k54
 generalize oldN l W H i ((x%W:Nat)-s.a) ((x/W:Nat)-s.b)=z at k54
 obtain ⟨hxa,hya⟩:=Qoz (s:=s) (x:=x) o3 hnn hx (hsp.k1 h1).1 (hsp.k1 h1).2.1
 have hbl:=Q7o (W:=W) (H:=H) (l:=l) (ss:=ss) (i:=i) (q:=q) (k:=k)
 have hfin:∀ {v':V} {G4:List B} {lp':B} {tm:List V} {ps:_} {as:_} {bo:_},(B.lop false .ret tm ps as bo).blo G.length=true→TH (.sl c l.length (fmC l)) i (-1) (-1) (lgL (rnC W H (czF l) ss)) lp' ((tr W H l ss i q k).b++[((ss.length-(k+1):Nat):Int)]).reverse v' G4→G.length≤G4.length→K (.bool false) (bset (trunc G.length [] G4) 6 (.lop false .ret tm ps as bo)):=fun h0 h2 h1=>hK _ (Qr8 hS h0 h1 h2).1 ⟨_,_,_,_,_,(Qr8 hS h0 h1 h2).2⟩
 rcases hS.il.frm with rfl|⟨r,rfl⟩
 ·have hbe:(tr W H l ss i q k).b=[]:=by
   rcases hD3.il with h|⟨_,_,_,h,_⟩
   ·exact h.1
   ·cases h
  rw [hbe] at hD3 hfin
  focus
   repeat' ((conv=>whnf);first|refine Bnd.eq hxa ?_|refine Bnd.eq hya ?_|refine Br.t ?_|refine zT ?_|refine zF ?_|refine Br.dec (fun _=>?_) (fun _=>?_)|refine Br.not ?_|refine fLen.mk ?_|refine fB.i0 ?_|refine fB.i1 ?_|refine Get.mk _ (Q01 hx2) ?_|refine Get.mk _ (Q01 hb0) ?_|refine Get.mk _ (Q01 hb1) ?_|refine Get.mk _ (Q01 hb2) ?_|refine Get.mk _ hx3 ?_|refine Get.newj 0 rfl rfl ?_|refine fB.newj 0 rfl ?_|refine hlk ?_|refine Q06 rfl (Q1x hw3) hk53 (.inr rfl) ?_|refine Get.mk _ (Q01 c3) ?_|refine Req.mk (bget_new (i:=0)) ?_|(refine fB.put0T hD3 ?_;intro G5 g5 g6 hD5)|refine Q06 rfl (Q58 (g6 _ _ (by omega) hw3)) k54 (.inr rfl) ?_|refine Get.mk _ hD5.b1 ?_|refine Get.mk _ hD5.b3 ?_|refine Get.mk _ (g6 _ _ (by omega) hw3) ?_|refine Get.mk _ (g6 _ _ (by omega) hx3) ?_|(refine Q7v hD5 (by simp) ?_;intro G6 g7 hD6)|refine Get.mk _ hD6.b3 ?_|refine Get.mk _ hD6.b2 ?_|(refine fB.fromT hD6 ?_;intro G7 g8 hD7)|refine fB.as (Q0t hD7.b3) ?_|refine fB.as (Q0t hD7.b4) ?_|refine Get.mk _ hD7.b3 ?_|refine Get.mk _ hD7.b4 ?_|refine fB.mk ?_|refine zZ ?_|refine Get.mk _ rfl ?_|refine zR ?_)
   all_goals try (exfalso;omega)
   all_goals exact hfin hlb0 hD7 (show G.length≤G7.length by omega)
 ·obtain ⟨r7,rG,_,_,_⟩:=hS.at rfl
  obtain ⟨_,_,_,_,hr4⟩:=hD3.at rfl
  generalize (tr W H l ss i q k).b=bl at *
  have hol:(Q00 bl).length=bl.length:=by simp [Q00]
  have hqs:0+bl.length=bl.length∧((Q00 bl).length+[V.int .i64 ((ss.length-(k+1):Nat):Int)].length)*(8+1)<big:=⟨Nat.zero_add _,by rw [hol];unfold big;simp;omega⟩
  have hwr:G2.length+0≠r:=by omega
  have hxr:G.length+0+0≠r:=by omega
  have hc3r:∀ b',bget (bset (G3++[.unborn]) r b') (0+3)=some (.blk [.ms 1 r bl.length 0 bl.length false] false):=fun b'=>(Q02 (by omega)).trans (Q01 c3)
  have hl5:(bl++[((ss.length-(k+1):Nat):Int)]).length≤100000:=by rw [jD];simp only [List.length_cons,List.length_nil];omega
  focus
   repeat' ((conv=>whnf);first|refine Bnd.eq hxa ?_|refine Bnd.eq hya ?_|refine Br.t ?_|refine zT ?_|refine zF ?_|refine Br.dec (fun _=>?_) (fun _=>?_)|refine Br.not ?_|refine fLen.mk ?_|refine fB.i0 ?_|refine fB.i1 ?_|refine Get.mk _ (Q01 hx2) ?_|refine Get.mk _ (Q01 hb0) ?_|refine Get.mk _ (Q01 hb1) ?_|refine Get.mk _ (Q01 hb2) ?_|refine Get.mk _ hx3 ?_|refine Get.newj 0 rfl rfl ?_|refine fB.newj 0 rfl ?_|refine hlk ?_|refine Q06 rfl (Q1x hw3) hk53 (.inr rfl) ?_|refine Get.mk _ (Q01 c3) ?_|refine Get.mk _ (Q01 hr4) ?_|refine Get.mk _ (hc3r _) ?_|refine Req.mk hol ?_|(refine fB.putST hD3 rfl ?_;intro G5 g5 g6 hD5)|refine Q06 rfl (Q58 (g6 _ _ (by omega) hwr hw3)) k54 (.inr rfl) ?_|refine Get.mk _ hD5.b1 ?_|refine Get.mk _ hD5.b3 ?_|refine Get.mk _ (g6 _ _ (by omega) hwr hw3) ?_|refine Get.mk _ (g6 _ _ (by omega) hxr hx3) ?_|(refine Q7v hD5 hl5 ?_;intro G6 g7 hD6)|refine Get.mk _ hD6.b3 ?_|refine Get.mk _ hD6.b2 ?_|(refine fB.fromT hD6 ?_;intro G7 g8 hD7)|refine fB.as (Q0t hD7.b3) ?_|refine fB.as (Q0t hD7.b4) ?_|refine Get.mk _ hD7.b3 ?_|refine Get.mk _ hD7.b4 ?_|refine fB.mk ?_|refine zZ ?_|refine Get.mk _ rfl ?_|refine zR ?_)
   all_goals try (exfalso;omega)
   all_goals exact hfin hlb0 hD7 (show G.length≤G7.length by omega)
end Go.Dr.T
