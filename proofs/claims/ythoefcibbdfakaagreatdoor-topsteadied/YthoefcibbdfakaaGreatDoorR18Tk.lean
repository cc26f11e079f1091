/- Top, of chapter 08: Trace, walked: the steps that do not move. -/
import Derived.Test.YthoefcibbdfakaaGreatDoorR18Te
namespace Go.Dr.T
set_option maxRecDepth 100000 in
set_option maxHeartbeats 20000000 in
theorem Qfu {X:Nat→V} {c:Bool} {l:List Fm} {W H:Nat} {ss:List Sp} {i q k:Nat} {s:Sp} {v:V} {G:List B} {K:V→List B→Prop} (o:FOk l W H) (hL:ss.length≤20) (p:∀ s∈ss,SOk s l.length W H) (hi:i<l.length) (hk:k<ss.length) (hcs:ss[ss.length - (k+1)]?=some s) (hok1:trOk W H l ss i q k) (hx:(tr W H l ss i q k).q<W * H) (hS:TH (.sl c l.length (fmC l)) i i (tr W H l ss i q k).q (.sl (decide (rnC W H (czF l) ss=[])) (rnC W H (czF l) ss).length (lgC (rnC W H (czF l) ss))) (.lop true .nrm (TM24 X) [59,60] AS24 BO24) (tr W H l ss i q k).b v G) (hK:∀ v' G', G.length≤G'.length→TH (.sl c l.length (fmC l)) i i (tr W H l ss i q (k+1)).q (.sl (decide (rnC W H (czF l) ss=[])) (rnC W H (czF l) ss).length (lgC (rnC W H (czF l) ss))) (.lop true .nrm (TM24 X) [59,60] AS24 BO24) (tr W H l ss i q (k+1)).b v' G' → K (.bool true) G') (h1:s.k=1) (hkp:Q37 s i ((tr W H l ss i q k).q % W:Nat) ((tr W H l ss i q k).q / W:Nat)=true):CallP FB md 0 (.yld 6) [.int .i64 ((ss.length - (k+1):Nat):Int),.agg (spV s)] G K:=by
 have hnn:=o.nn
 have hn12:=o.n12
 have hn0:=o.n0
 have o3:=o.w
 have o4:=o.h
 obtain ⟨f0,hf0,h0w,_,h0p⟩:=o.at o.n0
 obtain ⟨b0,_,b2⟩:=fm_c hf0
 rw [h0w] at b0
 rw [h0p] at b2
 unfold TM24 AS24 BO24 at *
 generalize hxe:(tr W H l ss i q k).q=x at *
 have hGl:=hS.le
 have hsp:=p s (List.mem_of_getElem? hcs)
 have hDx:=hS.app (x:=.blk (spV s) false) rfl
 have hlb:=Q04 hDx.cl (Q0g hDx.lop)
 have hlopx:=hDx.lop
 refine Q1v hS.lop (Nat.zero_le _) rfl ?_
 repeat' (first
 | (conv=>whnf)
   first
   | refine fLen.mk ?_
   | refine fB.i0 ?_
   | refine fB.i1 ?_
   | refine Get.newj 0 rfl rfl ?_
   | refine fB.newj 0 rfl ?_
   | refine ⟨rfl,?_⟩
   | refine Get.mk _ hlopx ?_
   | (refine Req.mk ?_ ?_;(focus first | rfl | decide | exact ⟨rfl,rfl⟩ | exact ⟨rfl,by decide⟩ | exact (fun _=>rfl) | exact (fun h=>nomatch h) | (simp;done) | omega | (simp [big];done) | exact Q02 (by omega) | exact Q01 (by omega))))
 all_goals try (exfalso;omega;done)
 refine fB.lopT hDx hlb ?_
 intro G2 g1 g2 hD2
 rw [List.length_append] at g1
 have hx2:bget G2 (G.length+0+0)=some (.blk (spV s) false):=(g2 _ (by omega)).trans (bget_new (i:=0))
 have hb0:=hD2.b0
 have hb1:=hD2.b1
 have hb2:=hD2.b2
 have hlk:∀ {K:V→List B→Prop},K (.tup []) (G2++[.blk (wkC s c l i (x % W:Nat) (x / W:Nat) x) false])→CallP FB md 0 (.fn 43 []) [.ref (G2.length+0) 13 0,.int .i64 (i:Nat),.int .i64 (x:Nat)] (G2++[.blk (wkC s c l 0 0 0 0) false]) K:=fun {K} h=>Q2t o hx (bget_new (i:=0)) (by rw [Nat.add_zero,Q3o];exact h)
 have hD3:=hD2.app (x:=.blk (wkC s c l i (x % W:Nat) (x / W:Nat) x) false) rfl
 have hw3:bget (G2++[.blk (wkC s c l i (x % W:Nat) (x / W:Nat) x) false]) (G2.length+0)=some (.blk (wkC s c l i (x % W:Nat) (x / W:Nat) x) false):=bget_new (i:=0)
 have hx3:=bget_app (g:=[.blk (wkC s c l i (x % W:Nat) (x / W:Nat) x) false]) hx2
 have hl3:G.length≤(G2++[B.blk (wkC s c l i (x % W:Nat) (x / W:Nat) x) false]).length:=by rw [List.length_append,g1];omega
 generalize hG3:G2++[B.blk (wkC s c l i (x % W:Nat) (x / W:Nat) x) false]=G3 at *
 have c0:=hD3.b0
 have c1:=hD3.b1
 have c2:=hD3.b2
 have c3:=hD3.b3
 have c5:=hD3.b5
 have hk53:=Q3y (s:=s) (c:=c) (l:=l) (i:=i) (x:=(x % W:Nat)) (y:=(x / W:Nat)) (n:=x) hsp.kp
 have hfin:∀ {v' : V} {G4:List B} {lp' : B},G.length≤G4.length→TH (.sl c l.length (fmC l)) i i (tr W H l ss i q (k+1)).q (lgL (rnC W H (czF l) ss)) lp' (tr W H l ss i q (k+1)).b v' G4→K (.bool true) (bset (trunc G.length [] G4) 6 _):=fun h1 h2=>hK _ _ (Qal hS h1 h2).1 (Qal hS h1 h2).2
 rw [hkp] at hk53
 have hyy:tY (fK W H l ss (ss.length - (k+1))) W H s i (tr W H l ss i q k).q=false:=by
  rw [hxe];unfold tY;rw [if_pos h1,hkp];rfl
 have htr:=tr_no (W:=W) (H:=H) (l:=l) (i:=i) (q:=q) hcs hyy
 rw [htr,hxe] at hfin
 focus
  repeat' (first
 | (conv=>whnf)
   first
   | refine Br.f ?_
   | (refine Br.decT ?_ ?_;(focus first | assumption | omega))
   | refine Br.not ?_
   | refine fLen.mk ?_
   | refine fB.i0 ?_
   | refine fB.i1 ?_
   | refine Get.mk _ (bget_app hx2) ?_
   | refine Get.mk _ (bget_app hb0) ?_
   | refine Get.mk _ (bget_app hb1) ?_
   | refine Get.mk _ (bget_app hb2) ?_
   | refine Get.mk _ hx3 ?_
   | refine Get.newj 0 rfl rfl ?_
   | refine fB.newj 0 rfl ?_
   | refine hlk ?_
   | refine Q00 rfl (Q1k hw3) hk53 (.inr rfl) ?_
   | refine fB.mk ?_
   | refine Get.mk _ rfl ?_
   | (refine Req.mk ?_ ?_;(focus first | rfl | decide | exact ⟨rfl,rfl⟩ | exact ⟨rfl,by decide⟩ | exact (fun _=>rfl) | exact (fun h=>nomatch h) | (simp;done) | omega | (simp [big];done) | exact Q02 (by omega) | exact Q01 (by omega))))
  all_goals try (exfalso;omega;done)
  exact hfin hl3 hD3
set_option maxRecDepth 100000 in
set_option maxHeartbeats 20000000 in
theorem Qft {X:Nat→V} {c:Bool} {l:List Fm} {W H:Nat} {ss:List Sp} {i q k:Nat} {s:Sp} {v:V} {G:List B} {K:V→List B→Prop} (o:FOk l W H) (hL:ss.length≤20) (p:∀ s∈ss,SOk s l.length W H) (hi:i<l.length) (hk:k<ss.length) (hcs:ss[ss.length - (k+1)]?=some s) (hok1:trOk W H l ss i q k) (hx:(tr W H l ss i q k).q<W * H) (hS:TH (.sl c l.length (fmC l)) i i (tr W H l ss i q k).q (.sl (decide (rnC W H (czF l) ss=[])) (rnC W H (czF l) ss).length (lgC (rnC W H (czF l) ss))) (.lop true .nrm (TM24 X) [59,60] AS24 BO24) (tr W H l ss i q k).b v G) (hK:∀ v' G', G.length≤G'.length→TH (.sl c l.length (fmC l)) i i (tr W H l ss i q (k+1)).q (.sl (decide (rnC W H (czF l) ss=[])) (rnC W H (czF l) ss).length (lgC (rnC W H (czF l) ss))) (.lop true .nrm (TM24 X) [59,60] AS24 BO24) (tr W H l ss i q (k+1)).b v' G' → K (.bool true) G') (h1:s.k=1) (hkp:Q37 s i ((tr W H l ss i q k).q % W:Nat) ((tr W H l ss i q k).q / W:Nat)=false) (ha:s.a=0) (hb:s.b=0):CallP FB md 0 (.yld 6) [.int .i64 ((ss.length - (k+1):Nat):Int),.agg (spV s)] G K:=by
 have hnn:=o.nn
 have hn12:=o.n12
 have hn0:=o.n0
 have o3:=o.w
 have o4:=o.h
 obtain ⟨f0,hf0,h0w,_,h0p⟩:=o.at o.n0
 obtain ⟨b0,_,b2⟩:=fm_c hf0
 rw [h0w] at b0
 rw [h0p] at b2
 unfold TM24 AS24 BO24 at *
 generalize hxe:(tr W H l ss i q k).q=x at *
 have hGl:=hS.le
 have hsp:=p s (List.mem_of_getElem? hcs)
 have hDx:=hS.app (x:=.blk (spV s) false) rfl
 have hlb:=Q04 hDx.cl (Q0g hDx.lop)
 have hlopx:=hDx.lop
 refine Q1v hS.lop (Nat.zero_le _) rfl ?_
 repeat' (first
 | (conv=>whnf)
   first
   | refine fLen.mk ?_
   | refine fB.i0 ?_
   | refine fB.i1 ?_
   | refine Get.newj 0 rfl rfl ?_
   | refine fB.newj 0 rfl ?_
   | refine ⟨rfl,?_⟩
   | refine Get.mk _ hlopx ?_
   | (refine Req.mk ?_ ?_;(focus first | rfl | decide | exact ⟨rfl,rfl⟩ | exact ⟨rfl,by decide⟩ | exact (fun _=>rfl) | exact (fun h=>nomatch h) | (simp;done) | omega | (simp [big];done) | exact Q02 (by omega) | exact Q01 (by omega))))
 all_goals try (exfalso;omega;done)
 refine fB.lopT hDx hlb ?_
 intro G2 g1 g2 hD2
 rw [List.length_append] at g1
 have hx2:bget G2 (G.length+0+0)=some (.blk (spV s) false):=(g2 _ (by omega)).trans (bget_new (i:=0))
 have hb0:=hD2.b0
 have hb1:=hD2.b1
 have hb2:=hD2.b2
 have hlk:∀ {K:V→List B→Prop},K (.tup []) (G2++[.blk (wkC s c l i (x % W:Nat) (x / W:Nat) x) false])→CallP FB md 0 (.fn 43 []) [.ref (G2.length+0) 13 0,.int .i64 (i:Nat),.int .i64 (x:Nat)] (G2++[.blk (wkC s c l 0 0 0 0) false]) K:=fun {K} h=>Q2t o hx (bget_new (i:=0)) (by rw [Nat.add_zero,Q3o];exact h)
 have hD3:=hD2.app (x:=.blk (wkC s c l i (x % W:Nat) (x / W:Nat) x) false) rfl
 have hw3:bget (G2++[.blk (wkC s c l i (x % W:Nat) (x / W:Nat) x) false]) (G2.length+0)=some (.blk (wkC s c l i (x % W:Nat) (x / W:Nat) x) false):=bget_new (i:=0)
 have hx3:=bget_app (g:=[.blk (wkC s c l i (x % W:Nat) (x / W:Nat) x) false]) hx2
 have hl3:G.length≤(G2++[B.blk (wkC s c l i (x % W:Nat) (x / W:Nat) x) false]).length:=by rw [List.length_append,g1];omega
 generalize hG3:G2++[B.blk (wkC s c l i (x % W:Nat) (x / W:Nat) x) false]=G3 at *
 have c0:=hD3.b0
 have c1:=hD3.b1
 have c2:=hD3.b2
 have c3:=hD3.b3
 have c5:=hD3.b5
 have hk53:=Q3y (s:=s) (c:=c) (l:=l) (i:=i) (x:=(x % W:Nat)) (y:=(x / W:Nat)) (n:=x) hsp.kp
 have hfin:∀ {v' : V} {G4:List B} {lp' : B},G.length≤G4.length→TH (.sl c l.length (fmC l)) i i (tr W H l ss i q (k+1)).q (lgL (rnC W H (czF l) ss)) lp' (tr W H l ss i q (k+1)).b v' G4→K (.bool true) (bset (trunc G.length [] G4) 6 _):=fun h1 h2=>hK _ _ (Qal hS h1 h2).1 (Qal hS h1 h2).2
 rw [hkp] at hk53
 have hyy:tY (fK W H l ss (ss.length - (k+1))) W H s i (tr W H l ss i q k).q=false:=by
  rw [hxe];unfold tY;rw [if_pos h1,hkp,decide_eq_true ha,decide_eq_true hb];rfl
 have htr:=tr_no (W:=W) (H:=H) (l:=l) (i:=i) (q:=q) hcs hyy
 rw [htr,hxe] at hfin
 focus
  repeat' (first
 | (conv=>whnf)
   first
   | refine Br.t ?_
   | refine Br.f ?_
   | (refine Br.decT ?_ ?_;(focus first | assumption | omega))
   | refine Br.not ?_
   | refine fLen.mk ?_
   | refine fB.i0 ?_
   | refine fB.i1 ?_
   | refine Get.mk _ (bget_app hx2) ?_
   | refine Get.mk _ (bget_app hb0) ?_
   | refine Get.mk _ (bget_app hb1) ?_
   | refine Get.mk _ (bget_app hb2) ?_
   | refine Get.mk _ hx3 ?_
   | refine Get.newj 0 rfl rfl ?_
   | refine fB.newj 0 rfl ?_
   | refine hlk ?_
   | refine Q00 rfl (Q1k hw3) hk53 (.inr rfl) ?_
   | refine fB.mk ?_
   | refine Get.mk _ rfl ?_
   | (refine Req.mk ?_ ?_;(focus first | rfl | decide | exact ⟨rfl,rfl⟩ | exact ⟨rfl,by decide⟩ | exact (fun _=>rfl) | exact (fun h=>nomatch h) | (simp;done) | omega | (simp [big];done) | exact Q02 (by omega) | exact Q01 (by omega))))
  all_goals try (exfalso;omega;done)
  exact hfin hl3 hD3
set_option maxRecDepth 100000 in
set_option maxHeartbeats 20000000 in
theorem Qc6 {X:Nat→V} {c:Bool} {l:List Fm} {W H:Nat} {ss:List Sp} {i q k:Nat} {s:Sp} {v:V} {G:List B} {K:V→List B→Prop} (o:FOk l W H) (hL:ss.length≤20) (p:∀ s∈ss,SOk s l.length W H) (hi:i<l.length) (hk:k<ss.length) (hcs:ss[ss.length - (k+1)]?=some s) (hok1:trOk W H l ss i q k) (hx:(tr W H l ss i q k).q<W * H) (hS:TH (.sl c l.length (fmC l)) i i (tr W H l ss i q k).q (.sl (decide (rnC W H (czF l) ss=[])) (rnC W H (czF l) ss).length (lgC (rnC W H (czF l) ss))) (.lop true .nrm (TM24 X) [59,60] AS24 BO24) (tr W H l ss i q k).b v G) (hK:∀ v' G', G.length≤G'.length→TH (.sl c l.length (fmC l)) i i (tr W H l ss i q (k+1)).q (.sl (decide (rnC W H (czF l) ss=[])) (rnC W H (czF l) ss).length (lgC (rnC W H (czF l) ss))) (.lop true .nrm (TM24 X) [59,60] AS24 BO24) (tr W H l ss i q (k+1)).b v' G' → K (.bool true) G') (h1:¬ s.k=1):CallP FB md 0 (.yld 6) [.int .i64 ((ss.length - (k+1):Nat):Int),.agg (spV s)] G K:=by
 have hnn:=o.nn
 have hn12:=o.n12
 have hn0:=o.n0
 have o3:=o.w
 have o4:=o.h
 obtain ⟨f0,hf0,h0w,_,h0p⟩:=o.at o.n0
 obtain ⟨b0,_,b2⟩:=fm_c hf0
 rw [h0w] at b0
 rw [h0p] at b2
 unfold TM24 AS24 BO24 at *
 generalize hxe:(tr W H l ss i q k).q=x at *
 have hGl:=hS.le
 have hsp:=p s (List.mem_of_getElem? hcs)
 have hDx:=hS.app (x:=.blk (spV s) false) rfl
 have hlb:=Q04 hDx.cl (Q0g hDx.lop)
 have hlopx:=hDx.lop
 refine Q1v hS.lop (Nat.zero_le _) rfl ?_
 repeat' (first
 | (conv=>whnf)
   first
   | refine fLen.mk ?_
   | refine fB.i0 ?_
   | refine fB.i1 ?_
   | refine Get.newj 0 rfl rfl ?_
   | refine fB.newj 0 rfl ?_
   | refine ⟨rfl,?_⟩
   | refine Get.mk _ hlopx ?_
   | (refine Req.mk ?_ ?_;(focus first | rfl | decide | exact ⟨rfl,rfl⟩ | exact ⟨rfl,by decide⟩ | exact (fun _=>rfl) | exact (fun h=>nomatch h) | (simp;done) | omega | (simp [big];done) | exact Q02 (by omega) | exact Q01 (by omega))))
 all_goals try (exfalso;omega;done)
 refine fB.lopT hDx hlb ?_
 intro G2 g1 g2 hD2
 rw [List.length_append] at g1
 have hx2:bget G2 (G.length+0+0)=some (.blk (spV s) false):=(g2 _ (by omega)).trans (bget_new (i:=0))
 have hb0:=hD2.b0
 have hb1:=hD2.b1
 have hb2:=hD2.b2
 have hlk:∀ {K:V→List B→Prop},K (.tup []) (G2++[.blk (wkC s c l i (x % W:Nat) (x / W:Nat) x) false])→CallP FB md 0 (.fn 43 []) [.ref (G2.length+0) 13 0,.int .i64 (i:Nat),.int .i64 (x:Nat)] (G2++[.blk (wkC s c l 0 0 0 0) false]) K:=fun {K} h=>Q2t o hx (bget_new (i:=0)) (by rw [Nat.add_zero,Q3o];exact h)
 have hD3:=hD2.app (x:=.blk (wkC s c l i (x % W:Nat) (x / W:Nat) x) false) rfl
 have hw3:bget (G2++[.blk (wkC s c l i (x % W:Nat) (x / W:Nat) x) false]) (G2.length+0)=some (.blk (wkC s c l i (x % W:Nat) (x / W:Nat) x) false):=bget_new (i:=0)
 have hx3:=bget_app (g:=[.blk (wkC s c l i (x % W:Nat) (x / W:Nat) x) false]) hx2
 have hl3:G.length≤(G2++[B.blk (wkC s c l i (x % W:Nat) (x / W:Nat) x) false]).length:=by rw [List.length_append,g1];omega
 generalize hG3:G2++[B.blk (wkC s c l i (x % W:Nat) (x / W:Nat) x) false]=G3 at *
 have c0:=hD3.b0
 have c1:=hD3.b1
 have c2:=hD3.b2
 have c3:=hD3.b3
 have c5:=hD3.b5
 have hk53:=Q3y (s:=s) (c:=c) (l:=l) (i:=i) (x:=(x % W:Nat)) (y:=(x / W:Nat)) (n:=x) hsp.kp
 have hfin:∀ {v' : V} {G4:List B} {lp' : B},G.length≤G4.length→TH (.sl c l.length (fmC l)) i i (tr W H l ss i q (k+1)).q (lgL (rnC W H (czF l) ss)) lp' (tr W H l ss i q (k+1)).b v' G4→K (.bool true) (bset (trunc G.length [] G4) 6 _):=fun h1 h2=>hK _ _ (Qal hS h1 h2).1 (Qal hS h1 h2).2
 have hjl:ss.length - (k+1)<ss.length:=by omega
 have hlc:(rnC W H (czF l) ss)[ss.length - (k+1)]?=some (doC (fK W H l ss (ss.length - (k+1))) W H s):=Qc9 hcs
 have hcl:=(Qca (Q52 o) _ (List.mem_of_getElem? hlc)).2
 have hla:=Qj5 hlc
 have hFo:FOk (fK W H l ss (ss.length - (k+1))) W H:=Q6o (Q52 o)
 have hFl:(fK W H l ss (ss.length - (k+1))).length=l.length:=by unfold fK;rw [Q2m,Q0u]
 obtain ⟨f,hf,_,_,hfp⟩:=hFo.at (i:=i) (by omega)
 have hya:=tY_any (W:=W) (H:=H) (s:=s) (i:=i) (q:=x) h1 hf (by omega)
 have k56:=atA_ok (i:=i) (q:=x) (z:=i) (d:=decide (doC (fK W H l ss (ss.length - (k+1))) W H s=[])) hcl
 have hcl2:(rnC W H (czF l) ss).length=ss.length:=Q21
 have hil:ss.length - (k+1)≤(rnC W H (czF l) ss).length - 1:=by omega
 have h0l:0<(rnC W H (czF l) ss).length:=by omega
 unfold cgL at hla
 have htr:=Qlk (W:=W) (H:=H) (l:=l) (i:=i) (q:=q) hcs
 rw [hxe,hya,if_neg h1] at htr
 have hbl:=Qak (W:=W) (H:=H) (l:=l) (ss:=ss) (i:=i) (q:=q) (k:=k)
 have hvw:=Qnm (d:=decide (doC (fK W H l ss (ss.length - (k+1))) W H s=[])) (n:=(doC (fK W H l ss (ss.length - (k+1))) W H s).length) (k:=cgC (doC (fK W H l ss (ss.length - (k+1))) W H s)) c1 c2
 cases hC:(doC (fK W H l ss (ss.length - (k+1))) W H s).any (atB i x) with
 | false =>
  rw [hC] at k56 htr
  rw [if_neg (by decide)] at htr
  rw [htr,hxe] at hfin
  generalize Q37 s i (x % W:Nat) (x / W:Nat)=kb at hk53
  generalize doC (fK W H l ss (ss.length - (k+1))) W H s=D at *
  generalize ss.length - (k+1)=j at *
  focus
   repeat' (first
 | (conv=>whnf)
   first
   | refine Br.f ?_
   | (refine Br.decF ?_ ?_;(focus first | assumption | omega))
   | refine Br.not ?_
   | refine fLen.mk ?_
   | refine fB.i0 ?_
   | refine fB.i1 ?_
   | refine Get.mk _ (bget_app hx2) ?_
   | refine Get.mk _ (bget_app hb0) ?_
   | refine Get.mk _ (bget_app hb1) ?_
   | refine Get.mk _ (bget_app hb2) ?_
   | refine Get.mk _ hx3 ?_
   | refine Get.newj 0 rfl rfl ?_
   | refine fB.newj 0 rfl ?_
   | refine hlk ?_
   | refine Get.mk _ c5 ?_
   | refine Get.mk _ hla ?_
   | refine Idx.nat hil ?_
   | refine Req.mk h0l ?_
   | refine Q00 rfl hvw k56 (.inr rfl) ?_
   | refine fB.mk ?_
   | refine Get.mk _ rfl ?_
   | (refine Req.mk ?_ ?_;(focus first | rfl | decide | exact ⟨rfl,rfl⟩ | exact ⟨rfl,by decide⟩ | exact (fun _=>rfl) | exact (fun h=>nomatch h) | (simp;done) | omega | (simp [big];done) | exact Q02 (by omega) | exact Q01 (by omega))))
   all_goals try (exfalso;omega;done)
   exact hfin hl3 hD3
 | true =>
  rw [hC] at k56 htr
  rw [if_pos rfl] at htr
  rw [htr] at hfin
  generalize Q37 s i (x % W:Nat) (x / W:Nat)=kb at hk53
  generalize doC (fK W H l ss (ss.length - (k+1))) W H s=D at *
  rcases hS.il.frm with rfl | ⟨r,rfl⟩
  ·have hbe:(tr W H l ss i q k).b=[]:=by
    rcases hD3.il with h | ⟨_,_,_,h,_⟩
    ·exact h.1
    ·cases h
   rw [hbe] at hD3 hfin
   generalize ss.length - (k+1)=j at *
   focus
    repeat' (first
 | (conv=>whnf)
   first
   | refine Br.t ?_
   | refine Br.f ?_
   | (refine Br.decF ?_ ?_;(focus first | assumption | omega))
   | refine Br.not ?_
   | refine fLen.mk ?_
   | refine fB.i0 ?_
   | refine fB.i1 ?_
   | refine Get.mk _ (bget_app hx2) ?_
   | refine Get.mk _ (bget_app hb0) ?_
   | refine Get.mk _ (bget_app hb1) ?_
   | refine Get.mk _ (bget_app hb2) ?_
   | refine Get.mk _ hx3 ?_
   | refine Get.newj 0 rfl rfl ?_
   | refine fB.newj 0 rfl ?_
   | refine hlk ?_
   | refine Get.mk _ (bget_app c3) ?_
   | refine Req.mk (bget_new (i:=0)) ?_
   | (refine fB.put0T hD3 ?_;intro G5 g5 g6 hD5)
   | refine Get.mk _ c5 ?_
   | refine Get.mk _ hla ?_
   | refine Idx.nat hil ?_
   | refine Req.mk h0l ?_
   | refine Q00 rfl hvw k56 (.inr rfl) ?_
   | refine fB.mk ?_
   | (refine Ifz.pos ?_ ?_;(focus omega))
   | refine Get.mk _ rfl ?_
   | (refine Req.mk ?_ ?_;(focus first | rfl | decide | exact ⟨rfl,rfl⟩ | exact ⟨rfl,by decide⟩ | exact (fun _=>rfl) | exact (fun h=>nomatch h) | (simp;done) | omega | (simp [big];done) | exact Q02 (by omega) | exact Q01 (by omega))))
    all_goals try (exfalso;omega;done)
    exact hfin (show G.length≤G5.length by omega) hD5
  ·obtain ⟨r7,rG,_,_,_⟩:=hS.at rfl
   obtain ⟨_,_,_,_,hr4⟩:=hD3.at rfl
   generalize (tr W H l ss i q k).b=bl at *
   generalize ss.length - (k+1)=j at *
   have hol:(Q06 bl).length=bl.length:=by simp [Q06]
   have hqs:0+bl.length=bl.length∧((Q06 bl).length+[V.int .i64 ((j:Nat):Int)].length) * (8+1)<big:=⟨Nat.zero_add _,by rw [hol];unfold big;simp;omega⟩
   have hc3r:∀ b', bget (bset (G3++[.unborn]) r b') (0+3)=some (.blk [.ms 1 r bl.length 0 bl.length false] false):=fun b' => (bset_other (by omega)).trans (bget_app c3)
   focus
    repeat' (first
 | (conv=>whnf)
   first
   | refine Br.t ?_
   | refine Br.f ?_
   | (refine Br.decF ?_ ?_;(focus first | assumption | omega))
   | refine Br.not ?_
   | refine fLen.mk ?_
   | refine fB.i0 ?_
   | refine fB.i1 ?_
   | refine Get.mk _ (bget_app hx2) ?_
   | refine Get.mk _ (bget_app hb0) ?_
   | refine Get.mk _ (bget_app hb1) ?_
   | refine Get.mk _ (bget_app hb2) ?_
   | refine Get.mk _ hx3 ?_
   | refine Get.newj 0 rfl rfl ?_
   | refine fB.newj 0 rfl ?_
   | refine hlk ?_
   | refine Get.mk _ (bget_app c3) ?_
   | refine Get.mk _ (bget_app hr4) ?_
   | refine Get.mk _ (hc3r _) ?_
   | refine Req.mk hol ?_
   | (refine fB.putST hD3 rfl ?_;intro G5 g5 g6 hD5)
   | refine Get.mk _ c5 ?_
   | refine Get.mk _ hla ?_
   | refine Idx.nat hil ?_
   | refine Req.mk h0l ?_
   | refine Q00 rfl hvw k56 (.inr rfl) ?_
   | refine fB.mk ?_
   | (refine Ifz.pos ?_ ?_;(focus omega))
   | refine Get.mk _ rfl ?_
   | (refine Req.mk ?_ ?_;(focus first | rfl | decide | exact ⟨rfl,rfl⟩ | exact ⟨rfl,by decide⟩ | exact (fun _=>rfl) | exact (fun h=>nomatch h) | (simp;done) | omega | (simp [big];done) | exact Q02 (by omega) | exact Q01 (by omega))))
    all_goals try (exfalso;omega;done)
    exact hfin (show G.length≤G5.length by omega) hD5
end Go.Dr.T
