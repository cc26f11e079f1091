/- Chapter 08: law RestoreTraced. -/
import Derived.Test.YthihdpbgmhnloaaGreatDoorG18
import Derived.Test.YthihdpbgmhnloaaGreatDoorG1
import Derived.Test.YthihdpbgmhnloaaGreatDoorDrE
import Derived.Test.YthihdpbgmhnloaaGreatDoorG2
import Derived.Test.YthihdpbgmhnloaaGreatDoorG4
import Derived.Test.YthihdpbgmhnloaaGreatDoorG0
import Derived.Lib.LaidTab
namespace Go.Dr.T
structure SMI where
 t:Nat
 v:V
 G:List B
theorem eq_at {a b:Int}:eqc [0,0] [.int .i64 a,.int .i64 b] [.int .i64 a,.int .i64 b]=some true:=by simp [eqc,eq1]
theorem smF_mem {W H:Nat} {l:List Fm} {ss:List Sp} {i q:Nat} {R:TrR} (A:TrA W H l ss i q R):∀ s∈smF ss R.by', s∈ss:=fun s hs=>by
 unfold smF at hs
 obtain ⟨x,h1,rfl⟩:=List.mem_map.1 hs
 obtain ⟨j,s,rfl,h2,_⟩:=A.step x h1
 rw [sAt_eq h2]
 exact List.mem_of_getElem? h2
set_option maxRecDepth 100000 in
set_option maxHeartbeats 20000000 in
theorem traced_bad {c d:Bool} {l:List Fm} {ss:List Sp} {x y:Int} (h:(csE l ss).2≠0∨∃ W H,FOk l W H∧(csE l ss).2=0∧(outB x 0 ((l.length:Int) - 1)=true∨outB y 0 (((W * H:Nat):Int) - 1)=true)):Fun FB1 md 8 [.sl c l.length (fmC l),.sl d ss.length (spC ss),.agg [.int .i64 x,.int .i64 y]] (.bool true):=by
 have k9:=awake
 have heq:=eq_at (a:=0) (b:=0)
 obtain ⟨e,f,C,D,he,k1,k2⟩:∃ (e f:Int) (C D:V),(e≠0)∧Fun FB1 md 24 [.sl c l.length (fmC l),.sl d ss.length (spC ss),.int .i64 x,.int .i64 y] (.tup [.agg [.int .i64 0,.int .i64 0],.sl true 0 [],.int .i64 e])∧∃ (n:Nat) (Q:List V) (g:Bool) (m:Nat) (Q2:List V) (g2:Bool),C = .sl g n Q∧D = .sl g2 m Q2∧Fun FB1 md 20 [.sl c l.length (fmC l),.sl d ss.length (spC ss)] (.tup [.sl g n Q,.sl g2 m Q2,.int .i64 f]):=by
  rcases h with h | ⟨W,H,o,he,h⟩
  ·exact ⟨_,_,_,_,h,tabF (FunF.fun (trace_bad h)),_,_,_,_,_,_,rfl,rfl,tabF (run_bad h)⟩
  ·obtain ⟨W', H', o', h20,p⟩:=csE_zero he
   exact ⟨4,_,_,_,by decide,tabF (FunF.fun (trace_none o he h)),_,_,_,_,_,_,rfl,rfl,tabF (run_ok o' h20 p he)⟩
 obtain ⟨n,Q,g,m,Q2,g2,rfl,rfl,k2⟩:=k2
 refine fun_of rfl rfl ?_
 repeat' (first
 | (conv=>whnf)
   first
   | refine Br.t ?_
   | (refine Br.decF ?_ ?_;(focus first | assumption | omega))
   | refine Br.not ?_
   | refine Get.mk _ heq ?_
   | refine call_fun rfl rfl k1 (.inl rfl) ?_
   | refine call_fun rfl rfl k2 (.inl rfl) ?_
   | refine call_fun rfl rfl k9 (.inl rfl) ?_
   | refine Get.mk _ rfl ?_
   | refine Leaves.of ?_
   | refine Vw.bool ?_
   | (refine Req.mk ?_ ?_;(focus first | rfl | decide | exact ⟨rfl,rfl⟩ | exact ⟨rfl,by decide⟩ | exact (fun _=>rfl) | exact (fun h=>nomatch h) | (simp;done) | omega | (simp [big];done) | exact le_big (by omega) | exact lt_big (by omega))))
 all_goals first | rfl | (exfalso;omega;done)
set_option maxRecDepth 100000 in
set_option maxHeartbeats 20000000 in
theorem traced_ok {c d:Bool} {l:List Fm} {ss:List Sp} {W H i q:Nat} (o:FOk l W H) (h20:ss.length≤20) (p:∀ s∈ss,SOk s l.length W H) (he:(csE l ss).2=0) (hi:i<l.length) (hq:q<W * H):Fun FB1 md 8 [.sl c l.length (fmC l),.sl d ss.length (spC ss),.agg [.int .i64 (i:Nat),.int .i64 (q:Nat)]] (.bool true):=by
 have k9:=awake
 have A:=trA (ss:=ss) o hi hq
 have k1:=FunF.fun (trace_law (c:=c) (d:=d) o h20 p he hi hq)
 have k2:=tabF (run_ok (c:=c) (d:=d) o h20 p he)
 have hsm:=smF_mem A
 have hsl:(smF ss (trR W H l ss i q).by').length≤20:=by rw [smF_len];have:=A.len;omega
 have he2:=csE_of (F:=l) he o o rfl hsm hsl
 have k3:=fun d=>trace_law (c:=c) (d:=d) o hsl (fun s hs=>p s (hsm s hs)) he2 hi hq
 obtain ⟨B1,B2,_⟩:=trR_alone (W:=W) (H:=H) (ss:=ss) (q:=q) hi
 rw [B1,B2] at k3
 generalize (trR W H l (smF ss (trR W H l ss i q).by') i q).by' = by2 at k3
 generalize trR W H l ss i q=R at *
 obtain ⟨ra,rb,L,re⟩:=R
 obtain ⟨a1,a2,a3,a4,a5⟩:=A
 dsimp only at a1 a2 a3 a4 a5 k1 k3 hsm hsl
 have hFl:(rnF W H (czF l) ss).length=l.length:=by rw [rnF_len,czF_len]
 have hFo:FOk (rnF W H (czF l) ss) W H:=rnF_ok (czF_ok o)
 have hfk:fK W H l ss ss.length=rnF W H (czF l) ss:=by unfold fK;rw [List.take_length]
 rw [hfk] at a5
 obtain ⟨f,hf,_,_,hfp⟩:=o.at hi
 obtain ⟨g,hg,_,_,hgp⟩:=hFo.at (i:=i) (by omega)
 obtain ⟨_,_,f2⟩:=fm_c hf
 obtain ⟨_,_,g2⟩:=fm_c hg
 rw [pxL_at hf,pxL_at hg] at a5
 have hn12:=o.n12
 have hn0:=o.n0
 have hnn:=o.nn
 have hil:i≤l.length - 1:=by omega
 generalize rnF W H (czF l) ss=F at *
 generalize rnC W H (czF l) ss=C at *
 unfold inL at k1 k3
 unfold lgL at k2
 have hil2:i≤F.length - 1:=by omega
 have hF0:0<F.length:=by omega
 have hqf:q≤f.p.length - 1:=by omega
 have hqg:q≤g.p.length - 1:=by omega
 have hf0:0<f.p.length:=by omega
 have hg0:0<g.p.length:=by omega
 refine fun_of rfl rfl ?_
 repeat' (first
 | (conv=>whnf)
   first
   | refine Br.f ?_
   | (refine Br.decF ?_ ?_;(focus first | assumption | omega))
   | refine Get.mk _ f2 ?_
   | refine Get.mk _ g2 ?_
   | refine Idx.nat hil ?_
   | refine Req.mk hn0 ?_
   | refine call_fun rfl rfl k1 (.inl rfl) ?_
   | refine call_fun rfl rfl k2 (.inl rfl) ?_
   | refine Get.mk _ rfl ?_
   | (refine Req.mk ?_ ?_;(focus first | rfl | decide | exact ⟨rfl,rfl⟩ | exact ⟨rfl,by decide⟩ | exact (fun _=>rfl) | exact (fun h=>nomatch h) | (simp;done) | omega | (simp [big];done) | exact le_big (by omega) | exact lt_big (by omega))))
 all_goals try (exfalso;omega;done)
 refine LoopP.by (fun a:SMI=>a.t≤L.length∧SM (i:Nat) (q:Nat) ra rb ss L a.t a.v a.G) (fun a=>[(13,.bool (mvB ss L a.t)),(14,a.v),(15,.int .i64 (a.t:Nat))]) (fun a=>a.G) (fun a=>L.length - a.t) ⟨0,.nilsl,_⟩ ⟨Nat.zero_le _,?_,?_,rfl,rfl,.inl ⟨rfl,rfl⟩⟩ rfl ?_
 ·rfl
 ·exact Nat.le_refl 2
 rintro ⟨t,sv,G⟩ ⟨w1,w2⟩
 dsimp only at w1 w2 ⊢
 have hGl:=w2.le
 have d0:=w2.b0
 have d1:=w2.b1
 by_cases hk:t<L.length
 ·obtain ⟨z,hz⟩:∃ z,L[t]?=some z:=⟨_,List.getElem?_eq_getElem hk⟩
  obtain ⟨j,s,rfl,hs,hout⟩:=a3 z (List.mem_of_getElem? hz)
  have hjl:=(List.getElem?_eq_some_iff.1 hs).1
  have hza:=ints_at hz
  have hp:=spC_part hs
  have hsa:=sAt_eq hs
  have hk0:cellAt (spC ss) (j * 8+0)=some (.int .i64 s.k):=drop_cell (spC_drop hs) rfl
  have k30:=kept_none (i:=i) (p s (List.mem_of_getElem? hs)) hout
  have hjs:j≤ss.length - 1:=by omega
  have hs0:0<ss.length:=by omega
  have htl:t≤L.length - 1:=by omega
  have hL0:0<L.length:=by omega
  have htw:IntKind.i64.wrap ((t:Int)+1)=((t+1:Nat):Int):=by rw [wrap_i64 (by omega) (by omega)];omega
  have hmv:=mvB_next (ss:=ss) hz
  rw [hsa] at hmv
  rcases w2.tv with ⟨rfl,rfl⟩ | ⟨r,r1,r2,r3,rfl,r5⟩
  ·have hf:=w2.first hz
   rw [hsa] at hf
   have hM:mvB ss L 0=true:=rfl
   rw [hM]
   repeat' (first
 | (conv=>whnf)
   first
   | refine Bnd.eq htw ?_
   | refine Br.t ?_
   | refine Br.f ?_
   | (refine Br.decT ?_ ?_;(focus first | assumption | omega))
   | (refine Br.decF ?_ ?_;(focus first | assumption | omega))
   | refine fLen.mk ?_
   | refine fB.i0 ?_
   | refine fB.i1 ?_
   | refine Get.mk _ hza ?_
   | refine Get.mk _ hp ?_
   | refine Get.mk _ hk0 ?_
   | refine Get.mk _ d0 ?_
   | refine Idx.nat htl ?_
   | refine Idx.nat hjs ?_
   | refine Req.mk hL0 ?_
   | refine Req.mk hs0 ?_
   | refine call_fun rfl rfl k30 (.inl rfl) ?_
   | refine Req.mk (bget_new (i:=1)) ?_
   | refine Get.mk _ (bget_new (i:=1)) ?_
   | refine fB.newj 1 rfl ?_
   | refine fB.mk ?_
   | (refine Ifz.pos ?_ ?_;(focus omega))
   | refine Get.mk _ rfl ?_
   | (refine Req.mk ?_ ?_;(focus first | rfl | decide | exact ⟨rfl,rfl⟩ | exact ⟨rfl,by decide⟩ | exact (fun _=>rfl) | exact (fun h=>nomatch h) | (simp;done) | omega | (simp [big];done) | exact le_big (by omega) | exact lt_big (by omega))))
   all_goals try (exfalso;omega;done)
   have hmv1:mvB ss L 1=decide (s.k=1):=by have h:=hmv;rw [hM] at h;simpa using h
   exact NextP.of (fun h=>SMI.mk 1 (.ms 8 (G.length+1) 8 0 1 false) h) ⟨hk,hf.norm (j:=14) (by exact Nat.le_refl _) (by rw [List.length_append];show 2≤_;omega) rfl⟩ (by dsimp only;omega) (by dsimp only;rw [hmv1];rfl)
  ·have hf:=w2.more hz
   rw [hsa] at hf
   obtain ⟨y,hy⟩:∃ y,L[t - 1]?=some y:=⟨_,List.getElem?_eq_getElem (by omega)⟩
   obtain ⟨jy,sy,rfl,hsy,_⟩:=a3 y (List.mem_of_getElem? hy)
   have hya:=ints_at hy
   have hlt:(jy:Int)<(j:Int):=by
    have h1:=List.pairwise_iff_getElem.1 a4 (t - 1) t (by omega) hk (by omega)
    rw [List.getElem?_eq_some_iff] at hy hz
    obtain ⟨_,h2⟩:=hy
    obtain ⟨_,h3⟩:=hz
    rw [h2,h3] at h1
    exact h1
   have htm:IntKind.i64.wrap ((t:Int) - 1)=((t - 1:Nat):Int):=by rw [wrap_i64 (by omega) (by omega)];omega
   have htl2:t - 1≤L.length - 1:=by omega
   have hsl8:(spC (smF ss (L.take t))).length=t * 8:=by rw [spC_length,smF_len,List.length_take,Nat.min_eq_left w1]
   have hsz8:∀ {z:List V},z.length=8→0+t * 8=t * 8∧((spC (smF ss (L.take t))).length+z.length) * (96+1)<big:=fun {z} h=>⟨by omega,by rw [hsl8,h];unfold big;omega⟩
   have hsz8:=hsz8 (z:=spV s) rfl
   cases hM:mvB ss L t with
   | true =>
    repeat' (first
 | (conv=>whnf)
   first
   | refine Bnd.eq htw ?_
   | refine Bnd.eq htm ?_
   | refine Br.t ?_
   | refine Br.f ?_
   | (refine Br.decT ?_ ?_;(focus first | assumption | omega))
   | (refine Br.decF ?_ ?_;(focus first | assumption | omega))
   | refine fLen.mk ?_
   | refine fB.i0 ?_
   | refine fB.i1 ?_
   | refine Get.mk _ hza ?_
   | refine Get.mk _ hya ?_
   | refine Get.mk _ (bget_app r5) ?_
   | refine Req.mk hsl8 ?_
   | refine Req.mk hsz8 ?_
   | refine Get.mk _ hp ?_
   | refine Get.mk _ hk0 ?_
   | refine Get.mk _ d0 ?_
   | refine Idx.nat htl ?_
   | refine Idx.nat htl2 ?_
   | refine Idx.nat hjs ?_
   | refine Req.mk hL0 ?_
   | refine Req.mk hs0 ?_
   | refine call_fun rfl rfl k30 (.inl rfl) ?_
   | refine fB.mk ?_
   | (refine Ifz.pos ?_ ?_;(focus omega))
   | refine Get.mk _ rfl ?_
   | (refine Req.mk ?_ ?_;(focus first | rfl | decide | exact ⟨rfl,rfl⟩ | exact ⟨rfl,by decide⟩ | exact (fun _=>rfl) | exact (fun h=>nomatch h) | (simp;done) | omega | (simp [big];done) | exact le_big (by omega) | exact lt_big (by omega))))
    all_goals try (exfalso;omega;done)
    have hmv1:mvB ss L (t+1)=decide (s.k=1):=by have h:=hmv;rw [hM] at h;simpa using h
    exact NextP.of (fun h=>SMI.mk (t+1) (.ms 8 r (t * 8+8) 0 (t+1) false) h) ⟨hk,hf.norm (j:=14) (by exact Nat.le_refl _) (by rw [bset_len,List.length_append];show 2≤_;omega) rfl⟩ (by dsimp only;omega) (by dsimp only;rw [hmv1];rfl)
   | false =>
    repeat' (first
 | (conv=>whnf)
   first
   | refine Bnd.eq htw ?_
   | refine Bnd.eq htm ?_
   | refine Br.f ?_
   | (refine Br.decT ?_ ?_;(focus first | assumption | omega))
   | (refine Br.decF ?_ ?_;(focus first | assumption | omega))
   | refine fLen.mk ?_
   | refine fB.i0 ?_
   | refine fB.i1 ?_
   | refine Get.mk _ hza ?_
   | refine Get.mk _ hya ?_
   | refine Get.mk _ (bget_app r5) ?_
   | refine Req.mk hsl8 ?_
   | refine Req.mk hsz8 ?_
   | refine Get.mk _ hp ?_
   | refine Get.mk _ d0 ?_
   | refine Idx.nat htl ?_
   | refine Idx.nat htl2 ?_
   | refine Idx.nat hjs ?_
   | refine Req.mk hL0 ?_
   | refine Req.mk hs0 ?_
   | refine call_fun rfl rfl k30 (.inl rfl) ?_
   | refine fB.mk ?_
   | (refine Ifz.pos ?_ ?_;(focus omega))
   | refine Get.mk _ rfl ?_
   | (refine Req.mk ?_ ?_;(focus first | rfl | decide | exact ⟨rfl,rfl⟩ | exact ⟨rfl,by decide⟩ | exact (fun _=>rfl) | exact (fun h=>nomatch h) | (simp;done) | omega | (simp [big];done) | exact le_big (by omega) | exact lt_big (by omega))))
    all_goals try (exfalso;omega;done)
    have hmv1:mvB ss L (t+1)=false:=by have h:=hmv;rw [hM] at h;simpa using h
    exact NextP.of (fun h=>SMI.mk (t+1) (.ms 8 r (t * 8+8) 0 (t+1) false) h) ⟨hk,hf.norm (j:=14) (by exact Nat.le_refl _) (by rw [bset_len,List.length_append];show 2≤_;omega) rfl⟩ (by dsimp only;omega) (by dsimp only;rw [hmv1];rfl)
 obtain rfl:t=L.length:=by omega
 have w3:=w2.app (X:=[B.unborn]) ⟨rfl,trivial⟩
 obtain ⟨dv,hvv⟩:=w3.vw (d:=62)
 have k3:=k3 dv
 have hvw:views (G++[B.unborn]) depth [.sl c l.length (fmC l),sv,.int .i64 (i:Nat),.int .i64 (q:Nat)]=some [.sl c l.length (fmC l),.sl dv (smF ss L).length (spC (smF ss L)),.int .i64 (i:Nat),.int .i64 (q:Nat)]:=(VwL.cons Vw.sl (VwL.cons hvv (VwL.cons (Vw.int rfl) (VwL.cons (Vw.int rfl) VwL.nil)))).1
 have hsv:sv = .nilsl∨∃ r n m,sv = .ms 8 r n 0 m false:=by
  rcases w2.tv with ⟨_,h⟩ | ⟨r,_,_,_,h,_⟩
  ·exact .inl h
  ·exact .inr ⟨_,_,_,h⟩
 clear w3 hvv
 have heq:=eq_at (a:=ra) (b:=rb)
 have hmod:=fun h=>mvB_all (ss:=ss) (L:=L) h
 generalize mvB ss L L.length=M at *
 rcases a5 with ⟨rfl,rfl,hne⟩ | ⟨rfl,z,rfl,hz,hpx⟩
 ·have hne:0<L.length:=List.length_pos_iff.2 hne
  have heq2:=eq_at (a := -1) (b := -1)
  cases M
  all_goals
   rcases hsv with rfl | ⟨r,n,m,rfl⟩
   all_goals
    repeat' (first
 | (conv=>whnf)
   first
   | refine Br.t ?_
   | refine Br.f ?_
   | (refine Br.decF ?_ ?_;(focus first | assumption | omega))
   | refine Get.mk _ heq2 ?_
   | refine fLen.mk ?_
   | refine fB.i0 ?_
   | refine fB.i1 ?_
   | refine Get.mk _ d1 ?_
   | refine Get.mk _ (bget_app d0) ?_
   | refine Get.mk _ (bget_app d1) ?_
   | refine call_fresh rfl hvw k3 ?_
   | refine call_fun rfl rfl k9 (.inl rfl) ?_
   | refine Get.newj 0 rfl rfl ?_
   | refine fB.newj 0 rfl ?_
   | refine fB.mk ?_
   | refine Get.mk _ rfl ?_
   | refine Leaves.of ?_
   | refine Vw.bool ?_
   | (refine Req.mk ?_ ?_;(focus first | rfl | decide | exact ⟨rfl,rfl⟩ | exact ⟨rfl,by decide⟩ | exact (fun _=>rfl) | exact (fun h=>nomatch h) | (simp;done) | omega | (simp [big];done) | exact le_big (by omega) | exact lt_big (by omega))))
    all_goals first | rfl | (exfalso;omega;done)
 ·have heq2:eqc [0,0] [.int .i64 (i:Nat),.int .i64 (z:Nat)] [.int .i64 (-1),.int .i64 (-1)]=some false:=by simp [eqc,eq1]
  have hza:=pix_cell (p:=f.p) (n:=z) (by omega)
  have hqa:=pix_cell (p:=g.p) (n:=q) (by omega)
  have hzf:z≤f.p.length - 1:=by omega
  cases M with
  | true =>
   have hE:(((g.p.getD q 0).toNat:Nat):Int)=(((f.p.getD z 0).toNat:Nat):Int):=by rw [hpx (hmod rfl)]
   rcases hsv with rfl | ⟨r,n,m,rfl⟩
   all_goals
    repeat' (first
 | (conv=>whnf)
   first
   | refine Br.decT hE ?_
   | refine Br.t ?_
   | refine Br.f ?_
   | (refine Br.decT ?_ ?_;(focus first | assumption | omega))
   | (refine Br.decF ?_ ?_;(focus first | assumption | omega))
   | refine Br.not ?_
   | refine Get.mk _ heq2 ?_
   | refine Get.mk _ hza ?_
   | refine Get.mk _ hqa ?_
   | refine Idx.nat hzf ?_
   | refine fLen.mk ?_
   | refine fB.i0 ?_
   | refine fB.i1 ?_
   | refine Get.mk _ d0 ?_
   | refine Get.mk _ d1 ?_
   | refine Get.mk _ (bget_app d0) ?_
   | refine Get.mk _ (bget_app d1) ?_
   | refine Get.mk _ heq ?_
   | refine Get.mk _ f2 ?_
   | refine Get.mk _ g2 ?_
   | refine Idx.nat hil ?_
   | refine Idx.nat hqg ?_
   | refine Req.mk hn0 ?_
   | refine Req.mk hf0 ?_
   | refine Req.mk hg0 ?_
   | refine call_fresh rfl hvw k3 ?_
   | refine call_fun rfl rfl k9 (.inl rfl) ?_
   | refine Get.newj 0 rfl rfl ?_
   | refine fB.newj 0 rfl ?_
   | refine fB.mk ?_
   | refine Get.mk _ rfl ?_
   | refine Leaves.of ?_
   | refine Vw.bool ?_
   | (refine Req.mk ?_ ?_;(focus first | rfl | decide | exact ⟨rfl,rfl⟩ | exact ⟨rfl,by decide⟩ | exact (fun _=>rfl) | exact (fun h=>nomatch h) | (simp;done) | omega | (simp [big];done) | exact le_big (by omega) | exact lt_big (by omega))))
    all_goals first | rfl | (exfalso;omega;done)
  | false =>
   rcases hsv with rfl | ⟨r,n,m,rfl⟩
   all_goals
    repeat' (first
 | (conv=>whnf)
   first
   | refine Br.t ?_
   | refine Br.f ?_
   | (refine Br.decT ?_ ?_;(focus first | assumption | omega))
   | (refine Br.decF ?_ ?_;(focus first | assumption | omega))
   | refine Br.not ?_
   | refine Get.mk _ heq2 ?_
   | refine fLen.mk ?_
   | refine fB.i0 ?_
   | refine fB.i1 ?_
   | refine Get.mk _ d0 ?_
   | refine Get.mk _ d1 ?_
   | refine Get.mk _ (bget_app d0) ?_
   | refine Get.mk _ (bget_app d1) ?_
   | refine Get.mk _ heq ?_
   | refine Get.mk _ f2 ?_
   | refine Idx.nat hil ?_
   | refine Req.mk hn0 ?_
   | refine call_fresh rfl hvw k3 ?_
   | refine call_fun rfl rfl k9 (.inl rfl) ?_
   | refine Get.newj 0 rfl rfl ?_
   | refine fB.newj 0 rfl ?_
   | refine fB.mk ?_
   | refine Get.mk _ rfl ?_
   | refine Leaves.of ?_
   | refine Vw.bool ?_
   | (refine Req.mk ?_ ?_;(focus first | rfl | decide | exact ⟨rfl,rfl⟩ | exact ⟨rfl,by decide⟩ | exact (fun _=>rfl) | exact (fun h=>nomatch h) | (simp;done) | omega | (simp [big];done) | exact le_big (by omega) | exact lt_big (by omega))))
    all_goals first | rfl | (exfalso;omega;done)
theorem law_traced {c d:Bool} {l:List Fm} {ss:List Sp} {x y:Int}:Fun FB1 md 8 [.sl c l.length (fmC l),.sl d ss.length (spC ss),.agg [.int .i64 x,.int .i64 y]] (.bool true):=by
 by_cases he:(csE l ss).2=0
 ·obtain ⟨W,H,o,h20,p⟩:=csE_zero he
  by_cases h:outB x 0 ((l.length:Int) - 1)=true∨outB y 0 (((W * H:Nat):Int) - 1)=true
  ·exact traced_bad (.inr ⟨W,H,o,he,h⟩)
  ·obtain ⟨i,rfl,hi⟩:=out_in fun h1=>h (.inl h1)
   obtain ⟨q,rfl,hq⟩:=out_in fun h1=>h (.inr h1)
   exact traced_ok o h20 p he hi hq
 ·exact traced_bad (.inl he)
end Go.Dr.T
namespace Go.Dr.T
theorem hasInt {l:List V} (h:(Ty.int .i64).has l):∃ n:Int,l=[.int .i64 n]:=by
 simp only [Ty.has] at h
 obtain ⟨n,rfl,h1,h2⟩:=h
 exact ⟨n,rfl⟩
end Go.Dr.T
namespace Go.Dr.T
theorem bytes_cells:∀ {xs:List (List V)},(∀ x∈xs,x.length=1∧(Ty.int .u8).has x)→∃ l:List UInt8,xs.flatten=ofBytes l∧xs.length=l.length
 | [],_=>⟨[],rfl,rfl⟩
 | x :: xs,h=>by
  obtain ⟨l,h1,h2⟩:=bytes_cells (xs:=xs) fun y hy=>h y (by simp [hy])
  obtain ⟨_,hx⟩:=h x (by simp)
  simp only [Ty.has] at hx
  obtain ⟨n,rfl,h3,h4⟩:=hx
  simp only [IntKind.min,IntKind.max,IntKind.signed,IntKind.bits,Bool.false_eq_true,if_false] at h3 h4
  have h4' : n≤255:=by simpa using h4
  refine ⟨UInt8.ofNat n.toNat :: l,?_,by simp [h2]⟩
  have e:((UInt8.ofNat n.toNat).toNat:Int)=n:=by
   rw [UInt8.toNat_ofNat_of_lt' (by show n.toNat<256;omega)];omega
  simp only [List.flatten_cons,h1,ofBytes,e];rfl
theorem hasBytes {l:List V} (h:(Ty.slice 1 (.int .u8)).has l):∃ p:List UInt8,l=[.sl false p.length (ofBytes p)]:=by
 rw [Ty.has] at h
 obtain ⟨xs,rfl,hx⟩:=h
 obtain ⟨p,h1,h2⟩:=bytes_cells hx
 exact ⟨p,by rw [h1,h2]⟩
abbrev TyFm:Ty:=.agg [.int .i64,.int .i64,.slice 1 (.int .u8)]
theorem fm_all {l:List V} (h:Ty.hasAll [.int .i64,.int .i64,.slice 1 (.int .u8)] l):∃ f:Fm,l=[.int .i64 f.w,.int .i64 f.h,.sl f.c f.p.length (ofBytes f.p)]:=by
 simp only [Ty.hasAll] at h
 obtain ⟨a,b,rfl,ha,c,d,rfl,hc,e,f,rfl,he,rfl⟩:=h
 obtain ⟨w,rfl⟩:=hasInt ha
 obtain ⟨h,rfl⟩:=hasInt hc
 obtain ⟨p,rfl⟩:=hasBytes he
 exact ⟨⟨false,w,h,p⟩,rfl⟩
theorem fms_cells:∀ {xs:List (List V)},(∀ x∈xs,x.length=3∧TyFm.has x)→∃ l:List Fm,xs.flatten=fmC l∧xs.length=l.length
 | [],_=>⟨[],rfl,rfl⟩
 | x :: xs,h=>by
  obtain ⟨l,h1,h2⟩:=fms_cells (xs:=xs) fun y hy=>h y (by simp [hy])
  obtain ⟨_,hx⟩:=h x (by simp)
  obtain ⟨y,rfl⟩:=fm_all (by simpa only [Ty.has] using hx)
  exact ⟨y :: l,by simp only [List.flatten_cons,h1];rfl,by simp [h2]⟩
abbrev TyFms:Ty:=.slice 3 TyFm
theorem fms_val {v:V} (h:TyFms.val v):∃ l:List Fm,v = .sl false l.length (fmC l):=by
 rw [TyFms] at h
 simp only [Ty.val] at h
 rw [Ty.has] at h
 obtain ⟨xs,e,hx⟩:=h
 simp only [List.cons.injEq,and_true] at e
 subst e
 obtain ⟨l,h1,h2⟩:=fms_cells (xs:=xs) hx
 exact ⟨l,by rw [h1,h2]⟩
abbrev TyBx:Ty:=.agg [.int .i64,.int .i64,.int .i64,.int .i64]
theorem bx_all {l:List V} (h:Ty.hasAll [.int .i64,.int .i64,.int .i64,.int .i64] l):∃ x:Bx,l=bxV x:=by
 simp only [Ty.hasAll] at h
 obtain ⟨a,b,rfl,ha,c,d,rfl,hc,e,f,rfl,he,g,i,rfl,hg,rfl⟩:=h
 obtain ⟨w,rfl⟩:=hasInt ha
 obtain ⟨h,rfl⟩:=hasInt hc
 obtain ⟨p,rfl⟩:=hasInt he
 obtain ⟨q,rfl⟩:=hasInt hg
 exact ⟨⟨w,h,p,q⟩,rfl⟩
theorem bxs_cells:∀ {xs:List (List V)},(∀ x∈xs,x.length=4∧TyBx.has x)→∃ l:List Bx,xs.flatten=bxC l∧xs.length=l.length
 | [],_=>⟨[],rfl,rfl⟩
 | x :: xs,h=>by
  obtain ⟨l,h1,h2⟩:=bxs_cells (xs:=xs) fun y hy=>h y (by simp [hy])
  obtain ⟨_,hx⟩:=h x (by simp)
  obtain ⟨y,rfl⟩:=bx_all (by simpa only [Ty.has] using hx)
  exact ⟨y :: l,by simp only [List.flatten_cons,h1];rfl,by simp [h2]⟩
theorem hasBxs {l:List V} (h:(Ty.slice 4 TyBx).has l):∃ p:List Bx,l=[.sl false p.length (bxC p)]:=by
 rw [Ty.has] at h
 obtain ⟨xs,rfl,hx⟩:=h
 obtain ⟨p,h1,h2⟩:=bxs_cells hx
 exact ⟨p,by rw [h1,h2]⟩
abbrev TySp:Ty:=.agg [.int .i64,.int .i64,.int .i64,.slice 4 TyBx,.int .i64,.int .i64,.int .i64,.slice 1 (.int .u8)]
theorem sp_all {l:List V} (h:Ty.hasAll [.int .i64,.int .i64,.int .i64,.slice 4 TyBx,.int .i64,.int .i64,.int .i64,.slice 1 (.int .u8)] l):∃ s:Sp,l=spV s:=by
 simp only [Ty.hasAll] at h
 obtain ⟨a1,b1,rfl,h1,a2,b2,rfl,h2,a3,b3,rfl,h3,a4,b4,rfl,h4,a5,b5,rfl,h5,a6,b6,rfl,h6,a7,b7,rfl,h7,a8,b8,rfl,h8,rfl⟩:=h
 obtain ⟨n1,rfl⟩:=hasInt h1
 obtain ⟨n2,rfl⟩:=hasInt h2
 obtain ⟨n3,rfl⟩:=hasInt h3
 obtain ⟨n4,rfl⟩:=hasBxs h4
 obtain ⟨n5,rfl⟩:=hasInt h5
 obtain ⟨n6,rfl⟩:=hasInt h6
 obtain ⟨n7,rfl⟩:=hasInt h7
 obtain ⟨n8,rfl⟩:=hasBytes h8
 exact ⟨⟨n1,n2,n3,false,n4,n5,n6,n7,false,n8⟩,rfl⟩
end Go.Dr.T
namespace Go.Dr.T
theorem sps_cells:∀ {xs:List (List V)},(∀ x∈xs,x.length=8∧TySp.has x)→∃ l:List Sp,xs.flatten=spC l∧xs.length=l.length
 | [],_=>⟨[],rfl,rfl⟩
 | x :: xs,h=>by
  obtain ⟨l,h1,h2⟩:=sps_cells (xs:=xs) fun y hy=>h y (by simp [hy])
  obtain ⟨_,hx⟩:=h x (by simp)
  obtain ⟨y,rfl⟩:=sp_all (by rw [TySp,Ty.has] at hx;exact hx)
  exact ⟨y :: l,by simp only [List.flatten_cons,h1];rfl,by simp [h2]⟩
abbrev TySps:Ty:=.slice 8 TySp
theorem sps_val {v:V} (h:TySps.val v):∃ l:List Sp,v = .sl false l.length (spC l):=by
 rw [TySps] at h
 simp only [Ty.val] at h
 rw [Ty.has] at h
 obtain ⟨xs,e,hx⟩:=h
 simp only [List.cons.injEq,and_true] at e
 subst e
 obtain ⟨l,h1,h2⟩:=sps_cells (xs:=xs) hx
 exact ⟨l,by rw [h1,h2]⟩
end Go.Dr.T
namespace Go.Dr.T
abbrev TyAt:Ty:=.agg [.int .i64,.int .i64]
theorem at_val {v:V} (h:TyAt.val v):∃ x y:Int,v = .agg [.int .i64 x,.int .i64 y]:=by
 rw [TyAt] at h
 simp only [Ty.val] at h
 obtain ⟨l,rfl,h⟩:=h
 simp only [Ty.hasAll] at h
 obtain ⟨a,b,rfl,ha,c,d,rfl,hc,rfl⟩:=h
 obtain ⟨x,rfl⟩:=hasInt ha
 obtain ⟨y,rfl⟩:=hasInt hc
 exact ⟨x,y,rfl⟩
end Go.Dr.T
namespace Go.Dr.T
theorem tab_mono {P:Program} {name:String} {kk:IntKind} {zs:List Int} {g:Nat} (hg:P.globalNamed name=some g) {w w' : World} (h:Go.RowKit.Below (g+1) w w') (t:Lib.TabIs P w name kk zs):Lib.TabIs P w' name kk zs:=by
 unfold Lib.TabIs World.var? at t ⊢
 rw [hg] at t ⊢
 simp only [Option.bind_some] at t ⊢
 rw [h.block g (Nat.lt_succ_self g)]
 exact t
theorem tab_size {P:Program} {name:String} {kk:IntKind} {zs:List Int} {g:Nat} (hg:P.globalNamed name=some g) {w:World} (t:Lib.TabIs P w name kk zs):g+1≤w.heap.size:=by
 unfold Lib.TabIs World.var? at t
 rw [hg] at t
 simp only [Option.bind_some] at t
 split at t
 ·rename_i h
  exact (Array.getElem?_eq_some_iff.1 h).1
 ·cases t
theorem tab_in {P:Program} {W:World} {name:String} {kk:IntKind} {zs:List Int} {g t e n:Nat}
  (hg:P.globalNamed name=some g) (hty:(P.globals[g]?).map (·.type)=some t) (ht:P.underlying t=some (.array n e)) (he:P.underlying e=some (.int kk)) (hce:P.cellsOf e=1) (hct:P.cellsOf t=n) :
  ∀ {l:List (String × DataW Unit)} {ps:List MemPlace},DataW.LaidVars P W l ps→(name,Lib.tabData kk zs)∈l→Lib.TabIs P W name kk zs
 | [],_,_,hm=>by cases hm
 | (n', d) :: l,ps,h,hm=>by
  obtain ⟨g', t', cs,fuel,p,q,hg', ht', hvar,hd,hr,_⟩:=h
  rcases List.mem_cons.1 hm with e0 | hm
  ·cases e0
   obtain rfl:=Option.some.inj (hg.symm.trans hg')
   obtain rfl:=Option.some.inj (hty.symm.trans ht')
   unfold Lib.TabIs
   rw [hvar, ← Lib.cells_of_tab ht he hce hct hd]
  ·exact tab_in hg hty ht he hce hct hr hm
end Go.Dr.T
