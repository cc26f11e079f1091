/- Chapter 08: Trace. -/
import Derived.Test.YthihdpbgmhnloaaGreatDoorR08Tk
import Derived.Test.YthihdpbgmhnloaaGreatDoorG17
import Derived.Test.YthihdpbgmhnloaaGreatDoorG14
namespace Go.Dr.T
theorem trace_go {tm:List V} {c:Bool} {l:List Fm} {W H:Nat} {ss:List Sp} {i q k:Nat} {s:Sp} {v:V} {G:List B} {K:V→List B→Prop} (htm:tm=TM24 (tg tm)) (o:FOk l W H) (hL:ss.length≤20) (p:∀ s∈ss,SOk s l.length W H) (hi:i<l.length) (hk:k<ss.length) (hcs:ss[ss.length - (k+1)]?=some s) (hok1:trOk W H l ss i q k) (hx:(tr W H l ss i q k).q<W * H) (hS:TH (.sl c l.length (fmC l)) i i (tr W H l ss i q k).q (.sl (decide (rnC W H (czF l) ss=[])) (rnC W H (czF l) ss).length (lgC (rnC W H (czF l) ss))) (.lop true .nrm tm [59,60] AS24 BO24) (tr W H l ss i q k).b v G) (hK:∀ v' G', G.length≤G'.length→TH (.sl c l.length (fmC l)) i i (tr W H l ss i q (k+1)).q (.sl (decide (rnC W H (czF l) ss=[])) (rnC W H (czF l) ss).length (lgC (rnC W H (czF l) ss))) (.lop true .nrm tm [59,60] AS24 BO24) (tr W H l ss i q (k+1)).b v' G' → K (.bool true) G'):CallP FB md 0 (.yld 6) [.int .i64 ((ss.length - (k+1):Nat):Int),.agg (spV s)] G K:=by
 obtain ⟨X,rfl⟩:∃ X,tm=TM24 X:=⟨_,htm⟩
 clear htm
 by_cases h1:s.k=1
 ·cases hkp:keepB s i ((tr W H l ss i q k).q % W:Nat) ((tr W H l ss i q k).q / W:Nat) with
  | true=>exact trace_kept (X:=X) o hL p hi hk hcs hok1 hx hS hK h1 hkp
  | false =>
   by_cases hab:s.a=0∧s.b=0
   ·exact trace_zero (X:=X) o hL p hi hk hcs hok1 hx hS hK h1 hkp hab.1 hab.2
   ·exact trace_mov (X:=X) o hL p hi hk hcs hok1 hx hS hK h1 hkp hab
 ·exact trace_other (X:=X) o hL p hi hk hcs hok1 hx hS hK h1
theorem trace_no {tm:List V} {c:Bool} {l:List Fm} {W H:Nat} {ss:List Sp} {i q k:Nat} {s:Sp} {v:V} {G:List B} {K:V→List B→Prop} (htm:tm=TM24 (tg tm)) (o:FOk l W H) (hL:ss.length≤20) (p:∀ s∈ss,SOk s l.length W H) (hi:i<l.length) (hk:k<ss.length) (hcs:ss[ss.length - (k+1)]?=some s) (hno1:¬ trOk W H l ss i q k) (hx:(tr W H l ss i q k).q<W * H) (hS:TH (.sl c l.length (fmC l)) i i (tr W H l ss i q k).q (.sl (decide (rnC W H (czF l) ss=[])) (rnC W H (czF l) ss).length (lgC (rnC W H (czF l) ss))) (.lop true .nrm tm [59,60] AS24 BO24) (tr W H l ss i q k).b v G) (hK:∀ G', G.length≤G'.length→(∃ v' tn ps as bo,TH (.sl c l.length (fmC l)) i (-1) (-1) (.sl (decide (rnC W H (czF l) ss=[])) (rnC W H (czF l) ss).length (lgC (rnC W H (czF l) ss))) (.lop false .ret tn ps as bo) ((tr W H l ss i q k).b++[((ss.length - (k+1):Nat):Int)]).reverse v' G')→K (.bool false) G'):CallP FB md 0 (.yld 6) [.int .i64 ((ss.length - (k+1):Nat):Int),.agg (spV s)] G K:=by
 obtain ⟨X,rfl⟩:∃ X,tm=TM24 X:=⟨_,htm⟩
 clear htm
 exact trace_out (X:=X) o hL p hi hk hcs hno1 hx hS hK
set_option maxRecDepth 100000 in
set_option maxHeartbeats 20000000 in
theorem trace_any {c d:Bool} {l:List Fm} {W H:Nat} {ss:List Sp} {i q:Nat} {v:V} (o:FOk l W H) (hL:ss.length≤20) (p:∀ s∈ss,SOk s l.length W H) (he:(csE l ss).2=0) (hi:i<l.length) (hq:q<W * H)
  (hok:(∀ k,k<ss.length→trOk W H l ss i q k)→v = .tup [.agg [.int .i64 (i:Nat),.int .i64 ((tr W H l ss i q ss.length).q:Nat)],inL (tr W H l ss i q ss.length).b.reverse,.int .i64 0])
  (hno:∀ k:Nat,k<ss.length→(∀ j,j<k→trOk W H l ss i q j)→¬ trOk W H l ss i q k→v = .tup [.agg [.int .i64 (-1),.int .i64 (-1)],inL ((tr W H l ss i q k).b++[((ss.length - (k+1):Nat):Int)]).reverse,.int .i64 0]):FunF FB md 24 [.sl c l.length (fmC l),.sl d ss.length (spC ss),.int .i64 (i:Nat),.int .i64 (q:Nat)] v:=by
 have k1:=csteps_ok (c:=c) (d:=d) (l:=l) (ss:=ss)
 have k2:=run_ok (c:=c) (d:=d) o hL p he
 have k3:=backS_ok (cv:=.sl d ss.length (spC ss)) ⟨_,_,_,rfl⟩
 rw [he] at k1
 generalize (csE l ss).1=e1 at *
 have k4:=out_ok (n:=(i:Int)) (lo:=0) (hi:=(l.length:Int) - 1)
 have k5:=out_ok (n:=(q:Int)) (lo:=0) (hi:=((W * H:Nat):Int) - 1)
 rw [show outB (i:Int) 0 ((l.length:Int) - 1)=false by simp only [outB,Bool.or_eq_false_iff,decide_eq_false_iff_not];omega] at k4
 rw [show outB (q:Int) 0 (((W * H:Nat):Int) - 1)=false by simp only [outB,Bool.or_eq_false_iff,decide_eq_false_iff_not];omega] at k5
 have hnn:=o.nn
 have hn12:=o.n12
 have hn0:=o.n0
 have o3:=o.w
 have o4:=o.h
 obtain ⟨f0,hf0,h0w,_,h0p⟩:=o.at o.n0
 obtain ⟨b0,_,b2⟩:=fm_c hf0
 rw [h0w] at b0
 rw [h0p] at b2
 have hlw:IntKind.i64.wrap ((l.length:Int) - 1)=(l.length:Int) - 1:=wrap_i64 (by omega) (by omega)
 have hpw:IntKind.i64.wrap (((W * H:Nat):Int) - 1)=((W * H:Nat):Int) - 1:=wrap_i64 (by omega) (by omega)
 refine funF_of rfl rfl ?_
 repeat' (first
 | (conv=>whnf)
   first
   | refine Bnd.eq hlw ?_
   | refine Bnd.eq hpw ?_
   | refine Br.f ?_
   | refine Get.mk _ b2 ?_
   | refine Req.mk hn0 ?_
   | refine call_fun rfl rfl k1 (.inl rfl) ?_
   | refine call_fun rfl rfl k2 (.inl rfl) ?_
   | refine call_fun rfl rfl k3 (.inl rfl) ?_
   | refine call_fun rfl rfl k4 (.inl rfl) ?_
   | refine call_fun rfl rfl k5 (.inl rfl) ?_
   | (refine Idx.int ?_ ?_ ?_;(focus omega);(focus omega))
   | refine Get.mk _ rfl ?_
   | (refine Req.mk ?_ ?_;(focus first | rfl | decide | exact ⟨rfl,rfl⟩ | exact ⟨rfl,by decide⟩ | exact (fun _=>rfl) | exact (fun h=>nomatch h) | (simp;done) | omega | (simp [big];done) | exact le_big (by omega) | exact lt_big (by omega))))
 all_goals try (exfalso;omega;done)
 refine trace_it (l:=l) hL o3.1 hq ⟨?_,Nat.le_refl _,rfl,rfl,rfl,rfl,rfl,rfl,rfl,.inl ⟨rfl,rfl⟩⟩ rfl ?_ ?_ ?_ ?_
 ·simp [Cl,hbelow,B.blo,blos,V.blo,lgL]
 ·intro k s v G K hk hcs hok1 hx hS hK
  exact trace_go rfl o hL p hi hk hcs hok1 hx hS hK
 ·intro k s v G K hk hcs hno1 hx hS hK
  exact trace_no rfl o hL p hi hk hcs hno1 hx hS hK
 ·intro hall v2 G hS
  rw [show bget G (6+0)=_ from hS.lop]
  skip
  have hlb:=blo_of_hbelow hS.cl (mem_bget hS.lop)
  refine fB.lopT hS hlb ?_
  intro G2 g1 g2 hS2
  have d2:=hS2.b2
  have d3:=hS2.b3
  have d4:=hS2.b4
  have hbl:=tr_len (W:=W) (H:=H) (l:=l) (ss:=ss) (i:=i) (q:=q) (k:=ss.length)
  rw [hok hall]
  rcases hS2.il.frm with rfl | ⟨r,rfl⟩
  ·repeat' (first
 | (conv=>whnf)
   first
   | refine fLen.mk ?_
   | refine fB.i0 ?_
   | refine Get.mk _ d2 ?_
   | refine Get.mk _ d3 ?_
   | refine Get.mk _ d4 ?_
   | (refine rev_callN hS2 ?_;intro hS3)
   | refine fB.as (bset_self d2) ?_
   | refine fB.as (bset_self d3) ?_
   | refine fB.as (bset_self d4) ?_
   | refine res_trace rfl rfl rfl d2 d3 d4 ?_
   | exact hS3.il.vw
   | refine Get.mk _ rfl ?_
   | refine LeavesF.of ?_
   | refine VwF.int ?_
   | refine VwF.tup ?_
   | refine VwF.agg ?_
   | refine VwLF.cons ?_ ?_
   | refine VwLF.nil
   | (refine Req.mk ?_ ?_;(focus first | rfl | decide | exact ⟨rfl,rfl⟩ | exact ⟨rfl,by decide⟩ | exact (fun _=>rfl) | exact (fun h=>nomatch h) | (simp;done) | omega | (simp [big];done) | exact le_big (by omega) | exact lt_big (by omega))))
   all_goals first | rfl | exact hS3.il.vw | (exfalso;omega;done)
  ·repeat' (first
 | (conv=>whnf)
   first
   | refine fLen.mk ?_
   | refine fB.i0 ?_
   | refine Get.mk _ d3 ?_
   | (refine rev_callT hS2 (by omega) ?_;intro G3 g3 hS3)
   | refine Get.mk _ hS3.b2 ?_
   | refine Get.mk _ hS3.b3 ?_
   | refine Get.mk _ hS3.b4 ?_
   | refine fB.as (bset_self hS3.b2) ?_
   | refine fB.as (bset_self hS3.b3) ?_
   | refine fB.as (bset_self hS3.b4) ?_
   | refine res_trace rfl rfl rfl hS3.b2 hS3.b3 hS3.b4 ?_
   | exact hS3.il.vw
   | refine Get.mk _ rfl ?_
   | refine LeavesF.of ?_
   | refine VwF.int ?_
   | refine VwF.tup ?_
   | refine VwF.agg ?_
   | refine VwLF.cons ?_ ?_
   | refine VwLF.nil
   | (refine Req.mk ?_ ?_;(focus first | rfl | decide | exact ⟨rfl,rfl⟩ | exact ⟨rfl,by decide⟩ | exact (fun _=>rfl) | exact (fun h=>nomatch h) | (simp;done) | omega | (simp [big];done) | exact le_big (by omega) | exact lt_big (by omega))))
   all_goals first | rfl | exact hS3.il.vw | (exfalso;omega;done)
 ·intro k hk hpre hno1 v2 G tm ps as bo hlb hS
  rw [show bget G (6+0)=_ from hS.lop]
  skip
  refine fB.lopT hS hlb ?_
  intro G2 g1 g2 hS2
  have d2:=hS2.b2
  have d3:=hS2.b3
  have d4:=hS2.b4
  rw [hno k hk hpre hno1]
  rcases hS2.il.frm with rfl | ⟨r,rfl⟩
  all_goals
   repeat' (first
 | (conv=>whnf)
   first
   | refine res_trace rfl rfl rfl d2 d3 d4 ?_
   | exact hS2.il.vw
   | refine LeavesF.of ?_
   | refine VwF.int ?_
   | refine VwF.tup ?_
   | refine VwF.agg ?_
   | refine VwLF.cons ?_ ?_
   | refine VwLF.nil)
   all_goals first | rfl | exact hS2.il.vw | (exfalso;omega;done)
end Go.Dr.T
namespace Go.Dr.T
set_option maxRecDepth 100000 in
set_option maxHeartbeats 20000000 in
theorem kept_ok {s:Sp} {w i n x y:Int} (hl:s.kp.length≤1000000) (hw:1≤w) (hx:n.tmod w=x) (hy:IntKind.i64.wrap (n.tdiv w)=y):Fun FB md 30 [.agg (spV s),.int .i64 w,.int .i64 i,.int .i64 n] (.bool (keepB s i x y)):=by
 unfold keepB
 have hw0:w≠0:=by omega
 by_cases h1:i<s.fr∨s.un<i
 ·have:outB i s.fr s.un=true:=by simp only [outB,Bool.or_eq_true,decide_eq_true_eq];omega
  rw [this,Bool.true_or]
  refine fun_of rfl rfl ?_
  repeat' (first
 | (conv=>whnf)
   first
   | refine Br.t ?_
   | (refine Br.decT ?_ ?_;(focus first | assumption | omega))
   | (refine Br.decF ?_ ?_;(focus first | assumption | omega))
   | refine Br.dec (fun _ => ?_) (fun _ => ?_)
   | refine Get.mk _ rfl ?_
   | refine Leaves.of ?_
   | refine Vw.bool ?_
   | (refine Req.mk ?_ ?_;(focus first | rfl | decide | exact ⟨rfl,rfl⟩ | exact ⟨rfl,by decide⟩ | exact (fun _=>rfl) | exact (fun h=>nomatch h) | (simp;done) | omega | (simp [big];done) | exact le_big (by omega) | exact lt_big (by omega))))
  all_goals first | rfl | (exfalso;omega;done)
 have:outB i s.fr s.un=false:=by simp only [outB,Bool.or_eq_false_iff,decide_eq_false_iff_not];omega
 rw [this,Bool.false_or]
 refine fun_of rfl rfl ?_
 repeat' (first
 | (conv=>whnf)
   first
   | refine Bnd.eq hx ?_
   | refine Bnd.eq hy ?_
   | (refine Br.decF ?_ ?_;(focus first | assumption | omega))
   | refine Req.mk hw0 ?_
   | refine Get.mk _ rfl ?_
   | (refine Req.mk ?_ ?_;(focus first | rfl | decide | exact ⟨rfl,rfl⟩ | exact ⟨rfl,by decide⟩ | exact (fun _=>rfl) | exact (fun h=>nomatch h) | (simp;done) | omega | (simp [big];done) | exact le_big (by omega) | exact lt_big (by omega))))
 all_goals try (exfalso;omega;done)
 refine LoopP.by (fun i:Nat=>i≤s.kp.length∧∀ j z,j<i→s.kp[j]?=some z→inBx x y z=false) (fun i=>[(11,.int .i64 (i:Nat))]) (fun i=>[.blk (spV s) false]) (fun i=>s.kp.length - i) 0 ⟨Nat.zero_le _,fun j v h=>absurd h (Nat.not_lt_zero _)⟩ rfl ?_
 rintro j ⟨w1,w2⟩
 dsimp only
 by_cases hi:j<s.kp.length
 ·obtain ⟨z,hz⟩:∃ z,s.kp[j]?=some z:=⟨_,List.getElem?_eq_getElem hi⟩
  have hp:=bxC_part hz
  have hiw:IntKind.i64.wrap ((j:Int)+1)=((j+1:Nat):Int):=by rw [wrap_i64 (by omega) (by omega)];omega
  have hil:j≤s.kp.length - 1:=by omega
  have h0l:0<s.kp.length:=by omega
  have hnx:inBx x y z=false→∀ k u,k<j+1→s.kp[k]?=some u→inBx x y u=false:=fun q k u hj hu=>by
   by_cases e:k=j
   ·subst e;rw [hz] at hu;cases hu;exact q
   ·exact w2 k u (by omega) hu
  have hyes:inBx x y z=true→s.kp.any (inBx x y)=true:=fun q=>List.any_eq_true.2 ⟨z,List.mem_of_getElem? hz,q⟩
  cases e1:inBx x y z with
  | true =>
   rw [hyes e1]
   simp only [inBx,outB,Bool.and_eq_true,Bool.not_eq_true', Bool.or_eq_false_iff,decide_eq_false_iff_not] at e1
   repeat' (first
 | (conv=>whnf)
   first
   | (refine Br.decT ?_ ?_;(focus first | assumption | omega))
   | refine Get.mk _ hp ?_
   | refine Idx.nat hil ?_
   | refine Req.mk h0l ?_
   | refine Get.mk _ rfl ?_
   | refine Leaves.of ?_
   | refine Vw.bool ?_
   | (refine Req.mk ?_ ?_;(focus first | rfl | decide | exact ⟨rfl,rfl⟩ | exact ⟨rfl,by decide⟩ | exact (fun _=>rfl) | exact (fun h=>nomatch h) | (simp;done) | omega | (simp [big];done) | exact le_big (by omega) | exact lt_big (by omega))))
   all_goals first | rfl | (exfalso;omega;done)
  | false =>
   have hnx:=hnx e1
   have e2:¬ (z.l≤x∧x≤z.r∧z.t≤y∧y≤z.b):=fun h=>by
    have:inBx x y z=true:=by
     simp only [inBx,outB,Bool.and_eq_true,Bool.not_eq_true', Bool.or_eq_false_iff,decide_eq_false_iff_not]
     omega
    rw [e1] at this
    cases this
   clear e1
   repeat' (first
 | (conv=>whnf)
   first
   | refine Bnd.eq hiw ?_
   | refine Br.f ?_
   | (refine Br.decT ?_ ?_;(focus first | assumption | omega))
   | (refine Br.decF ?_ ?_;(focus first | assumption | omega))
   | refine Br.dec (fun _ => ?_) (fun _ => ?_)
   | refine Get.mk _ hp ?_
   | refine Idx.nat hil ?_
   | refine Req.mk h0l ?_
   | refine Get.mk _ rfl ?_
   | (refine Req.mk ?_ ?_;(focus first | rfl | decide | exact ⟨rfl,rfl⟩ | exact ⟨rfl,by decide⟩ | exact (fun _=>rfl) | exact (fun h=>nomatch h) | (simp;done) | omega | (simp [big];done) | exact le_big (by omega) | exact lt_big (by omega))))
   all_goals first | (exfalso;omega;done) | exact NextP.mk (j+1) ⟨hi,hnx⟩ (by omega) rfl
 obtain rfl:j=s.kp.length:=by omega
 have hE:s.kp.any (inBx x y)=false:=by
  cases e:s.kp.any (inBx x y) with
  | false=>rfl
  | true =>
   obtain ⟨z,hz,h1⟩:=List.any_eq_true.1 e
   obtain ⟨k,hk⟩:=List.getElem?_of_mem hz
   rw [w2 k z (List.getElem?_eq_some_iff.1 hk).1 hk] at h1
   cases h1
 rw [hE]
 repeat' (first
 | (conv=>whnf)
   first
   | (refine Br.decF ?_ ?_;(focus first | assumption | omega))
   | refine Get.mk _ rfl ?_
   | refine Leaves.of ?_
   | refine Vw.bool ?_
   | (refine Req.mk ?_ ?_;(focus first | rfl | decide | exact ⟨rfl,rfl⟩ | exact ⟨rfl,by decide⟩ | exact (fun _=>rfl) | exact (fun h=>nomatch h) | (simp;done) | omega | (simp [big];done) | exact le_big (by omega) | exact lt_big (by omega))))
 all_goals first | rfl | (exfalso;omega;done)
end Go.Dr.T
namespace Go.Dr.T
theorem out_in {x:Int} {n:Nat} (h:¬ outB x 0 ((n:Int) - 1)=true):∃ i:Nat,x=(i:Int)∧i<n:=by
 simp only [outB,Bool.or_eq_true,decide_eq_true_eq] at h
 exact ⟨x.toNat,by omega,by omega⟩
section
variable {W H:Nat} {l:List Fm} {ss:List Sp} {i q:Nat}
structure TrA (W H:Nat) (l:List Fm) (ss:List Sp) (i q:Nat) (R:TrR):Prop where
 e:R.e=0
 len:R.by'.length≤ss.length
 step:∀ x∈R.by', ∃ (j:Nat) (s:Sp),x=(j:Int)∧ss[j]?=some s∧outB (i:Int) s.fr s.un=false
 rise:R.by'.Pairwise (· < ·)
 place:(R.a = -1∧R.b = -1∧R.by' ≠ [])∨(R.a=(i:Int)∧∃ z:Nat,R.b=(z:Int)∧z<W * H∧((∀ x∈R.by', (sAt ss x).k=1)→(pxL (fK W H l ss ss.length) i).getD q 0=(pxL l i).getD z 0))
theorem pxL_0:pxL (fK W H l ss 0) i=pxL l i:=by
 unfold pxL
 rw [fK_0]
 cases h:l[i]? with
 | none=>rw [show (czF l)[i]?=none by rw [List.getElem?_eq_none_iff] at h ⊢; rw [czF_len];exact h]
 | some f=>rw [czF_get h]
theorem trA (o:FOk l W H) (hi:i<l.length) (hq:q<W * H):TrA W H l ss i q (trR W H l ss i q):=by
 by_cases hall:∀ k,k<ss.length→trOk W H l ss i q k
 ·rw [trR_ok hall]
  obtain ⟨f1,f2⟩:=tr_fall (W:=W) (H:=H) (l:=l) (ss:=ss) (i:=i) (q:=q) (Nat.le_refl _)
  refine ⟨rfl,by rw [List.length_reverse];exact tr_len,fun x hx=>tr_steps o hi (Nat.le_refl _) x (List.mem_reverse.1 hx),List.pairwise_reverse.2 (f2.imp fun h=>h),.inr ⟨rfl,_,rfl,tr_lt o.w.1 hq hall,fun h => ?_⟩⟩
  have:=tr_moved o hi hq (Nat.le_refl _) hall fun x hx=>h x (List.mem_reverse.2 hx)
  rw [Nat.sub_self,pxL_0] at this
  exact this
 ·obtain ⟨k,hk,hpre,hno⟩:=tr_first hall
  rw [trR_no hk hpre hno]
  obtain ⟨s,hcs⟩:∃ s,ss[ss.length - (k+1)]?=some s:=⟨_,List.getElem?_eq_getElem (by omega)⟩
  obtain ⟨e1,e2,e3⟩:=trOk_no hcs hno
  have e:=tr_at (W:=W) (H:=H) (l:=l) (i:=i) (q:=q) hcs
  rw [if_pos e2] at e
  obtain ⟨f1,f2⟩:=tr_fall (W:=W) (H:=H) (l:=l) (ss:=ss) (i:=i) (q:=q) (k:=k+1) hk
  have f3:=tr_len (W:=W) (H:=H) (l:=l) (ss:=ss) (i:=i) (q:=q) (k:=k+1)
  have f4:=tr_steps o hi (k:=k+1) (q:=q) (ss:=ss) hk
  rw [e] at f2 f3 f4
  dsimp only at f2 f3 f4
  exact ⟨rfl,by dsimp only;rw [List.length_reverse];omega,fun x hx=>f4 x (List.mem_reverse.1 hx),List.pairwise_reverse.2 (f2.imp fun h=>h),.inl ⟨rfl,rfl,by simp⟩⟩
theorem trace_law {c d:Bool} (o:FOk l W H) (hL:ss.length≤20) (p:∀ s∈ss,SOk s l.length W H) (he:(csE l ss).2=0) (hi:i<l.length) (hq:q<W * H):FunF FB1 md 24 [.sl c l.length (fmC l),.sl d ss.length (spC ss),.int .i64 (i:Nat),.int .i64 (q:Nat)] (.tup [.agg [.int .i64 (trR W H l ss i q).a,.int .i64 (trR W H l ss i q).b],inL (trR W H l ss i q).by', .int .i64 0]):=by
 have h:=trace_any (c:=c) (d:=d) (v:=(trR W H l ss i q).v) o hL p he hi hq (fun h=>by rw [trR_ok h];rfl) fun k hk hpre hno=>by rw [trR_no hk hpre hno];rfl
 unfold TrR.v at h
 rw [(trA (ss:=ss) o hi hq).e] at h
 exact h.tab sub1
theorem kept_none {s:Sp} {N:Nat} (p:SOk s N W H) (h:outB (i:Int) s.fr s.un=false):Fun FB1 md 30 [.agg (spV s),.int .i64 1,.int .i64 (i:Nat),.int .i64 (-1)] (.bool false):=by
 have:=kept_ok (s:=s) (w:=1) (i:=(i:Int)) (n := -1) (x:=0) (y := -1) (by have:=p.kp;omega) (by omega) rfl (by rw [show ((-1:Int)).tdiv 1 = -1 from rfl];exact wrap_i64 (by omega) (by omega))
 have e:keepB s i 0 (-1)=false:=by
  unfold keepB
  rw [h,Bool.false_or]
  cases hb:s.kp.any (inBx 0 (-1)) with
  | false=>rfl
  | true =>
   obtain ⟨b,b1,b2⟩:=List.any_eq_true.1 hb
   have b3:=p.box b b1
   simp only [bxBad,inBx,outB,Bool.or_eq_false_iff,Bool.and_eq_true,Bool.not_eq_true', decide_eq_false_iff_not] at b2 b3
   omega
 rw [e] at this
 exact tabF this
end
def mvB (ss:List Sp) (L:List Int) (t:Nat):Bool:=(L.take t).all fun x=>decide ((sAt ss x).k=1)
theorem take_snoc {α:Type} {L:List α} {t:Nat} {x:α} (h:L[t]?=some x):L.take (t+1)=L.take t++[x]:=by rw [List.take_add_one,h];rfl
theorem mvB_next {ss:List Sp} {L:List Int} {t:Nat} {x:Int} (h:L[t]?=some x):mvB ss L (t+1)=(mvB ss L t && decide ((sAt ss x).k=1)):=by
 unfold mvB
 rw [take_snoc h,List.all_append]
 simp
theorem mvB_all {ss:List Sp} {L:List Int} (h:mvB ss L L.length=true):∀ x∈L,(sAt ss x).k=1:=fun x hx=>by
 unfold mvB at h
 rw [List.take_length] at h
 exact of_decide_eq_true (List.all_eq_true.1 h x hx)
theorem smF_next {ss:List Sp} {L:List Int} {t:Nat} {x:Int} (h:L[t]?=some x):smF ss (L.take (t+1))=smF ss (L.take t)++[sAt ss x]:=by
 unfold smF
 rw [take_snoc h,List.map_append]
 rfl
theorem spC_snoc:∀ {l:List Sp} {s:Sp},spC (l++[s])=spC l++spV s
 | [],_=>rfl
 | _ :: l,s=>by simp only [List.cons_append,spC,spC_snoc (l:=l)]
theorem spC_blos {n:Nat}:∀ l:List Sp,blos n (spC l)=true
 | []=>rfl
 | _ :: l=>by have:=spC_blos (n:=n) l;simp only [spC,blos,V.blo,Bool.true_and];exact this
theorem spC_vw {h:List B} {d:Nat}:∀ l:List Sp,VwL h (d+1) (spC l) (spC l)
 | []=>VwL.nil
 | _ :: l=>VwL.cons (Vw.int rfl) (VwL.cons (Vw.int rfl) (VwL.cons (Vw.int rfl) (VwL.cons Vw.sl (VwL.cons (Vw.int rfl) (VwL.cons (Vw.int rfl) (VwL.cons (Vw.int rfl) (VwL.cons Vw.sl (spC_vw l))))))))
structure SM (x y a b:Int) (ss:List Sp) (L:List Int) (t:Nat) (v:V) (G:List B):Prop where
 cl:Cl G
 le:2≤G.length
 b0:bget G 0=some (.blk [.int .i64 x,.int .i64 y] false)
 b1:bget G 1=some (.blk [.int .i64 a,.int .i64 b] false)
 tv:(t=0∧v = .nilsl)∨∃ r,2≤r∧1≤t∧t≤L.length∧v = .ms 8 r (t * 8) 0 t false∧bget G r=some (.blk (spC (smF ss (L.take t))) false)
section
variable {x y a b:Int} {ss:List Sp} {L:List Int} {t:Nat} {v:V} {G:List B}
theorem SM.norm {mk:List Bool} {tm:List V} {m:Nat} (e:SM x y a b ss L t v G) (hm:2≤m) (hm2:m≤G.length) {j:Nat} (hv:tg (masked mk tm) j=v):SM x y a b ss L t v (norm mk m ⟨tm,G⟩).h:=by
 obtain ⟨k,h1,h2,_,_⟩:=norm_cut (mk:=mk) (tm:=tm) hm2 e.cl
 have hk:∀ {i:Nat} {z:B},i<2→bget G i=some z→bget (Dr.norm mk m ⟨tm,G⟩).h i=some z:=fun hi hz=>by
  rw [h2]
  show bget (G.take k) _=_
  rw [bget_take (by omega)]
  exact hz
 refine ⟨norm_cl hm2 e.cl,Nat.le_trans hm (norm_len (s:=⟨tm,G⟩) hm2),hk (by omega) e.b0,hk (by omega) e.b1,?_⟩
 rcases e.tv with h | ⟨r,r1,r2,r3,rfl,r5⟩
 ·exact .inl h
 ·exact .inr ⟨r,r1,r2,r3,rfl,norm_keep (i:=j) hm2 (fun k hk=>by rw [hv] at hk;exact of_decide_eq_true hk) r5⟩
theorem SM.first {z:Int} (e:SM x y a b ss L 0 v G) (hz:L[0]?=some z):SM x y a b ss L 1 (.ms 8 (G.length+1) 8 0 1 false) (G++[.unborn,.blk (spV (sAt ss z)) false]):=by
 have hl:=(List.getElem?_eq_some_iff.1 hz).1
 have hX:hasc G.length [B.unborn,B.blk (spV (sAt ss z)) false]:=⟨rfl,rfl,trivial⟩
 refine ⟨cl_asc e.cl hX,by rw [List.length_append];have:=e.le;omega,bget_app e.b0,bget_app e.b1,.inr ⟨G.length+1,by have:=e.le;omega,Nat.le_refl 1,hl,rfl,?_⟩⟩
 rw [smF_next hz]
 exact bget_new (i:=1)
theorem SM.more {z:Int} {r:Nat} (e:SM x y a b ss L t (.ms 8 r (t * 8) 0 t false) G) (hz:L[t]?=some z):SM x y a b ss L (t+1) (.ms 8 r (t * 8+8) 0 (t+1) false) (bset (G++[.unborn,.unborn]) r (.blk (spC (smF ss (L.take t))++spV (sAt ss z)) false)):=by
 have hl:=(List.getElem?_eq_some_iff.1 hz).1
 have hle:=e.le
 rcases e.tv with ⟨_,h⟩ | ⟨r', r1,r2,r3,h,r5⟩
 ·cases h
 cases h
 have hr:=bget_lt r5
 have hc:spC (smF ss (L.take t))++spV (sAt ss z)=spC (smF ss (L.take (t+1))):=by rw [smF_next hz,spC_snoc]
 rw [hc]
 have hX:hasc G.length [B.unborn,B.unborn]:=⟨rfl,rfl,trivial⟩
 exact ⟨(cl_asc e.cl hX).set (by show (false || blos _ _)=true;rw [Bool.false_or];exact spC_blos _),by rw [bset_len,List.length_append];omega,by rw [bset_other (by omega)];exact bget_app e.b0,by rw [bset_other (by omega)];exact bget_app e.b1,.inr ⟨r,r1,by omega,hl,by rw [Nat.succ_mul],bget_same (by rw [List.length_append];omega)⟩⟩
theorem SM.app {X:List B} (e:SM x y a b ss L t v G) (hX:hasc G.length X):SM x y a b ss L t v (G++X):=by
 refine ⟨cl_asc e.cl hX,by rw [List.length_append];have:=e.le;omega,bget_app e.b0,bget_app e.b1,?_⟩
 rcases e.tv with h | ⟨r,r1,r2,r3,rfl,r5⟩
 ·exact .inl h
 ·exact .inr ⟨r,r1,r2,r3,rfl,bget_app r5⟩
theorem SM.vw {d:Nat} (e:SM x y a b ss L L.length v G):∃ c:Bool,Vw G (d+1+1) v (.sl c (smF ss L).length (spC (smF ss L))):=by
 rcases e.tv with ⟨h0,rfl⟩ | ⟨r,r1,r2,r3,rfl,r5⟩
 ·obtain rfl:L=[]:=List.length_eq_zero_iff.1 h0
  exact ⟨true,Vw.nil⟩
 ·rw [List.take_length] at r5
  have hn:(spC (smF ss L)).length=L.length * 8:=by rw [spC_length,smF_len]
  refine ⟨false,?_⟩
  rw [smF_len]
  exact Vw.ms r5 hn (part_all hn) (spC_vw _)
end
end Go.Dr.T
