/- Chapter 08: the reference's Trace. -/
import Derived.Test.YthihdpbgmhnloaaGreatDoorR08Tj
import Derived.Test.YthihdpbgmhnloaaGreatDoorR08To
import Derived.Test.YthihdpbgmhnloaaGreatDoorG27
import Derived.Test.YthihdpbgmhnloaaGreatDoorG17
import Derived.Test.YthihdpbgmhnloaaGreatDoorG2
import Derived.Test.YthihdpbgmhnloaaGreatDoorG1
import Derived.Test.YthihdpbgmhnloaaGreatDoorDrE
import Derived.Test.YthihdpbgmhnloaaGreatDoorR08Fb
import Derived.Test.YthihdpbgmhnloaaGreatDoorG6
import Derived.Test.YthihdpbgmhnloaaGreatDoorG0
import Derived.Lib.LaidTab
namespace Go.Dr.T
set_option maxRecDepth 100000 in
set_option maxHeartbeats 20000000 in
theorem traceR_any {c d:Bool} {l:List Fm} {W H:Nat} {ss:List Sp} {i q:Nat} {v:V} (o:FOk l W H) (hL:ss.length≤20) (p:∀ s∈ss,SOk s l.length W H) (he:(csE l ss).2=0) (hi:i<l.length) (hq:q<W * H)
  (hok:(∀ k,k<ss.length→trOk W H l ss i q k)→v = .tup [.agg [.int .i64 (i:Nat),.int .i64 ((tr W H l ss i q ss.length).q:Nat)],inR (tr W H l ss i q ss.length).b.reverse,.int .i64 0])
  (hno:∀ k:Nat,k<ss.length→(∀ j,j<k→trOk W H l ss i q j)→¬ trOk W H l ss i q k→v = .tup [.agg [.int .i64 (-1),.int .i64 (-1)],inR ((tr W H l ss i q k).b++[((ss.length - (k+1):Nat):Int)]).reverse,.int .i64 0]):Fun FB md 25 [.sl c l.length (fmC l),.sl d ss.length (spC ss),.int .i64 (i:Nat),.int .i64 (q:Nat)] v:=by
 have k1:=cstepsR_ok (c:=c) (d:=d) (l:=l) (ss:=ss)
 rw [he] at k1
 generalize (csE l ss).1=e1 at *
 have k4:=in_ok (n:=(i:Int)) (lo:=0) (hi:=(l.length:Int) - 1)
 have k5:=in_ok (n:=(q:Int)) (lo:=0) (hi:=((W * H:Nat):Int) - 1)
 rw [show outB (i:Int) 0 ((l.length:Int) - 1)=false by simp only [outB,Bool.or_eq_false_iff,decide_eq_false_iff_not];omega] at k4
 rw [show outB (q:Int) 0 (((W * H:Nat):Int) - 1)=false by simp only [outB,Bool.or_eq_false_iff,decide_eq_false_iff_not];omega] at k5
 have hnn:=o.nn
 have hn12:=o.n12
 have hn0:=o.n0
 have o3:=o.w
 have o4:=o.h
 obtain ⟨f0,hf0,h0w,_,h0p⟩:=o.at o.n0
 obtain ⟨b0,_,b2⟩:=fm_c hf0
 rw [h0w] at b0
 rw [h0p] at b2
 have hlw:IntKind.i64.wrap ((l.length:Int) - 1)=(l.length:Int) - 1:=wrap_i64 (by omega) (by omega)
 have hpw:IntKind.i64.wrap (((W * H:Nat):Int) - 1)=((W * H:Nat):Int) - 1:=wrap_i64 (by omega) (by omega)
 refine fun_of rfl rfl ?_
 repeat' (first
 | (conv=>whnf)
   first
   | refine Bnd.eq hlw ?_
   | refine Bnd.eq hpw ?_
   | refine Br.t ?_
   | refine Br.f ?_
   | refine Get.mk _ b2 ?_
   | refine Req.mk hn0 ?_
   | refine call_fun rfl rfl k1 (.inl rfl) ?_
   | refine call_fun rfl rfl k4 (.inl rfl) ?_
   | refine call_fun rfl rfl k5 (.inl rfl) ?_
   | (refine Idx.int ?_ ?_ ?_;(focus omega);(focus omega))
   | refine Get.mk _ rfl ?_)
 all_goals try (exfalso;omega;done)
 clear k1 k4 k5 hlw hpw b2
 refine LoopP.by (fun a:RTS=>a.i≤ss.length∧RH (a.i+1) (fsC c W H l ss (a.i+1)) a.v a.G) (fun a=>[(13,a.v),(14,.int .i64 (a.i:Nat))]) (fun a=>a.G) (fun a=>ss.length - a.i) ⟨0,_,_⟩ ⟨Nat.zero_le _,?_,?_,rfl,.inl ⟨rfl,rfl⟩⟩ rfl ?_
 ·rfl
 ·exact Nat.le_refl _
 rintro ⟨k,fv,G⟩ ⟨w1,w2⟩
 dsimp only at w1 w2 ⊢
 have hGl:=w2.le
 by_cases hk:k<ss.length
 ·obtain ⟨s,hs⟩:∃ s,ss[k]?=some s:=⟨_,List.getElem?_eq_getElem hk⟩
  have hp:=spC_part hs
  obtain ⟨C,kd⟩:=fsV_next (c:=c) (W:=W) (H:=H) (ss:=ss) o (p s (List.mem_of_getElem? hs)) hs
  have kd:=kd.any
  have hat:=fsC_at (c:=c) (W:=W) (H:=H) (l:=l) (ss:=ss) (n:=k+1) (k:=k) (by omega)
  have hkw:IntKind.i64.wrap ((k:Int)+1)=((k+1:Nat):Int):=by rw [wrap_i64 (by omega) (by omega)];omega
  have hkl:k≤ss.length - 1:=by omega
  have hkk:k≤k+1 - 1:=by omega
  have hk1:0<k+1:=by omega
  have h0l:0<ss.length:=by omega
  have hsn:=fsC_snoc (c:=c) (W:=W) (H:=H) (l:=l) (ss:=ss) (n:=k+1)
  have hfl:=fsC_len (c:=c) (W:=W) (H:=H) (l:=l) (ss:=ss) (n:=k+1)
  rcases w2.fv with ⟨h0,rfl⟩ | ⟨r,r1,rfl,hr⟩
  ·obtain rfl:k=0:=by omega
   have hV0:fsV c W H l ss 0 = .sl c l.length (fmC l):=rfl
   have hf:RH 2 (fsC c W H l ss (0+1+1)) (.ms 1 (G.length+1) 2 0 2 false) (G++[.unborn,.blk (fsC c W H l ss (0+1+1)) false]):=RH.first (x:=fsV c W H l ss 0) (y:=fsV c W H l ss (0+1)) w2 (fun _=>fsV_blo) (fun _=>fsV_blo)
   rw [hV0] at kd
   rw [fsC_one,hV0]
   rw [fsC_one,hV0] at hat
   repeat' (first
 | (conv=>whnf)
   first
   | refine Bnd.eq hkw ?_
   | (refine Br.decT ?_ ?_;(focus first | assumption | omega))
   | refine fLen.mk ?_
   | refine fB.i0 ?_
   | refine fB.i1 ?_
   | refine Get.mk _ hp ?_
   | refine Idx.nat hkl ?_
   | refine Req.mk h0l ?_
   | refine call_fun rfl rfl kd (.inl rfl) ?_
   | refine Req.mk ⟨rfl,bget_new (i:=1)⟩ ?_
   | refine Get.mk _ (bget_new (i:=1)) ?_
   | refine fB.newj 1 rfl ?_
   | refine fB.mk ?_
   | (refine Idx.nat ?_ ?_;(focus omega))
   | (refine Ifz.pos ?_ ?_;(focus omega))
   | refine Get.mk _ rfl ?_
   | (refine Req.mk ?_ ?_;(focus first | rfl | decide | exact ⟨rfl,rfl⟩ | exact ⟨rfl,by decide⟩ | exact (fun _=>rfl) | exact (fun h=>nomatch h) | (simp;done) | omega | (simp [big];done) | exact le_big (by omega) | exact lt_big (by omega))))
   all_goals try (exfalso;omega;done)
   exact NextP.of (fun h=>RTS.mk 1 (.ms 1 (G.length+1) 2 0 2 false) h) ⟨hk,hf.norm (j:=13) (by exact Nat.le_refl _) (by rw [List.length_append];show 2≤_;omega) rfl⟩ (by dsimp only;omega) rfl
  ·have hsz:∀ a:V,0+(k+1) * 1=k+1∧((fsC c W H l ss (k+1)).length+[a].length) * (24+1)<big:=fun a=>⟨by omega,by rw [hfl];unfold big;simp;omega⟩
   obtain ⟨dk,Ck,hVk⟩:∃ dk Ck,fsV c W H l ss k = .sl dk l.length Ck:=by
    unfold fsV
    split
    ·exact ⟨_,_,rfl⟩
    ·exact ⟨_,_,rfl⟩
   obtain ⟨dn,Cn,hVn⟩:∃ dk Ck,fsV c W H l ss (k+1) = .sl dk l.length Ck:=⟨_,_,rfl⟩
   have hrl:=bget_lt hr
   have hf:=w2.more (y:=fsV c W H l ss (k+1)) (X:=[.unborn,.unborn]) (fun m=>by rw [← hsn];exact fsC_blos) ⟨rfl,rfl,trivial⟩
   rw [← hsn] at hf
   rw [hVk,hVn] at kd
   rw [hVk] at hat
   have hat:cellAt (fsC c W H l ss (k+1)) (0+k * 1)=some (.sl dk l.length Ck):=by rw [Nat.zero_add];exact hat
   repeat' (first
 | (conv=>whnf)
   first
   | refine Bnd.eq hkw ?_
   | (refine Br.decT ?_ ?_;(focus first | assumption | omega))
   | refine fLen.mk ?_
   | refine fB.i0 ?_
   | refine fB.i1 ?_
   | refine Get.mk _ hp ?_
   | refine Get.mk _ hr ?_
   | refine Get.mk _ (bget_app hr) ?_
   | refine Get.mk _ hat ?_
   | refine Idx.nat hkl ?_
   | refine Idx.nat hkk ?_
   | refine Req.mk h0l ?_
   | refine Req.mk hfl ?_
   | refine Req.mk (hsz _) ?_
   | refine call_fun rfl rfl kd (.inl rfl) ?_
   | refine fB.mk ?_
   | (refine Ifz.pos ?_ ?_;(focus omega))
   | refine Get.mk _ rfl ?_
   | (refine Req.mk ?_ ?_;(focus first | rfl | decide | exact ⟨rfl,rfl⟩ | exact ⟨rfl,by decide⟩ | exact (fun _=>rfl) | exact (fun h=>nomatch h) | (simp;done) | omega | (simp [big];done) | exact le_big (by omega) | exact lt_big (by omega))))
   all_goals try (exfalso;omega;done)
   rw [show fsC c W H l ss (k+1)++[.sl dn l.length Cn]=fsC c W H l ss (k+1+1) by rw [hsn,hVn]]
   exact NextP.of (fun h=>RTS.mk (k+1) (.ms 1 r (k+1+1) 0 (k+1+1) false) h) ⟨hk,hf.norm (j:=13) (by exact Nat.le_refl _) (by rw [bset_len,List.length_append];show 2≤_;omega) rfl⟩ (by dsimp only;omega) rfl
 obtain rfl:k=ss.length:=by omega
 have hnw:IntKind.i64.wrap ((ss.length:Int) - 1)=bIx ss.length 0:=by rw [wrap_i64 (by omega) (by omega)];unfold bIx;omega
 have hGl2:=w2.le
 obtain ⟨r,hr⟩:∃ r,∀ t m,fv = .ms 1 t m 0 m false→t=r:=by
  rcases w2.fv with ⟨_,rfl⟩ | ⟨r,_,rfl,_⟩
  ·exact ⟨0,fun t m h=>by cases h⟩
  ·exact ⟨r,fun t m h=>by cases h;rfl⟩
 repeat' (first
 | (conv=>whnf)
   first
   | refine Bnd.eq hnw ?_
   | (refine Br.decF ?_ ?_;(focus first | assumption | omega))
   | refine fLen.mk ?_
   | refine fB.i0 ?_
   | refine fB.mk ?_)
 all_goals try (exfalso;omega;done)
 refine LoopP.by (fun a:RT2=>a.k≤ss.length∧(∀ j,j<a.k→trOk W H l ss i q j)∧RH (ss.length+1) (fsC c W H l ss (ss.length+1)) fv a.G∧BV r a.G (tr W H l ss i q a.k).b.reverse a.v∧G.length≤a.G.length) (fun a=>[(3,.int .i64 ((tr W H l ss i q a.k).q:Nat)),(17,a.v),(18,.int .i64 (bIx ss.length a.k))]) (fun a=>a.G) (fun a=>ss.length - a.k) ⟨0,.nilsl,_⟩ ⟨Nat.zero_le _,fun j hj=>absurd hj (Nat.not_lt_zero _),w2,.inl ⟨rfl,rfl⟩,Nat.le_refl _⟩ rfl ?_
 rintro ⟨m,bv,G2⟩ ⟨u1,u2,u3,u4,u5⟩
 dsimp only at u1 u2 u3 u4 u5 ⊢
 have hG2:=u3.le
 by_cases hm:m<ss.length
 rotate_left
 ·obtain rfl:m=ss.length:=by omega
  have hb:bIx ss.length ss.length = -1:=by unfold bIx;omega
  rw [hb,hok u2]
  have d0:=u3.b0
  have hv:=fun (b:B) (d:Nat)=>(u4.set0 (b:=b)).vw2 (d:=d)
  generalize inR (tr W H l ss i q ss.length).b.reverse=bw at *
  generalize (tr W H l ss i q ss.length).q=qe at *
  have hfr:bv = .nilsl∨(∃ j:Int,bv = .sl true 1 [.int .i64 j])∨∃ t n,bv = .ms 1 t n 0 n false:=by
   rcases u4 with ⟨_,h⟩ | ⟨j,_,h⟩ | ⟨t,_,_,_,h,_⟩
   ·exact .inl h
   ·exact .inr (.inl ⟨j,h⟩)
   ·exact .inr (.inr ⟨t,_,h⟩)
  rcases hfr with rfl | ⟨j,rfl⟩ | ⟨t,n,rfl⟩
  all_goals
   repeat' (first
 | (conv=>whnf)
   first
   | refine Br.f ?_
   | refine fLen.mk ?_
   | refine fB.i0 ?_
   | refine fB.mk ?_
   | refine Get.mk _ d0 ?_
   | refine res_traceR rfl (bget_same (bget_lt d0)) ?_
   | exact hv _ _
   | refine Get.mk _ rfl ?_
   | refine Leaves.of ?_
   | refine Vw.int ?_
   | refine Vw.tup ?_
   | refine Vw.agg ?_
   | refine VwL.cons ?_ ?_
   | refine VwL.nil
   | (refine Req.mk ?_ ?_;(focus first | rfl | decide | exact ⟨rfl,rfl⟩ | exact ⟨rfl,by decide⟩ | exact (fun _=>rfl) | exact (fun h=>nomatch h) | (simp;done) | omega | (simp [big];done) | exact le_big (by omega) | exact lt_big (by omega))))
   all_goals first | rfl | exact hv _ _ | (exfalso;omega;done) | skip
 have hb:bIx ss.length m=((ss.length - (m+1):Nat):Int):=by unfold bIx;omega
 rw [hb]
 obtain ⟨s,hcs⟩:∃ s,ss[ss.length - (m+1)]?=some s:=⟨_,List.getElem?_eq_getElem (by omega)⟩
 have hlt:=tr_lt o3.1 hq u2
 rcases u3.fv with ⟨h0,_⟩ | ⟨r', r1,rfl,hrb⟩
 ·omega
 obtain rfl:=hr _ _ rfl
 obtain ⟨f', hf', _,_,hfp'⟩:=(fK_ok (ss:=ss) (k:=ss.length - (m+1)) o).at (i:=i) (by rw [fK_len];exact hi)
 refine fV.mk ?_
 refine fB.mk ?_
 cases hkp:keepB s i ((tr W H l ss i q m).q % W:Nat) ((tr W H l ss i q m).q / W:Nat) with
 | true=>exact stepR_kept (f0:=f0) o hL p hi hm hcs rfl hlt u2 u3 u4 u5 hGl2 hkp
 | false =>
  cases hyy:tY (fK W H l ss (ss.length - (m+1))) W H s i (tr W H l ss i q m).q with
  | false =>
   by_cases h1:s.k=1
   ·have hz:s.a=0∧s.b=0:=by
     have h2:=hyy
     unfold tY at h2
     rw [if_pos h1,hkp] at h2
     simpa using h2
    exact stepR_zero (f0:=f0) o hL p hi hm hcs rfl hlt u2 u3 u4 u5 hGl2 hkp h1 hz.1 hz.2
   ·exact stepR_same (f0:=f0) o hL p hi hm hcs rfl hlt u2 u3 u4 u5 hGl2 hkp h1 hyy
  | true =>
   by_cases h1:s.k=1
   ·cases hin:tO l.length W H s i (tr W H l ss i q m).q with
    | true=>exact stepR_in (f0:=f0) o hL p hi hm hcs rfl hlt u2 u3 u4 u5 hGl2 hkp h1 hyy hin
    | false =>
     have hv:=hno m hm u2 fun h=>by
      have:=h s hcs h1 hyy
      rw [hin] at this
      cases this
     exact stepR_out (f0:=f0) o hL p hi hm hcs rfl hlt u2 u3 u4 u5 hGl2 hkp h1 hyy hin hv fun _ h=>h
   ·exact stepR_diff (f0:=f0) o hL p hi hm hcs rfl hlt u2 u3 u4 u5 hGl2 hkp h1 hyy
end Go.Dr.T
namespace Go.Dr.T
theorem out_nat {x:Int} {n:Nat} (h:¬ outB x 0 ((n:Int) - 1)=true):∃ i:Nat,x=(i:Int)∧i<n:=by
 simp only [outB,Bool.or_eq_true,decide_eq_true_eq] at h
 exact ⟨x.toNat,by omega,by omega⟩
theorem trR_e {W H:Nat} {l:List Fm} {ss:List Sp} {i q:Nat}:(trR W H l ss i q).e=0∧(trR W H l ss i q).by'.length≤ss.length:=by
 by_cases hall:∀ k,k<ss.length→trOk W H l ss i q k
 ·rw [trR_ok hall]
  exact ⟨rfl,by rw [List.length_reverse];exact tr_len⟩
 ·obtain ⟨k,hk,hpre,hno⟩:=tr_first hall
  rw [trR_no hk hpre hno]
  refine ⟨rfl,?_⟩
  rw [List.length_reverse,List.length_append]
  have:=tr_len (W:=W) (H:=H) (l:=l) (ss:=ss) (i:=i) (q:=q) (k:=k)
  simp only [List.length_cons,List.length_nil]
  omega
theorem trace_fun {c d:Bool} {l:List Fm} {W H:Nat} {ss:List Sp} {i q:Nat} (o:FOk l W H) (hL:ss.length≤20) (p:∀ s∈ss,SOk s l.length W H) (he:(csE l ss).2=0) (hi:i<l.length) (hq:q<W * H):FunF FB md 24 [.sl c l.length (fmC l),.sl d ss.length (spC ss),.int .i64 (i:Nat),.int .i64 (q:Nat)] (trR W H l ss i q).v :=
 trace_any o hL p he hi hq (fun h=>by rw [trR_ok h];rfl) fun k hk hpre hno=>by rw [trR_no hk hpre hno];rfl
theorem traceR_fun {c d:Bool} {l:List Fm} {W H:Nat} {ss:List Sp} {i q:Nat} (o:FOk l W H) (hL:ss.length≤20) (p:∀ s∈ss,SOk s l.length W H) (he:(csE l ss).2=0) (hi:i<l.length) (hq:q<W * H):Fun FB md 25 [.sl c l.length (fmC l),.sl d ss.length (spC ss),.int .i64 (i:Nat),.int .i64 (q:Nat)] (.tup [.agg [.int .i64 (trR W H l ss i q).a,.int .i64 (trR W H l ss i q).b],inR (trR W H l ss i q).by', .int .i64 0]) :=
 traceR_any o hL p he hi hq (fun h=>by rw [trR_ok h]) fun k hk hpre hno=>by rw [trR_no hk hpre hno]
set_option maxRecDepth 100000 in
set_option maxHeartbeats 20000000 in
theorem law_traces {c d:Bool} {l:List Fm} {ss:List Sp} {x y:Int}:Fun FB1 md 4 [.sl c l.length (fmC l),.sl d ss.length (spC ss),.agg [.int .i64 x,.int .i64 y]] (.bool true):=by
 have k4:=awake
 obtain ⟨A,B,L,e,d1,d2,hL,k1,k2⟩:∃ (A B:Int) (L:List Int) (e:Int) (d1 d2:Bool),L.length≤1000000∧Fun FB1 md 24 [.sl c l.length (fmC l),.sl d ss.length (spC ss),.int .i64 x,.int .i64 y] (.tup [.agg [.int .i64 A,.int .i64 B],.sl d1 L.length (ofInts L),.int .i64 e])∧Fun FB1 md 25 [.sl c l.length (fmC l),.sl d ss.length (spC ss),.int .i64 x,.int .i64 y] (.tup [.agg [.int .i64 A,.int .i64 B],.sl d2 L.length (ofInts L),.int .i64 e]):=by
  by_cases he:(csE l ss).2=0
  ·obtain ⟨W,H,o,h20,p⟩:=csE_zero he
   by_cases h:outB x 0 ((l.length:Int) - 1)=true∨outB y 0 (((W * H:Nat):Int) - 1)=true
   ·exact ⟨0,0,[],4,_,_,Nat.zero_le _,tabF (FunF.fun (trace_none o he h)),tabF (traceR_none o he h)⟩
   ·obtain ⟨i,rfl,hi⟩:=out_nat fun h1=>h (.inl h1)
    obtain ⟨q,rfl,hq⟩:=out_nat fun h1=>h (.inr h1)
    have h1:=trR_e (W:=W) (H:=H) (l:=l) (ss:=ss) (i:=i) (q:=q)
    have h2:=trace_fun (c:=c) (d:=d) o h20 p he hi hq
    have h3:=traceR_fun (c:=c) (d:=d) o h20 p he hi hq
    unfold TrR.v at h2
    rw [h1.1] at h2
    exact ⟨_,_,(trR W H l ss i q).by', 0,_,_,by omega,tabF (FunF.fun h2),tabF h3⟩
  ·exact ⟨0,0,[],_,_,_,Nat.zero_le _,tabF (FunF.fun (trace_bad he)),tabF (traceR_bad he)⟩
 have k3:=(ints_same (c:=d1) (d:=d2) (A:=L) hL).tab sub1
 have heq:eqc [0,0] [.int .i64 A,.int .i64 B] [.int .i64 A,.int .i64 B]=some true:=by simp [eqc,eq1]
 refine fun_of rfl rfl ?_
 repeat' (first
 | (conv=>whnf)
   first
   | refine Br.t ?_
   | (refine Br.decT ?_ ?_;(focus first | assumption | omega))
   | refine Get.mk _ heq ?_
   | refine call_fun rfl rfl k1 (.inl rfl) ?_
   | refine call_fun rfl rfl k2 (.inl rfl) ?_
   | refine call_fun rfl rfl k3 (.inl rfl) ?_
   | refine call_fun rfl rfl k4 (.inl rfl) ?_
   | refine Get.mk _ rfl ?_
   | refine Leaves.of ?_
   | refine Vw.bool ?_
   | (refine Req.mk ?_ ?_;(focus first | rfl | decide | exact ⟨rfl,rfl⟩ | exact ⟨rfl,by decide⟩ | exact (fun _=>rfl) | exact (fun h=>nomatch h) | (simp;done) | omega | (simp [big];done) | exact le_big (by omega) | exact lt_big (by omega))))
 all_goals first | rfl | (exfalso;omega;done)
end Go.Dr.T
namespace Go.Dr.T
theorem hasInt {l:List V} (h:(Ty.int .i64).has l):∃ n:Int,l=[.int .i64 n]:=by
 simp only [Ty.has] at h
 obtain ⟨n,rfl,h1,h2⟩:=h
 exact ⟨n,rfl⟩
end Go.Dr.T
namespace Go.Dr.T
theorem bytes_cells:∀ {xs:List (List V)},(∀ x∈xs,x.length=1∧(Ty.int .u8).has x)→∃ l:List UInt8,xs.flatten=ofBytes l∧xs.length=l.length
 | [],_=>⟨[],rfl,rfl⟩
 | x :: xs,h=>by
  obtain ⟨l,h1,h2⟩:=bytes_cells (xs:=xs) fun y hy=>h y (by simp [hy])
  obtain ⟨_,hx⟩:=h x (by simp)
  simp only [Ty.has] at hx
  obtain ⟨n,rfl,h3,h4⟩:=hx
  simp only [IntKind.min,IntKind.max,IntKind.signed,IntKind.bits,Bool.false_eq_true,if_false] at h3 h4
  have h4' : n≤255:=by simpa using h4
  refine ⟨UInt8.ofNat n.toNat :: l,?_,by simp [h2]⟩
  have e:((UInt8.ofNat n.toNat).toNat:Int)=n:=by
   rw [UInt8.toNat_ofNat_of_lt' (by show n.toNat<256;omega)];omega
  simp only [List.flatten_cons,h1,ofBytes,e];rfl
theorem hasBytes {l:List V} (h:(Ty.slice 1 (.int .u8)).has l):∃ p:List UInt8,l=[.sl false p.length (ofBytes p)]:=by
 rw [Ty.has] at h
 obtain ⟨xs,rfl,hx⟩:=h
 obtain ⟨p,h1,h2⟩:=bytes_cells hx
 exact ⟨p,by rw [h1,h2]⟩
abbrev TyFm:Ty:=.agg [.int .i64,.int .i64,.slice 1 (.int .u8)]
theorem fm_all {l:List V} (h:Ty.hasAll [.int .i64,.int .i64,.slice 1 (.int .u8)] l):∃ f:Fm,l=[.int .i64 f.w,.int .i64 f.h,.sl f.c f.p.length (ofBytes f.p)]:=by
 simp only [Ty.hasAll] at h
 obtain ⟨a,b,rfl,ha,c,d,rfl,hc,e,f,rfl,he,rfl⟩:=h
 obtain ⟨w,rfl⟩:=hasInt ha
 obtain ⟨h,rfl⟩:=hasInt hc
 obtain ⟨p,rfl⟩:=hasBytes he
 exact ⟨⟨false,w,h,p⟩,rfl⟩
theorem fms_cells:∀ {xs:List (List V)},(∀ x∈xs,x.length=3∧TyFm.has x)→∃ l:List Fm,xs.flatten=fmC l∧xs.length=l.length
 | [],_=>⟨[],rfl,rfl⟩
 | x :: xs,h=>by
  obtain ⟨l,h1,h2⟩:=fms_cells (xs:=xs) fun y hy=>h y (by simp [hy])
  obtain ⟨_,hx⟩:=h x (by simp)
  obtain ⟨y,rfl⟩:=fm_all (by simpa only [Ty.has] using hx)
  exact ⟨y :: l,by simp only [List.flatten_cons,h1];rfl,by simp [h2]⟩
abbrev TyFms:Ty:=.slice 3 TyFm
theorem fms_val {v:V} (h:TyFms.val v):∃ l:List Fm,v = .sl false l.length (fmC l):=by
 rw [TyFms] at h
 simp only [Ty.val] at h
 rw [Ty.has] at h
 obtain ⟨xs,e,hx⟩:=h
 simp only [List.cons.injEq,and_true] at e
 subst e
 obtain ⟨l,h1,h2⟩:=fms_cells (xs:=xs) hx
 exact ⟨l,by rw [h1,h2]⟩
abbrev TyBx:Ty:=.agg [.int .i64,.int .i64,.int .i64,.int .i64]
theorem bx_all {l:List V} (h:Ty.hasAll [.int .i64,.int .i64,.int .i64,.int .i64] l):∃ x:Bx,l=bxV x:=by
 simp only [Ty.hasAll] at h
 obtain ⟨a,b,rfl,ha,c,d,rfl,hc,e,f,rfl,he,g,i,rfl,hg,rfl⟩:=h
 obtain ⟨w,rfl⟩:=hasInt ha
 obtain ⟨h,rfl⟩:=hasInt hc
 obtain ⟨p,rfl⟩:=hasInt he
 obtain ⟨q,rfl⟩:=hasInt hg
 exact ⟨⟨w,h,p,q⟩,rfl⟩
theorem bxs_cells:∀ {xs:List (List V)},(∀ x∈xs,x.length=4∧TyBx.has x)→∃ l:List Bx,xs.flatten=bxC l∧xs.length=l.length
 | [],_=>⟨[],rfl,rfl⟩
 | x :: xs,h=>by
  obtain ⟨l,h1,h2⟩:=bxs_cells (xs:=xs) fun y hy=>h y (by simp [hy])
  obtain ⟨_,hx⟩:=h x (by simp)
  obtain ⟨y,rfl⟩:=bx_all (by simpa only [Ty.has] using hx)
  exact ⟨y :: l,by simp only [List.flatten_cons,h1];rfl,by simp [h2]⟩
theorem hasBxs {l:List V} (h:(Ty.slice 4 TyBx).has l):∃ p:List Bx,l=[.sl false p.length (bxC p)]:=by
 rw [Ty.has] at h
 obtain ⟨xs,rfl,hx⟩:=h
 obtain ⟨p,h1,h2⟩:=bxs_cells hx
 exact ⟨p,by rw [h1,h2]⟩
abbrev TySp:Ty:=.agg [.int .i64,.int .i64,.int .i64,.slice 4 TyBx,.int .i64,.int .i64,.int .i64,.slice 1 (.int .u8)]
theorem sp_all {l:List V} (h:Ty.hasAll [.int .i64,.int .i64,.int .i64,.slice 4 TyBx,.int .i64,.int .i64,.int .i64,.slice 1 (.int .u8)] l):∃ s:Sp,l=spV s:=by
 simp only [Ty.hasAll] at h
 obtain ⟨a1,b1,rfl,h1,a2,b2,rfl,h2,a3,b3,rfl,h3,a4,b4,rfl,h4,a5,b5,rfl,h5,a6,b6,rfl,h6,a7,b7,rfl,h7,a8,b8,rfl,h8,rfl⟩:=h
 obtain ⟨n1,rfl⟩:=hasInt h1
 obtain ⟨n2,rfl⟩:=hasInt h2
 obtain ⟨n3,rfl⟩:=hasInt h3
 obtain ⟨n4,rfl⟩:=hasBxs h4
 obtain ⟨n5,rfl⟩:=hasInt h5
 obtain ⟨n6,rfl⟩:=hasInt h6
 obtain ⟨n7,rfl⟩:=hasInt h7
 obtain ⟨n8,rfl⟩:=hasBytes h8
 exact ⟨⟨n1,n2,n3,false,n4,n5,n6,n7,false,n8⟩,rfl⟩
end Go.Dr.T
namespace Go.Dr.T
theorem sps_cells:∀ {xs:List (List V)},(∀ x∈xs,x.length=8∧TySp.has x)→∃ l:List Sp,xs.flatten=spC l∧xs.length=l.length
 | [],_=>⟨[],rfl,rfl⟩
 | x :: xs,h=>by
  obtain ⟨l,h1,h2⟩:=sps_cells (xs:=xs) fun y hy=>h y (by simp [hy])
  obtain ⟨_,hx⟩:=h x (by simp)
  obtain ⟨y,rfl⟩:=sp_all (by rw [TySp,Ty.has] at hx;exact hx)
  exact ⟨y :: l,by simp only [List.flatten_cons,h1];rfl,by simp [h2]⟩
abbrev TySps:Ty:=.slice 8 TySp
theorem sps_val {v:V} (h:TySps.val v):∃ l:List Sp,v = .sl false l.length (spC l):=by
 rw [TySps] at h
 simp only [Ty.val] at h
 rw [Ty.has] at h
 obtain ⟨xs,e,hx⟩:=h
 simp only [List.cons.injEq,and_true] at e
 subst e
 obtain ⟨l,h1,h2⟩:=sps_cells (xs:=xs) hx
 exact ⟨l,by rw [h1,h2]⟩
end Go.Dr.T
namespace Go.Dr.T
abbrev TyAt:Ty:=.agg [.int .i64,.int .i64]
theorem at_val {v:V} (h:TyAt.val v):∃ x y:Int,v = .agg [.int .i64 x,.int .i64 y]:=by
 rw [TyAt] at h
 simp only [Ty.val] at h
 obtain ⟨l,rfl,h⟩:=h
 simp only [Ty.hasAll] at h
 obtain ⟨a,b,rfl,ha,c,d,rfl,hc,rfl⟩:=h
 obtain ⟨x,rfl⟩:=hasInt ha
 obtain ⟨y,rfl⟩:=hasInt hc
 exact ⟨x,y,rfl⟩
end Go.Dr.T
namespace Go.Dr.T
theorem tab_mono {P:Program} {name:String} {kk:IntKind} {zs:List Int} {g:Nat} (hg:P.globalNamed name=some g) {w w' : World} (h:Go.RowKit.Below (g+1) w w') (t:Lib.TabIs P w name kk zs):Lib.TabIs P w' name kk zs:=by
 unfold Lib.TabIs World.var? at t ⊢
 rw [hg] at t ⊢
 simp only [Option.bind_some] at t ⊢
 rw [h.block g (Nat.lt_succ_self g)]
 exact t
theorem tab_size {P:Program} {name:String} {kk:IntKind} {zs:List Int} {g:Nat} (hg:P.globalNamed name=some g) {w:World} (t:Lib.TabIs P w name kk zs):g+1≤w.heap.size:=by
 unfold Lib.TabIs World.var? at t
 rw [hg] at t
 simp only [Option.bind_some] at t
 split at t
 ·rename_i h
  exact (Array.getElem?_eq_some_iff.1 h).1
 ·cases t
theorem tab_in {P:Program} {W:World} {name:String} {kk:IntKind} {zs:List Int} {g t e n:Nat}
  (hg:P.globalNamed name=some g) (hty:(P.globals[g]?).map (·.type)=some t) (ht:P.underlying t=some (.array n e)) (he:P.underlying e=some (.int kk)) (hce:P.cellsOf e=1) (hct:P.cellsOf t=n) :
  ∀ {l:List (String × DataW Unit)} {ps:List MemPlace},DataW.LaidVars P W l ps→(name,Lib.tabData kk zs)∈l→Lib.TabIs P W name kk zs
 | [],_,_,hm=>by cases hm
 | (n', d) :: l,ps,h,hm=>by
  obtain ⟨g', t', cs,fuel,p,q,hg', ht', hvar,hd,hr,_⟩:=h
  rcases List.mem_cons.1 hm with e0 | hm
  ·cases e0
   obtain rfl:=Option.some.inj (hg.symm.trans hg')
   obtain rfl:=Option.some.inj (hty.symm.trans ht')
   unfold Lib.TabIs
   rw [hvar, ← Lib.cells_of_tab ht he hce hct hd]
  ·exact tab_in hg hty ht he hce hct hr hm
end Go.Dr.T
