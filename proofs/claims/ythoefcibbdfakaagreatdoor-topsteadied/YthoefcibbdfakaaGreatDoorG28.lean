/- Top, of chapter 08: Trace. -/
import Derived.Test.YthoefcibbdfakaaGreatDoorR18Tk
import Derived.Test.YthoefcibbdfakaaGreatDoorG27
import Derived.Test.YthoefcibbdfakaaGreatDoorG24
import Derived.Test.YthoefcibbdfakaaGreatDoorG15
namespace Go.Dr.T
theorem Qlj {tm:List V} {c:Bool} {l:List Fm} {W H:Nat} {ss:List Sp} {i q k:Nat} {s:Sp} {v:V} {G:List B} {K:V→List B→Prop} (htm:tm=TM24 (tg tm)) (o:FOk l W H) (hL:ss.length≤20) (p:∀ s∈ss,SOk s l.length W H) (hi:i<l.length) (hk:k<ss.length) (hcs:ss[ss.length - (k+1)]?=some s) (hok1:trOk W H l ss i q k) (hx:(tr W H l ss i q k).q<W * H) (hS:TH (.sl c l.length (fmC l)) i i (tr W H l ss i q k).q (.sl (decide (rnC W H (czF l) ss=[])) (rnC W H (czF l) ss).length (lgC (rnC W H (czF l) ss))) (.lop true .nrm tm [59,60] AS24 BO24) (tr W H l ss i q k).b v G) (hK:∀ v' G', G.length≤G'.length→TH (.sl c l.length (fmC l)) i i (tr W H l ss i q (k+1)).q (.sl (decide (rnC W H (czF l) ss=[])) (rnC W H (czF l) ss).length (lgC (rnC W H (czF l) ss))) (.lop true .nrm tm [59,60] AS24 BO24) (tr W H l ss i q (k+1)).b v' G' → K (.bool true) G'):CallP FB md 0 (.yld 6) [.int .i64 ((ss.length - (k+1):Nat):Int),.agg (spV s)] G K:=by
 obtain ⟨X,rfl⟩:∃ X,tm=TM24 X:=⟨_,htm⟩
 clear htm
 by_cases h1:s.k=1
 ·cases hkp:Q37 s i ((tr W H l ss i q k).q % W:Nat) ((tr W H l ss i q k).q / W:Nat) with
  | true=>exact Qfu (X:=X) o hL p hi hk hcs hok1 hx hS hK h1 hkp
  | false =>
   by_cases hab:s.a=0∧s.b=0
   ·exact Qft (X:=X) o hL p hi hk hcs hok1 hx hS hK h1 hkp hab.1 hab.2
   ·exact Qhj (X:=X) o hL p hi hk hcs hok1 hx hS hK h1 hkp hab
 ·exact Qc6 (X:=X) o hL p hi hk hcs hok1 hx hS hK h1
theorem Qlh {tm:List V} {c:Bool} {l:List Fm} {W H:Nat} {ss:List Sp} {i q k:Nat} {s:Sp} {v:V} {G:List B} {K:V→List B→Prop} (htm:tm=TM24 (tg tm)) (o:FOk l W H) (hL:ss.length≤20) (p:∀ s∈ss,SOk s l.length W H) (hi:i<l.length) (hk:k<ss.length) (hcs:ss[ss.length - (k+1)]?=some s) (hno1:¬ trOk W H l ss i q k) (hx:(tr W H l ss i q k).q<W * H) (hS:TH (.sl c l.length (fmC l)) i i (tr W H l ss i q k).q (.sl (decide (rnC W H (czF l) ss=[])) (rnC W H (czF l) ss).length (lgC (rnC W H (czF l) ss))) (.lop true .nrm tm [59,60] AS24 BO24) (tr W H l ss i q k).b v G) (hK:∀ G', G.length≤G'.length→(∃ v' tn ps as bo,TH (.sl c l.length (fmC l)) i (-1) (-1) (.sl (decide (rnC W H (czF l) ss=[])) (rnC W H (czF l) ss).length (lgC (rnC W H (czF l) ss))) (.lop false .ret tn ps as bo) ((tr W H l ss i q k).b++[((ss.length - (k+1):Nat):Int)]).reverse v' G')→K (.bool false) G'):CallP FB md 0 (.yld 6) [.int .i64 ((ss.length - (k+1):Nat):Int),.agg (spV s)] G K:=by
 obtain ⟨X,rfl⟩:∃ X,tm=TM24 X:=⟨_,htm⟩
 clear htm
 exact Qhi (X:=X) o hL p hi hk hcs hno1 hx hS hK
set_option maxRecDepth 100000 in
set_option maxHeartbeats 20000000 in
theorem Qhl {c d:Bool} {l:List Fm} {W H:Nat} {ss:List Sp} {i q:Nat} {v:V} (o:FOk l W H) (hL:ss.length≤20) (p:∀ s∈ss,SOk s l.length W H) (he:(csE l ss).2=0) (hi:i<l.length) (hq:q<W * H)
  (hok:(∀ k,k<ss.length→trOk W H l ss i q k)→v = .tup [.agg [.int .i64 (i:Nat),.int .i64 ((tr W H l ss i q ss.length).q:Nat)],inL (tr W H l ss i q ss.length).b.reverse,.int .i64 0])
  (hno:∀ k:Nat,k<ss.length→(∀ j,j<k→trOk W H l ss i q j)→¬ trOk W H l ss i q k→v = .tup [.agg [.int .i64 (-1),.int .i64 (-1)],inL ((tr W H l ss i q k).b++[((ss.length - (k+1):Nat):Int)]).reverse,.int .i64 0]):FunF FB md 11 [.sl c l.length (fmC l),.sl d ss.length (spC ss),.int .i64 (i:Nat),.int .i64 (q:Nat)] v:=by
 have k1:=Q7h (c:=c) (d:=d) (l:=l) (ss:=ss)
 have k2:=Qo5 (c:=c) (d:=d) o hL p he
 have k3:=Qnl (cv:=.sl d ss.length (spC ss)) ⟨_,_,_,rfl⟩
 rw [he] at k1
 generalize (csE l ss).1=e1 at *
 have k4:=Q10 (n:=(i:Int)) (lo:=0) (hi:=(l.length:Int) - 1)
 have k5:=Q10 (n:=(q:Int)) (lo:=0) (hi:=((W * H:Nat):Int) - 1)
 rw [show outB (i:Int) 0 ((l.length:Int) - 1)=false by simp only [outB,Bool.or_eq_false_iff,decide_eq_false_iff_not];omega] at k4
 rw [show outB (q:Int) 0 (((W * H:Nat):Int) - 1)=false by simp only [outB,Bool.or_eq_false_iff,decide_eq_false_iff_not];omega] at k5
 have hnn:=o.nn
 have hn12:=o.n12
 have hn0:=o.n0
 have o3:=o.w
 have o4:=o.h
 obtain ⟨f0,hf0,h0w,_,h0p⟩:=o.at o.n0
 obtain ⟨b0,_,b2⟩:=fm_c hf0
 rw [h0w] at b0
 rw [h0p] at b2
 have hlw:IntKind.i64.wrap ((l.length:Int) - 1)=(l.length:Int) - 1:=wrap_i64 (by omega) (by omega)
 have hpw:IntKind.i64.wrap (((W * H:Nat):Int) - 1)=((W * H:Nat):Int) - 1:=wrap_i64 (by omega) (by omega)
 refine Qcs rfl rfl ?_
 repeat' (first
 | (conv=>whnf)
   first
   | refine Bnd.eq hlw ?_
   | refine Bnd.eq hpw ?_
   | refine Br.f ?_
   | refine Get.mk _ b2 ?_
   | refine Req.mk hn0 ?_
   | refine Q00 rfl rfl k1 (.inl rfl) ?_
   | refine Q00 rfl rfl k2 (.inl rfl) ?_
   | refine Q00 rfl rfl k3 (.inl rfl) ?_
   | refine Q00 rfl rfl k4 (.inl rfl) ?_
   | refine Q00 rfl rfl k5 (.inl rfl) ?_
   | (refine Idx.int ?_ ?_ ?_;(focus omega);(focus omega))
   | refine Get.mk _ rfl ?_
   | (refine Req.mk ?_ ?_;(focus first | rfl | decide | exact ⟨rfl,rfl⟩ | exact ⟨rfl,by decide⟩ | exact (fun _=>rfl) | exact (fun h=>nomatch h) | (simp;done) | omega | (simp [big];done) | exact Q02 (by omega) | exact Q01 (by omega))))
 all_goals try (exfalso;omega;done)
 refine Qli (l:=l) hL o3.1 hq ⟨?_,Nat.le_refl _,rfl,rfl,rfl,rfl,rfl,rfl,rfl,.inl ⟨rfl,rfl⟩⟩ rfl ?_ ?_ ?_ ?_
 ·simp [Cl,Q0v,B.blo,blos,V.blo,lgL]
 ·intro k s v G K hk hcs hok1 hx hS hK
  exact Qlj rfl o hL p hi hk hcs hok1 hx hS hK
 ·intro k s v G K hk hcs hno1 hx hS hK
  exact Qlh rfl o hL p hi hk hcs hno1 hx hS hK
 ·intro hall v2 G hS
  rw [show bget G (6+0)=_ from hS.lop]
  skip
  have hlb:=Q04 hS.cl (Q0g hS.lop)
  refine fB.lopT hS hlb ?_
  intro G2 g1 g2 hS2
  have d2:=hS2.b2
  have d3:=hS2.b3
  have d4:=hS2.b4
  have hbl:=Qak (W:=W) (H:=H) (l:=l) (ss:=ss) (i:=i) (q:=q) (k:=ss.length)
  rw [hok hall]
  rcases hS2.il.frm with rfl | ⟨r,rfl⟩
  ·repeat' (first
 | (conv=>whnf)
   first
   | refine fLen.mk ?_
   | refine fB.i0 ?_
   | refine Get.mk _ d2 ?_
   | refine Get.mk _ d3 ?_
   | refine Get.mk _ d4 ?_
   | (refine Qi1 hS2 ?_;intro hS3)
   | refine fB.as (Q0p d2) ?_
   | refine fB.as (Q0p d3) ?_
   | refine fB.as (Q0p d4) ?_
   | refine Q6q rfl rfl rfl d2 d3 d4 ?_
   | exact hS3.il.vw
   | refine Get.mk _ rfl ?_
   | refine LeavesF.of ?_
   | refine VwF.int ?_
   | refine VwF.tup ?_
   | refine VwF.agg ?_
   | refine VwLF.cons ?_ ?_
   | refine VwLF.nil
   | (refine Req.mk ?_ ?_;(focus first | rfl | decide | exact ⟨rfl,rfl⟩ | exact ⟨rfl,by decide⟩ | exact (fun _=>rfl) | exact (fun h=>nomatch h) | (simp;done) | omega | (simp [big];done) | exact Q02 (by omega) | exact Q01 (by omega))))
   all_goals first | rfl | exact hS3.il.vw | (exfalso;omega;done)
  ·repeat' (first
 | (conv=>whnf)
   first
   | refine fLen.mk ?_
   | refine fB.i0 ?_
   | refine Get.mk _ d3 ?_
   | (refine Q6p hS2 (by omega) ?_;intro G3 g3 hS3)
   | refine Get.mk _ hS3.b2 ?_
   | refine Get.mk _ hS3.b3 ?_
   | refine Get.mk _ hS3.b4 ?_
   | refine fB.as (Q0p hS3.b2) ?_
   | refine fB.as (Q0p hS3.b3) ?_
   | refine fB.as (Q0p hS3.b4) ?_
   | refine Q6q rfl rfl rfl hS3.b2 hS3.b3 hS3.b4 ?_
   | exact hS3.il.vw
   | refine Get.mk _ rfl ?_
   | refine LeavesF.of ?_
   | refine VwF.int ?_
   | refine VwF.tup ?_
   | refine VwF.agg ?_
   | refine VwLF.cons ?_ ?_
   | refine VwLF.nil
   | (refine Req.mk ?_ ?_;(focus first | rfl | decide | exact ⟨rfl,rfl⟩ | exact ⟨rfl,by decide⟩ | exact (fun _=>rfl) | exact (fun h=>nomatch h) | (simp;done) | omega | (simp [big];done) | exact Q02 (by omega) | exact Q01 (by omega))))
   all_goals first | rfl | exact hS3.il.vw | (exfalso;omega;done)
 ·intro k hk hpre hno1 v2 G tm ps as bo hlb hS
  rw [show bget G (6+0)=_ from hS.lop]
  skip
  refine fB.lopT hS hlb ?_
  intro G2 g1 g2 hS2
  have d2:=hS2.b2
  have d3:=hS2.b3
  have d4:=hS2.b4
  rw [hno k hk hpre hno1]
  rcases hS2.il.frm with rfl | ⟨r,rfl⟩
  all_goals
   repeat' (first
 | (conv=>whnf)
   first
   | refine Q6q rfl rfl rfl d2 d3 d4 ?_
   | exact hS2.il.vw
   | refine LeavesF.of ?_
   | refine VwF.int ?_
   | refine VwF.tup ?_
   | refine VwF.agg ?_
   | refine VwLF.cons ?_ ?_
   | refine VwLF.nil)
   all_goals first | rfl | exact hS2.il.vw | (exfalso;omega;done)
end Go.Dr.T
namespace Go.Dr.T
section
variable {c:Bool} {W H N k:Nat} {p:List UInt8} {fill:UInt8} {D:List (Int × Int)} {M:List T7.Sh3} {z:Int × Int} {m:T7.Sh3}
theorem Qo7 {l:List Fm} {ss:List Sp}:rnF W H (czF l) ss=fK W H l ss ss.length:=by
 unfold fK
 rw [List.take_length]
theorem Ql4 (h1:1≤W∧W≤48) (h2:1≤H∧H≤48) (hp:p.length=W * H) (hD:D.length≤11):∃ cc,(rnF W H (czF (shF c W H p fill D)) (Q0l fill M))[0]?=some ⟨cc,W,H,p⟩:=by
 have o:=Qap (c:=c) (p:=p) (fill:=fill) (D:=D) h1 h2 hp hD
 rw [Qo7]
 have hF:=Qqk (ss:=Q0l fill M) (k:=(Q0l fill M).length) o
 have hl:(fK W H (shF c W H p fill D) (Q0l fill M) (Q0l fill M).length).length=_:=Qez
 obtain ⟨f,hf,f1,f2,_⟩:=hF.at (i:=0) (by rw [hl];exact o.n0)
 have h:=Q9t (ss:=Q0l fill M) o sps_shift (i:=0) o.n0 (Nat.le_refl _)
 rw [if_neg (by omega),Q26 hf,Q26 (f:=⟨c,W,H,p⟩) rfl] at h
 obtain ⟨fc,fw,fh,fp⟩:=f
 dsimp only at f1 f2 h
 subst f1 f2 h
 exact ⟨fc,hf⟩
theorem Qnq (h1:1≤W∧W≤48) (h2:1≤H∧H≤48) (hp:p.length=W * H) (hD:D.length≤11) {k:Nat} {z:Int × Int} {m:T7.Sh3} (hz:D[k]?=some z) (hm:M[k]?=some m):∃ cc,(rnF W H (czF (shF c W H p fill D)) (Q0l fill M))[k+1]?=some ⟨cc,W,H,T7.moveL W H (T7.moveL W H p z.1 z.2 fill (W * H)) (0 - m.1) (0 - m.2.1) fill (W * H)⟩:=by
 have o:=Qap (c:=c) (p:=p) (fill:=fill) (D:=D) h1 h2 hp hD
 have hk:=(List.getElem?_eq_some_iff.1 hz).1
 have hk2:=(List.getElem?_eq_some_iff.1 hm).1
 have hFl:=Q2l (c:=c) (W:=W) (H:=H) (p:=p) (fill:=fill) (D:=D)
 rw [Qo7]
 have hF:=Qqk (ss:=Q0l fill M) (k:=(Q0l fill M).length) o
 have hl:(fK W H (shF c W H p fill D) (Q0l fill M) (Q0l fill M).length).length=_:=Qez
 obtain ⟨f,hf,f1,f2,_⟩:=hF.at (i:=k+1) (by rw [hl];omega)
 have h:=Q9t (ss:=Q0l fill M) o sps_shift (i:=k+1) (by omega) (Nat.le_refl _)
 rw [if_pos ⟨by omega,by rw [Q95];omega⟩,Q26 hf,Nat.add_sub_cancel,Qhu hm] at h
 dsimp only at h
 rw [Qim (fill:=fill) o (Qeb hz) rfl (fun x y=>by rw [sps_shift.keep (Qhu hm),decide_eq_true rfl];rfl) rfl] at h
 obtain ⟨fc,fw,fh,fp⟩:=f
 dsimp only at f1 f2 h
 subst f1 f2 h
 exact ⟨fc,hf⟩
theorem Qpb {b d:Bool} {l:List Fm} {ss:List Sp} {i q:Nat} (o:FOk l W H) (hL:ss.length≤20) (p:∀ s∈ss,SOk s l.length W H) (he:(csE l ss).2=0) (hi:i<l.length) (hq:q<W * H):FunF FB md 11 [.sl b l.length (fmC l),.sl d ss.length (spC ss),.int .i64 (i:Nat),.int .i64 (q:Nat)] (trR W H l ss i q).v :=
 Qhl o hL p he hi hq (fun h=>by rw [Qhn h];rfl) (fun k h1 h2 h3=>by rw [Qnx h1 h2 h3];rfl)
theorem trc_is (hz:D[k]?=some z) (hm:M[k]?=some m) (hD:D.length≤11) {q:Nat} (hW:0<W) (hq:q<W * H):∃ (a b:Int) (L:List Int),trR W H (shF c W H p fill D) (Q0l fill M) (k+1) q=⟨a,b,L,0⟩∧L.length≤1∧(L.length=0 ↔ m.1=0∧m.2.1=0)∧(T7.pixB W H (((q % W:Nat):Int)+m.1) (((q / W:Nat):Int)+m.2.1)→a=((k+1:Nat):Int)∧b=(((q / W:Nat):Int)+m.2.1) * W+(((q % W:Nat):Int)+m.1))∧(¬ T7.pixB W H (((q % W:Nat):Int)+m.1) (((q / W:Nat):Int)+m.2.1)→a = -1∧b = -1):=by
 have hk:=(List.getElem?_eq_some_iff.1 hz).1
 have hFl:=Q2l (c:=c) (W:=W) (H:=H) (p:=p) (fill:=fill) (D:=D)
 have h:=Qhm (W:=W) (H:=H) (l:=shF c W H p fill D) (q:=q) sps_shift (Qhu (fill:=fill) hm)
 have hin:=Qcp (N:=(shF c W H p fill D).length) (W:=W) (H:=H) (x:=q) (s:=spOf fill k m) (i:=k+1) (by omega)
 have ea:(spOf fill k m).a=0 - m.1:=rfl
 have eb:(spOf fill k m).b=0 - m.2.1:=rfl
 have eq:tQ W (spOf fill k m) q=((q:Int) - ((0 - m.2.1) * W+(0 - m.1))).toNat:=rfl
 rw [ea,eb] at h hin
 rw [show ((q % W:Nat):Int) - (0 - m.1)=((q % W:Nat):Int)+m.1 by omega,show ((q / W:Nat):Int) - (0 - m.2.1)=((q / W:Nat):Int)+m.2.1 by omega] at hin
 have e:(((q / W * W+q % W:Nat):Nat):Int)=(q:Int):=by rw [Nat.div_add_mod']
 rw [Int.natCast_add,Int.natCast_mul] at e
 have hmod:q % W<W:=Nat.mod_lt _ hW
 have hdiv:q / W<H:=by rw [Nat.div_lt_iff_lt_mul hW,Nat.mul_comm];exact hq
 generalize q % W=u at hin e hmod hdiv ⊢
 generalize q / W=v at hin e hmod hdiv ⊢
 by_cases hs:0 - m.1=0∧0 - m.2.1=0
 ·rw [if_pos hs] at h
  have m1:m.1=0:=by omega
  have m2:m.2.1=0:=by omega
  have hp:T7.pixB W H ((u:Int)+m.1) ((v:Int)+m.2.1):=by unfold T7.pixB;omega
  exact ⟨_,_,_,h,Nat.zero_le _,⟨fun _=>⟨m1,m2⟩,fun _=>rfl⟩,fun _=>⟨rfl,by rw [m1,m2,Int.add_zero,Int.add_zero];omega⟩,fun hn=>absurd hp hn⟩
 ·rw [if_neg hs] at h
  by_cases ht:tO (shF c W H p fill D).length W H (spOf fill k m) (k+1) q=true
  ·rw [if_pos ht] at h
   have hp:=hin.1 ht
   refine ⟨_,_,_,h,Nat.le_refl _,⟨fun h0=>(nomatch h0),fun h0=>absurd (show 0 - m.1=0∧0 - m.2.1=0 by omega) hs⟩,fun _=>⟨rfl,?_⟩,fun hn=>absurd hp hn⟩
   unfold T7.pixB at hp
   have hv:0≤((v:Int)+m.2.1) * W:=Int.mul_nonneg hp.2.2.1 (by omega)
   rw [Int.add_mul] at hv
   rw [eq,Int.add_mul,Int.sub_mul,Int.zero_mul]
   omega
  ·rw [if_neg ht] at h
   exact ⟨_,_,_,h,Nat.le_refl _,⟨fun h0=>(nomatch h0),fun h0=>absurd (show 0 - m.1=0∧0 - m.2.1=0 by omega) hs⟩,fun hn=>absurd (hin.2 hn) ht,fun _=>⟨rfl,rfl⟩⟩
end
end Go.Dr.T
