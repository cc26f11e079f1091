/- Chapter 08: Trace. -/
import Derived.Test.YthihdpbgmhnloaaGreatDoorR08Tk
import Derived.Test.YthihdpbgmhnloaaGreatDoorG16
import Derived.Test.YthihdpbgmhnloaaGreatDoorG13
namespace Go.Dr.T
theorem trace_go {tm:List V} {c:Bool} {l:List Fm} {W H:Nat} {ss:List Sp} {i q k:Nat} {s:Sp} {v:V} {G:List B} {K:V→List B→Prop} (htm:tm=TM24 (tg tm)) (o:FOk l W H) (hL:ss.length≤20) (p:∀ s∈ss,SOk s l.length W H) (hi:i<l.length) (hk:k<ss.length) (hcs:ss[ss.length - (k+1)]?=some s) (hok1:trOk W H l ss i q k) (hx:(tr W H l ss i q k).q<W * H) (hS:TH (.sl c l.length (fmC l)) i i (tr W H l ss i q k).q (.sl (decide (rnC W H (czF l) ss=[])) (rnC W H (czF l) ss).length (lgC (rnC W H (czF l) ss))) (.lop true .nrm tm [59,60] AS24 BO24) (tr W H l ss i q k).b v G) (hK:∀ v' G', G.length≤G'.length→TH (.sl c l.length (fmC l)) i i (tr W H l ss i q (k+1)).q (.sl (decide (rnC W H (czF l) ss=[])) (rnC W H (czF l) ss).length (lgC (rnC W H (czF l) ss))) (.lop true .nrm tm [59,60] AS24 BO24) (tr W H l ss i q (k+1)).b v' G' → K (.bool true) G'):CallP FB md 0 (.yld 6) [.int .i64 ((ss.length - (k+1):Nat):Int),.agg (spV s)] G K:=by
 obtain ⟨X,rfl⟩:∃ X,tm=TM24 X:=⟨_,htm⟩
 clear htm
 by_cases h1:s.k=1
 ·cases hkp:keepB s i ((tr W H l ss i q k).q % W:Nat) ((tr W H l ss i q k).q / W:Nat) with
  | true=>exact trace_kept (X:=X) o hL p hi hk hcs hok1 hx hS hK h1 hkp
  | false =>
   by_cases hab:s.a=0∧s.b=0
   ·exact trace_zero (X:=X) o hL p hi hk hcs hok1 hx hS hK h1 hkp hab.1 hab.2
   ·exact trace_mov (X:=X) o hL p hi hk hcs hok1 hx hS hK h1 hkp hab
 ·exact trace_other (X:=X) o hL p hi hk hcs hok1 hx hS hK h1
theorem trace_no {tm:List V} {c:Bool} {l:List Fm} {W H:Nat} {ss:List Sp} {i q k:Nat} {s:Sp} {v:V} {G:List B} {K:V→List B→Prop} (htm:tm=TM24 (tg tm)) (o:FOk l W H) (hL:ss.length≤20) (p:∀ s∈ss,SOk s l.length W H) (hi:i<l.length) (hk:k<ss.length) (hcs:ss[ss.length - (k+1)]?=some s) (hno1:¬ trOk W H l ss i q k) (hx:(tr W H l ss i q k).q<W * H) (hS:TH (.sl c l.length (fmC l)) i i (tr W H l ss i q k).q (.sl (decide (rnC W H (czF l) ss=[])) (rnC W H (czF l) ss).length (lgC (rnC W H (czF l) ss))) (.lop true .nrm tm [59,60] AS24 BO24) (tr W H l ss i q k).b v G) (hK:∀ G', G.length≤G'.length→(∃ v' tn ps as bo,TH (.sl c l.length (fmC l)) i (-1) (-1) (.sl (decide (rnC W H (czF l) ss=[])) (rnC W H (czF l) ss).length (lgC (rnC W H (czF l) ss))) (.lop false .ret tn ps as bo) ((tr W H l ss i q k).b++[((ss.length - (k+1):Nat):Int)]).reverse v' G')→K (.bool false) G'):CallP FB md 0 (.yld 6) [.int .i64 ((ss.length - (k+1):Nat):Int),.agg (spV s)] G K:=by
 obtain ⟨X,rfl⟩:∃ X,tm=TM24 X:=⟨_,htm⟩
 clear htm
 exact trace_out (X:=X) o hL p hi hk hcs hno1 hx hS hK
set_option maxRecDepth 100000 in
set_option maxHeartbeats 20000000 in
theorem trace_any {c d:Bool} {l:List Fm} {W H:Nat} {ss:List Sp} {i q:Nat} {v:V} (o:FOk l W H) (hL:ss.length≤20) (p:∀ s∈ss,SOk s l.length W H) (he:(csE l ss).2=0) (hi:i<l.length) (hq:q<W * H)
  (hok:(∀ k,k<ss.length→trOk W H l ss i q k)→v = .tup [.agg [.int .i64 (i:Nat),.int .i64 ((tr W H l ss i q ss.length).q:Nat)],inL (tr W H l ss i q ss.length).b.reverse,.int .i64 0])
  (hno:∀ k:Nat,k<ss.length→(∀ j,j<k→trOk W H l ss i q j)→¬ trOk W H l ss i q k→v = .tup [.agg [.int .i64 (-1),.int .i64 (-1)],inL ((tr W H l ss i q k).b++[((ss.length - (k+1):Nat):Int)]).reverse,.int .i64 0]):FunF FB md 24 [.sl c l.length (fmC l),.sl d ss.length (spC ss),.int .i64 (i:Nat),.int .i64 (q:Nat)] v:=by
 have k1:=csteps_ok (c:=c) (d:=d) (l:=l) (ss:=ss)
 have k2:=run_ok (c:=c) (d:=d) o hL p he
 have k3:=backS_ok (cv:=.sl d ss.length (spC ss)) ⟨_,_,_,rfl⟩
 rw [he] at k1
 generalize (csE l ss).1=e1 at *
 have k4:=out_ok (n:=(i:Int)) (lo:=0) (hi:=(l.length:Int) - 1)
 have k5:=out_ok (n:=(q:Int)) (lo:=0) (hi:=((W * H:Nat):Int) - 1)
 rw [show outB (i:Int) 0 ((l.length:Int) - 1)=false by simp only [outB,Bool.or_eq_false_iff,decide_eq_false_iff_not];omega] at k4
 rw [show outB (q:Int) 0 (((W * H:Nat):Int) - 1)=false by simp only [outB,Bool.or_eq_false_iff,decide_eq_false_iff_not];omega] at k5
 have hnn:=o.nn
 have hn12:=o.n12
 have hn0:=o.n0
 have o3:=o.w
 have o4:=o.h
 obtain ⟨f0,hf0,h0w,_,h0p⟩:=o.at o.n0
 obtain ⟨b0,_,b2⟩:=fm_c hf0
 rw [h0w] at b0
 rw [h0p] at b2
 have hlw:IntKind.i64.wrap ((l.length:Int) - 1)=(l.length:Int) - 1:=wrap_i64 (by omega) (by omega)
 have hpw:IntKind.i64.wrap (((W * H:Nat):Int) - 1)=((W * H:Nat):Int) - 1:=wrap_i64 (by omega) (by omega)
 refine funF_of rfl rfl ?_
 repeat' (first
 | (conv=>whnf)
   first
   | refine Bnd.eq hlw ?_
   | refine Bnd.eq hpw ?_
   | refine Br.f ?_
   | refine Get.mk _ b2 ?_
   | refine Req.mk hn0 ?_
   | refine call_fun rfl rfl k1 (.inl rfl) ?_
   | refine call_fun rfl rfl k2 (.inl rfl) ?_
   | refine call_fun rfl rfl k3 (.inl rfl) ?_
   | refine call_fun rfl rfl k4 (.inl rfl) ?_
   | refine call_fun rfl rfl k5 (.inl rfl) ?_
   | (refine Idx.int ?_ ?_ ?_;(focus omega);(focus omega))
   | refine Get.mk _ rfl ?_
   | (refine Req.mk ?_ ?_;(focus first | rfl | decide | exact ⟨rfl,rfl⟩ | exact ⟨rfl,by decide⟩ | exact (fun _=>rfl) | exact (fun h=>nomatch h) | (simp;done) | omega | (simp [big];done) | exact le_big (by omega) | exact lt_big (by omega))))
 all_goals try (exfalso;omega;done)
 refine trace_it (l:=l) hL o3.1 hq ⟨?_,Nat.le_refl _,rfl,rfl,rfl,rfl,rfl,rfl,rfl,.inl ⟨rfl,rfl⟩⟩ rfl ?_ ?_ ?_ ?_
 ·simp [Cl,hbelow,B.blo,blos,V.blo,lgL]
 ·intro k s v G K hk hcs hok1 hx hS hK
  exact trace_go rfl o hL p hi hk hcs hok1 hx hS hK
 ·intro k s v G K hk hcs hno1 hx hS hK
  exact trace_no rfl o hL p hi hk hcs hno1 hx hS hK
 ·intro hall v2 G hS
  rw [show bget G (6+0)=_ from hS.lop]
  skip
  have hlb:=blo_of_hbelow hS.cl (mem_bget hS.lop)
  refine fB.lopT hS hlb ?_
  intro G2 g1 g2 hS2
  have d2:=hS2.b2
  have d3:=hS2.b3
  have d4:=hS2.b4
  have hbl:=tr_len (W:=W) (H:=H) (l:=l) (ss:=ss) (i:=i) (q:=q) (k:=ss.length)
  rw [hok hall]
  rcases hS2.il.frm with rfl | ⟨r,rfl⟩
  ·repeat' (first
 | (conv=>whnf)
   first
   | refine fLen.mk ?_
   | refine fB.i0 ?_
   | refine Get.mk _ d2 ?_
   | refine Get.mk _ d3 ?_
   | refine Get.mk _ d4 ?_
   | (refine rev_callN hS2 ?_;intro hS3)
   | refine fB.as (bset_self d2) ?_
   | refine fB.as (bset_self d3) ?_
   | refine fB.as (bset_self d4) ?_
   | refine res_trace rfl rfl rfl d2 d3 d4 ?_
   | exact hS3.il.vw
   | refine Get.mk _ rfl ?_
   | refine LeavesF.of ?_
   | refine VwF.int ?_
   | refine VwF.tup ?_
   | refine VwF.agg ?_
   | refine VwLF.cons ?_ ?_
   | refine VwLF.nil
   | (refine Req.mk ?_ ?_;(focus first | rfl | decide | exact ⟨rfl,rfl⟩ | exact ⟨rfl,by decide⟩ | exact (fun _=>rfl) | exact (fun h=>nomatch h) | (simp;done) | omega | (simp [big];done) | exact le_big (by omega) | exact lt_big (by omega))))
   all_goals first | rfl | exact hS3.il.vw | (exfalso;omega;done)
  ·repeat' (first
 | (conv=>whnf)
   first
   | refine fLen.mk ?_
   | refine fB.i0 ?_
   | refine Get.mk _ d3 ?_
   | (refine rev_callT hS2 (by omega) ?_;intro G3 g3 hS3)
   | refine Get.mk _ hS3.b2 ?_
   | refine Get.mk _ hS3.b3 ?_
   | refine Get.mk _ hS3.b4 ?_
   | refine fB.as (bset_self hS3.b2) ?_
   | refine fB.as (bset_self hS3.b3) ?_
   | refine fB.as (bset_self hS3.b4) ?_
   | refine res_trace rfl rfl rfl hS3.b2 hS3.b3 hS3.b4 ?_
   | exact hS3.il.vw
   | refine Get.mk _ rfl ?_
   | refine LeavesF.of ?_
   | refine VwF.int ?_
   | refine VwF.tup ?_
   | refine VwF.agg ?_
   | refine VwLF.cons ?_ ?_
   | refine VwLF.nil
   | (refine Req.mk ?_ ?_;(focus first | rfl | decide | exact ⟨rfl,rfl⟩ | exact ⟨rfl,by decide⟩ | exact (fun _=>rfl) | exact (fun h=>nomatch h) | (simp;done) | omega | (simp [big];done) | exact le_big (by omega) | exact lt_big (by omega))))
   all_goals first | rfl | exact hS3.il.vw | (exfalso;omega;done)
 ·intro k hk hpre hno1 v2 G tm ps as bo hlb hS
  rw [show bget G (6+0)=_ from hS.lop]
  skip
  refine fB.lopT hS hlb ?_
  intro G2 g1 g2 hS2
  have d2:=hS2.b2
  have d3:=hS2.b3
  have d4:=hS2.b4
  rw [hno k hk hpre hno1]
  rcases hS2.il.frm with rfl | ⟨r,rfl⟩
  all_goals
   repeat' (first
 | (conv=>whnf)
   first
   | refine res_trace rfl rfl rfl d2 d3 d4 ?_
   | exact hS2.il.vw
   | refine LeavesF.of ?_
   | refine VwF.int ?_
   | refine VwF.tup ?_
   | refine VwF.agg ?_
   | refine VwLF.cons ?_ ?_
   | refine VwLF.nil)
   all_goals first | rfl | exact hS2.il.vw | (exfalso;omega;done)
end Go.Dr.T
namespace Go.Dr.T
set_option maxRecDepth 100000 in
set_option maxHeartbeats 20000000 in
theorem trace_bad {c d:Bool} {l:List Fm} {ss:List Sp} {x y:Int} (he:(csE l ss).2≠0):FunF FB md 24 [.sl c l.length (fmC l),.sl d ss.length (spC ss),.int .i64 x,.int .i64 y] (.tup [.agg [.int .i64 0,.int .i64 0],inL [],.int .i64 (csE l ss).2]):=by
 have k1:=csteps_ok (c:=c) (d:=d) (l:=l) (ss:=ss)
 generalize csE l ss=e at *
 obtain ⟨e1,e2⟩:=e
 dsimp only at *
 refine funF_of rfl rfl ?_
 repeat' (first
 | (conv=>whnf)
   first
   | (refine Br.decF ?_ ?_;(focus first | assumption | omega))
   | refine Br.not ?_
   | refine call_fun rfl rfl k1 (.inl rfl) ?_
   | refine Get.mk _ rfl ?_
   | refine LeavesF.of ?_
   | refine VwF.int ?_
   | refine VwF.nil
   | refine VwF.tup ?_
   | refine VwF.agg ?_
   | refine VwLF.cons ?_ ?_
   | refine VwLF.nil
   | (refine Req.mk ?_ ?_;(focus first | rfl | decide | exact ⟨rfl,rfl⟩ | exact ⟨rfl,by decide⟩ | exact (fun _=>rfl) | exact (fun h=>nomatch h) | (simp;done) | omega | (simp [big];done) | exact le_big (by omega) | exact lt_big (by omega))))
 all_goals first | rfl | exact VwF.nil | (exfalso;omega;done)
set_option maxRecDepth 100000 in
set_option maxHeartbeats 20000000 in
theorem trace_none {c d:Bool} {l:List Fm} {W H:Nat} {ss:List Sp} {x y:Int} (o:FOk l W H) (he:(csE l ss).2=0) (h:outB x 0 ((l.length:Int) - 1)=true∨outB y 0 (((W * H:Nat):Int) - 1)=true):FunF FB md 24 [.sl c l.length (fmC l),.sl d ss.length (spC ss),.int .i64 x,.int .i64 y] (.tup [.agg [.int .i64 0,.int .i64 0],inL [],.int .i64 4]):=by
 have k1:=csteps_ok (c:=c) (d:=d) (l:=l) (ss:=ss)
 rw [he] at k1
 generalize (csE l ss).1=e1 at *
 have k4:=out_ok (n:=x) (lo:=0) (hi:=(l.length:Int) - 1)
 have k5:=out_ok (n:=y) (lo:=0) (hi:=((W * H:Nat):Int) - 1)
 have hnn:=o.nn
 have hn12:=o.n12
 have hn0:=o.n0
 obtain ⟨f0,hf0,h0w,_,h0p⟩:=o.at o.n0
 obtain ⟨b0,_,b2⟩:=fm_c hf0
 rw [h0p] at b2
 have hlw:IntKind.i64.wrap ((l.length:Int) - 1)=(l.length:Int) - 1:=wrap_i64 (by omega) (by omega)
 have hpw:IntKind.i64.wrap (((W * H:Nat):Int) - 1)=((W * H:Nat):Int) - 1:=wrap_i64 (by omega) (by omega)
 refine funF_of rfl rfl ?_
 cases h1:outB x 0 ((l.length:Int) - 1) with
 | true =>
  rw [h1] at k4
  repeat' (first
 | (conv=>whnf)
   first
   | refine Bnd.eq hlw ?_
   | refine Br.t ?_
   | refine Br.f ?_
   | refine call_fun rfl rfl k1 (.inl rfl) ?_
   | refine call_fun rfl rfl k4 (.inl rfl) ?_
   | refine Get.mk _ rfl ?_
   | refine LeavesF.of ?_
   | refine VwF.int ?_
   | refine VwF.nil
   | refine VwF.tup ?_
   | refine VwF.agg ?_
   | refine VwLF.cons ?_ ?_
   | refine VwLF.nil
   | (refine Req.mk ?_ ?_;(focus first | rfl | decide | exact ⟨rfl,rfl⟩ | exact ⟨rfl,by decide⟩ | exact (fun _=>rfl) | exact (fun h=>nomatch h) | (simp;done) | omega | (simp [big];done) | exact le_big (by omega) | exact lt_big (by omega))))
  all_goals first | rfl | exact VwF.nil | (exfalso;omega;done)
 | false =>
  have h2:outB y 0 (((W * H:Nat):Int) - 1)=true:=by
   rcases h with h | h
   ·rw [h1] at h;cases h
   ·exact h
  rw [h1] at k4
  rw [h2] at k5
  repeat' (first
 | (conv=>whnf)
   first
   | refine Bnd.eq hlw ?_
   | refine Bnd.eq hpw ?_
   | refine Br.t ?_
   | refine Br.f ?_
   | refine Get.mk _ b2 ?_
   | refine Req.mk hn0 ?_
   | refine call_fun rfl rfl k1 (.inl rfl) ?_
   | refine call_fun rfl rfl k4 (.inl rfl) ?_
   | refine call_fun rfl rfl k5 (.inl rfl) ?_
   | (refine Idx.int ?_ ?_ ?_;(focus omega);(focus omega))
   | refine Get.mk _ rfl ?_
   | refine LeavesF.of ?_
   | refine VwF.int ?_
   | refine VwF.nil
   | refine VwF.tup ?_
   | refine VwF.agg ?_
   | refine VwLF.cons ?_ ?_
   | refine VwLF.nil
   | (refine Req.mk ?_ ?_;(focus first | rfl | decide | exact ⟨rfl,rfl⟩ | exact ⟨rfl,by decide⟩ | exact (fun _=>rfl) | exact (fun h=>nomatch h) | (simp;done) | omega | (simp [big];done) | exact le_big (by omega) | exact lt_big (by omega))))
  all_goals first | rfl | exact VwF.nil | (exfalso;omega;done)
structure TrR where
 a:Int
 b:Int
 by' : List Int
 e:Int
def TrR.v (t:TrR):V:=.tup [.agg [.int .i64 t.a,.int .i64 t.b],inL t.by', .int .i64 t.e]
open Classical in
noncomputable def trR (W H:Nat) (l:List Fm) (ss:List Sp) (i q:Nat):TrR :=
 if h:∃ k,k<ss.length∧(∀ j,j<k→trOk W H l ss i q j)∧¬ trOk W H l ss i q k then ⟨-1, -1,((tr W H l ss i q h.choose).b++[((ss.length - (h.choose+1):Nat):Int)]).reverse,0⟩ else ⟨i,(tr W H l ss i q ss.length).q,(tr W H l ss i q ss.length).b.reverse,0⟩
theorem trR_ok {W H:Nat} {l:List Fm} {ss:List Sp} {i q:Nat} (h:∀ k,k<ss.length→trOk W H l ss i q k):trR W H l ss i q=⟨i,(tr W H l ss i q ss.length).q,(tr W H l ss i q ss.length).b.reverse,0⟩:=by
 unfold trR
 rw [dif_neg fun ⟨k,h1,_,h3⟩=>h3 (h k h1)]
theorem trR_no {W H:Nat} {l:List Fm} {ss:List Sp} {i q k:Nat} (h1:k<ss.length) (h2:∀ j,j<k→trOk W H l ss i q j) (h3:¬ trOk W H l ss i q k):trR W H l ss i q=⟨-1, -1,((tr W H l ss i q k).b++[((ss.length - (k+1):Nat):Int)]).reverse,0⟩:=by
 have h:∃ k,k<ss.length∧(∀ j,j<k→trOk W H l ss i q j)∧¬ trOk W H l ss i q k:=⟨k,h1,h2,h3⟩
 unfold trR
 rw [dif_pos h]
 have hc:=h.choose_spec
 have e:h.choose=k:=by
  rcases Nat.lt_trichotomy h.choose k with e | e | e
  ·exact absurd (h2 _ e) hc.2.2
  ·exact e
  ·exact absurd (hc.2.1 _ e) h3
 rw [e]
end Go.Dr.T
