/- Chapter 08: law RestoreBallot. -/
import Derived.Test.YthihdpbgmhnloaaGreatDoorG6
namespace Go.Dr.T
set_option maxRecDepth 100000 in
set_option maxHeartbeats 20000000 in
theorem law_ballot {c:Bool} {n need a:Int} {l:List Vt} {m:Vt} (ha:0≤a∧a≤255):Fun FB1 md 10 [.agg [.int .i64 n,.sl c l.length (vtC l),.int .i64 need],.int .u8 a,.agg [.str m.who,.int .i64 m.step,.bool m.yes]] (.bool true):=by
 have h1:=FunF.fun (voted_funF (c:=c) (n:=n) (need:=need) (l:=l))
 have h4:=awake
 unfold liV at h1
 by_cases he:votE n l need=0
 rotate_left
 ·rw [votA_bad he] at h1
  generalize votE n l need=e at *
  refine fun_of rfl rfl ?_
  repeat' (first
 | (conv=>whnf)
   first
   | refine Br.t ?_
   | (refine Br.decF ?_ ?_;(focus first | assumption | omega))
   | refine Br.not ?_
   | refine call_fun rfl rfl h1 (.inl rfl) ?_
   | refine call_fun rfl rfl h4 (.inl rfl) ?_
   | refine Get.mk _ rfl ?_
   | refine Leaves.of ?_
   | refine Vw.bool ?_
   | (refine Req.mk ?_ ?_;(focus first | rfl | decide | exact ⟨rfl,rfl⟩ | exact ⟨rfl,by decide⟩ | exact (fun _=>rfl) | exact (fun h=>nomatch h) | (simp;done) | omega | (simp [big];done) | exact le_big (by omega) | exact lt_big (by omega))))
  all_goals first | rfl | (exfalso;omega;done)
 have hv:=votE_zero.1 he
 have hA:=votA_good he
 rw [he] at h1
 refine fun_of rfl rfl ?_
 repeat' (first
 | (conv=>whnf)
   first
   | refine Br.f ?_
   | refine call_fun rfl rfl h1 (.inl rfl) ?_
   | refine Get.mk _ rfl ?_
   | (refine Req.mk ?_ ?_;(focus first | rfl | decide | exact ⟨rfl,rfl⟩ | exact ⟨rfl,by decide⟩ | exact (fun _=>rfl) | exact (fun h=>nomatch h) | (simp;done) | omega | (simp [big];done) | exact le_big (by omega) | exact lt_big (by omega))))
 all_goals try (exfalso;omega;done)
 have hAl:(votA n l need).length≤20:=votA_len
 have hS:∀ i x,(votA n l need)[i]?=some x→0≤x∧x<n:=fun i x hx=>by
  rw [hA] at hx
  obtain ⟨s,a1,_,_,rfl⟩:=acc_mem.1 (List.mem_of_getElem? hx)
  omega
 have hP:∀ i x y,(votA n l need)[i]?=some x→(votA n l need)[i+1]?=some y→x<y:=fun i x y hx hy=>by
  have:=acc_sorted (S:=lasE l) (need:=need) (n:=n.toNat)
  rw [← hA] at this
  obtain ⟨q1,e1⟩:=List.getElem?_eq_some_iff.1 hx
  obtain ⟨q2,e2⟩:=List.getElem?_eq_some_iff.1 hy
  have:=List.pairwise_iff_getElem.1 this i (i+1) q1 q2 (by omega)
  omega
 generalize hAg:votA n l need=A at *
 refine LoopP.by (fun i:Nat=>i≤A.length) (fun i=>[(9,.int .i64 (i:Nat))]) (fun _=>[.blk [.int .i64 n,.sl c l.length (vtC l),.int .i64 need] false,.blk [.str m.who,.int .i64 m.step,.bool m.yes] false]) (fun i=>A.length - i) 0 (Nat.zero_le _) rfl ?_
 rintro i hi'
 dsimp only
 by_cases hi:i<A.length
 ·obtain ⟨x,hx⟩:∃ x,A[i]?=some x:=⟨_,List.getElem?_eq_getElem hi⟩
  have k1:=ints_at hx
  have k2:=hS i x hx
  have hiw:IntKind.i64.wrap ((i:Int)+1)=((i+1:Nat):Int):=by rw [wrap_i64 (by omega) (by omega)];omega
  cases i with
  | zero =>
   repeat' (first
 | (conv=>whnf)
   first
   | refine Bnd.eq hiw ?_
   | refine Br.f ?_
   | (refine Br.decT ?_ ?_;(focus first | assumption | omega))
   | (refine Br.decF ?_ ?_;(focus first | assumption | omega))
   | refine Get.mk _ k1 ?_
   | (refine Idx.nat ?_ ?_;(focus omega))
   | refine Get.mk _ rfl ?_
   | (refine Req.mk ?_ ?_;(focus first | rfl | decide | exact ⟨rfl,rfl⟩ | exact ⟨rfl,by decide⟩ | exact (fun _=>rfl) | exact (fun h=>nomatch h) | (simp;done) | omega | (simp [big];done) | exact le_big (by omega) | exact lt_big (by omega))))
   all_goals first | (exfalso;omega;done) | exact NextP.mk 1 hi (by omega) rfl
  | succ j =>
   obtain ⟨y,hy⟩:∃ y,A[j]?=some y:=⟨_,List.getElem?_eq_getElem (by omega)⟩
   have k3:=ints_at hy
   have k4:=hP j y x hy hx
   have hjw:IntKind.i64.wrap (((j+1:Nat):Int) - 1)=(j:Int):=by rw [wrap_i64 (by omega) (by omega)];omega
   repeat' (first
 | (conv=>whnf)
   first
   | refine Bnd.eq hiw ?_
   | refine Bnd.eq hjw ?_
   | (refine Br.decT ?_ ?_;(focus first | assumption | omega))
   | (refine Br.decF ?_ ?_;(focus first | assumption | omega))
   | refine Get.mk _ k1 ?_
   | refine Get.mk _ k3 ?_
   | (refine Idx.nat ?_ ?_;(focus omega))
   | refine Get.mk _ rfl ?_
   | (refine Req.mk ?_ ?_;(focus first | rfl | decide | exact ⟨rfl,rfl⟩ | exact ⟨rfl,by decide⟩ | exact (fun _=>rfl) | exact (fun h=>nomatch h) | (simp;done) | omega | (simp [big];done) | exact le_big (by omega) | exact lt_big (by omega))))
   all_goals first | (exfalso;omega;done) | exact NextP.mk (j+2) hi (by omega) rfl
 obtain rfl:i=A.length:=by omega
 clear hi hi' hS hP
 obtain ⟨he2,hs2⟩:=vot_easy he
 have h5:=FunF.fun (voted_funF (c:=c) (n:=n) (need:=1+need.tdiv 2) (l:=l))
 have hneed:1≤need∧need≤200:=by have:=hv.2.1;simp only [outB,Bool.or_eq_false_iff,decide_eq_false_iff_not] at this;omega
 have hd:need.tdiv 2=need / 2:=Int.tdiv_eq_ediv_of_nonneg (by omega)
 have hnw:IntKind.i64.wrap (1+need.tdiv 2)=1+need.tdiv 2:=wrap_i64 (by omega) (by omega)
 have hnd:IntKind.i64.wrap (need.tdiv 2)=need.tdiv 2:=wrap_i64 (by omega) (by omega)
 unfold liV at h5
 rw [he2] at h5
 have hBl:(votA n l (1+need.tdiv 2)).length≤20:=votA_len
 rw [hAg] at hs2
 generalize votA n l (1+need.tdiv 2)=Z at *
 by_cases hl1:1<l.length
 rotate_left
 ·repeat' (first
 | (conv=>whnf)
   first
   | refine Bnd.eq hnw ?_
   | refine Bnd.eq hnd ?_
   | refine Br.f ?_
   | (refine Br.decF ?_ ?_;(focus first | assumption | omega))
   | refine call_fun rfl rfl h5 (.inl rfl) ?_
   | refine Get.mk _ rfl ?_
   | (refine Req.mk ?_ ?_;(focus first | rfl | decide | exact ⟨rfl,rfl⟩ | exact ⟨rfl,by decide⟩ | exact (fun _=>rfl) | exact (fun h=>nomatch h) | (simp;done) | omega | (simp [big];done) | exact le_big (by omega) | exact lt_big (by omega))))
  all_goals try (exfalso;omega;done)
  refine LoopP.by (fun i:Nat=>i≤A.length) (fun i=>[(17,.int .i64 (i:Nat))]) (fun _=>[.blk [.int .i64 n,.sl c l.length (vtC l),.int .i64 need] false,.blk [.str m.who,.int .i64 m.step,.bool m.yes] false ]) (fun i=>A.length - i) 0 (Nat.zero_le _) rfl ?_
  rintro i hi'
  dsimp only
  by_cases hi:i<A.length
  ·obtain ⟨x,hx⟩:∃ x,A[i]?=some x:=⟨_,List.getElem?_eq_getElem hi⟩
   have k1:=ints_at hx
   have k2:=(has_ok (c:=decide (Z=[])) (A:=Z) (x:=x) (by omega)).tab sub1
   rw [decide_eq_true (hs2 x (List.mem_of_getElem? hx))] at k2
   have hiw:IntKind.i64.wrap ((i:Int)+1)=((i+1:Nat):Int):=by rw [wrap_i64 (by omega) (by omega)];omega
   repeat' (first
 | (conv=>whnf)
   first
   | refine Bnd.eq hiw ?_
   | refine Br.f ?_
   | (refine Br.decT ?_ ?_;(focus first | assumption | omega))
   | refine Get.mk _ k1 ?_
   | refine call_fun rfl rfl k2 (.inl rfl) ?_
   | (refine Idx.nat ?_ ?_;(focus omega))
   | (refine Req.mk ?_ ?_;(focus first | rfl | decide | exact ⟨rfl,rfl⟩ | exact ⟨rfl,by decide⟩ | exact (fun _=>rfl) | exact (fun h=>nomatch h) | (simp;done) | omega | (simp [big];done) | exact le_big (by omega) | exact lt_big (by omega))))
   all_goals first | (exfalso;omega;done) | exact NextP.mk (i+1) hi (by omega) rfl
  obtain rfl:i=A.length:=by omega
  clear hi hi' hs2
  repeat' (first
 | (conv=>whnf)
   first
   | (refine Br.decF ?_ ?_;(focus first | assumption | omega))
   | refine Get.mk _ rfl ?_
   | (refine Req.mk ?_ ?_;(focus first | rfl | decide | exact ⟨rfl,rfl⟩ | exact ⟨rfl,by decide⟩ | exact (fun _=>rfl) | exact (fun h=>nomatch h) | (simp;done) | omega | (simp [big];done) | exact le_big (by omega) | exact lt_big (by omega))))
  all_goals try (exfalso;omega;done)
  refine LoopP.by (fun i:Nat=>i≤l.length∧∀ v∈l.take i,v.who≠m.who) (fun i=>[(18,.int .i64 (i:Nat))]) (fun _=>[.blk [.int .i64 n,.sl c l.length (vtC l),.int .i64 need] false,.blk [.str m.who,.int .i64 m.step,.bool true] false ]) (fun i=>l.length - i) 0 ⟨Nat.zero_le _,fun v hv=>by simp at hv⟩ rfl ?_
  rintro i ⟨hi', hw⟩
  dsimp only
  by_cases hi:i<l.length
  ·obtain ⟨v,hx⟩:∃ v,l[i]?=some v:=⟨_,List.getElem?_eq_getElem hi⟩
   have k1:=(vt_c hx).1
   have hil:i≤l.length - 1:=by omega
   have hl0:0<l.length:=by omega
   have hiw:IntKind.i64.wrap ((i:Int)+1)=((i+1:Nat):Int):=by rw [wrap_i64 (by omega) (by omega)];omega
   by_cases hvm:v.who=m.who
   ·have kb:(v.who == m.who)=true:=by simp [hvm]
    repeat' (first
 | (conv=>whnf)
   first
   | (refine Br.decT ?_ ?_;(focus first | assumption | omega))
   | refine Br.yes kb ?_
   | refine Get.mk _ k1 ?_
   | refine call_fun rfl rfl h4 (.inl rfl) ?_
   | (refine Idx.nat ?_ ?_;(focus omega))
   | refine Get.mk _ rfl ?_
   | refine Leaves.of ?_
   | refine Vw.bool ?_
   | (refine Req.mk ?_ ?_;(focus first | rfl | decide | exact ⟨rfl,rfl⟩ | exact ⟨rfl,by decide⟩ | exact (fun _=>rfl) | exact (fun h=>nomatch h) | (simp;done) | omega | (simp [big];done) | exact le_big (by omega) | exact lt_big (by omega))))
    all_goals first | rfl | (exfalso;omega;done) | (conv=>whnf)
   have hw' : ∀ z∈l.take (i+1),z.who≠m.who:=fun z hz=>by
    rw [List.take_add_one,hx] at hz
    rcases List.mem_append.1 hz with h | h
    ·exact hw z h
    ·simp at h;rw [h];exact hvm
   have kb:(v.who == m.who)=false:=by simp [hvm]
   repeat' (first
 | (conv=>whnf)
   first
   | refine Bnd.eq hiw ?_
   | (refine Br.decT ?_ ?_;(focus first | assumption | omega))
   | refine Br.no kb ?_
   | refine Get.mk _ k1 ?_
   | (refine Idx.nat ?_ ?_;(focus omega))
   | refine Get.mk _ rfl ?_
   | (refine Req.mk ?_ ?_;(focus first | rfl | decide | exact ⟨rfl,rfl⟩ | exact ⟨rfl,by decide⟩ | exact (fun _=>rfl) | exact (fun h=>nomatch h) | (simp;done) | omega | (simp [big];done) | exact le_big (by omega) | exact lt_big (by omega))))
   all_goals first | (exfalso;omega;done) | (exact absurd ‹_› hvm) | exact NextP.mk (i+1) ⟨hi,hw'⟩ (by omega) rfl | trace_state
  obtain rfl:i=l.length:=by omega
  rw [List.take_length] at hw
  by_cases hl0:l.length=0
  ·have hlc:=vtC_length l
   have hm:∀ L,L=(l++[(⟨m.who,m.step,true⟩:Vt)]).length→FunF FB1 md 27 [.int .i64 n,.sl false L (vtC (l++[⟨m.who,m.step,true⟩])),.int .i64 need] (.tup [liV (votA n (l++[⟨m.who,m.step,true⟩]) need),.int .i64 (votE n (l++[⟨m.who,m.step,true⟩]) need)]):=fun L e=>by
    rw [e]
    exact voted_funF
   have hmo:=vot_more (m:=⟨m.who,m.step,true⟩) hw rfl he
   rw [hAg] at hmo
   have hvw:∀ {h:List B} {d:Nat} (l:List Vt),VwL h (d+1) (vtC l) (vtC l):=fun {h d} l=>by
    induction l with
    | nil=>exact VwL.nil
    | cons y l ih=>exact VwL.cons (Vw.str rfl) (VwL.cons (Vw.int rfl) (VwL.cons (Vw.bool rfl) ih))
   have hCl:(votA n (l++[⟨m.who,m.step,true⟩]) need).length≤20:=votA_len
   have hva:vtC (l++[⟨m.who,m.step,true⟩])=vtC l++[V.str m.who,V.int IntKind.i64 m.step,V.bool true]:=vtC_app _ _
   have hvl:(vtC l++[V.str m.who,V.int IntKind.i64 m.step,V.bool true]).length=(0+l.length+1) * 3:=by simp [hlc];omega
   have hvg:(vtC l++[V.str m.who,V.int IntKind.i64 m.step,V.bool true]).length=([]:List V).length+(vtC l).length+[V.str m.who,V.int IntKind.i64 m.step,V.bool true].length:=by simp
   have hvv:=fun {h:List B} {d:Nat}=>hvw (h:=h) (d:=d) (l++[⟨m.who,m.step,true⟩])
   rw [hva] at hvv
   have hreq:0+(0+l.length) * 3=([]:List V).length+(vtC l).length∧(([]++vtC l).length+[V.str m.who,V.int IntKind.i64 m.step,V.bool true].length) * (32+1)<big:=by
    refine ⟨by simp [hlc],?_⟩
    simp only [List.nil_append,List.length_cons,List.length_nil,hlc,big]
    have:=hv.2.2.1
    omega
   unfold liV at hm
   generalize votA n (l++[⟨m.who,m.step,true⟩]) need=C at *
   have hvL:(l++[(⟨m.who,m.step,true⟩:Vt)]).length=0+l.length+1:=by simp
   obtain rfl:=List.eq_nil_of_length_eq_zero hl0
   by_cases hz:votE n ([]++[⟨m.who,m.step,true⟩]) need=0
   rotate_left
   ·rw [hva] at hm
    have hm:=hm _ hvL.symm
    generalize votE n ([]++[⟨m.who,m.step,true⟩]) need=e at *
    repeat' (first
 | (conv=>whnf)
   first
   | refine Br.f ?_
   | (refine Br.decF ?_ ?_;(focus first | assumption | omega))
   | refine Br.not ?_
   | refine Req.mk hlc ?_
   | refine call_fresh rfl (VwL.cons (Vw.int rfl) (VwL.cons (Vw.ms rfl rfl (part_all rfl) hvv) (VwL.cons (Vw.int rfl) VwL.nil))).1 hm ?_
   | refine call_fun rfl rfl h4 (.inl rfl) ?_
   | refine Ifz.zero ?_
   | (refine Ifz.pos ?_ ?_;(focus omega))
   | refine Get.mk _ rfl ?_
   | refine Leaves.of ?_
   | refine Vw.bool ?_
   | (refine Req.mk ?_ ?_;(focus first | rfl | decide | exact ⟨rfl,rfl⟩ | exact ⟨rfl,by decide⟩ | exact (fun _=>rfl) | exact (fun h=>nomatch h) | (simp;done) | omega | (simp [big];done) | exact le_big (by omega) | exact lt_big (by omega))))
    all_goals first | rfl | (exfalso;omega;done)
   obtain ⟨m1,m2⟩:=hmo hz
   rw [hz,hva] at hm
   have hm:=hm _ hvL.symm
   repeat' (first
 | (conv=>whnf)
   first
   | refine Br.f ?_
   | refine Req.mk hlc ?_
   | refine call_fresh rfl (VwL.cons (Vw.int rfl) (VwL.cons (Vw.ms rfl rfl (part_all rfl) hvv) (VwL.cons (Vw.int rfl) VwL.nil))).1 hm ?_
   | refine Ifz.zero ?_
   | (refine Ifz.pos ?_ ?_;(focus omega))
   | refine Get.mk _ rfl ?_
   | (refine Req.mk ?_ ?_;(focus first | rfl | decide | exact ⟨rfl,rfl⟩ | exact ⟨rfl,by decide⟩ | exact (fun _=>rfl) | exact (fun h=>nomatch h) | (simp;done) | omega | (simp [big];done) | exact le_big (by omega) | exact lt_big (by omega))))
   all_goals try (exfalso;omega;done)
   refine LoopP.by (fun i:Nat=>i≤A.length) (fun i=>[(20,.int .i64 (i:Nat))]) (fun _=>[.blk [.int .i64 n,.sl c (List.nil:List Vt).length (vtC (List.nil:List Vt)),.int .i64 need] false,.blk [.str m.who,.int .i64 m.step,.bool true] false , .unborn,.blk [.str m.who,.int .i64 m.step,.bool true] false]) (fun i=>A.length - i) 0 (Nat.zero_le _) rfl ?_
   rintro i hi'
   dsimp only
   by_cases hi:i<A.length
   ·obtain ⟨x,hx⟩:∃ x,A[i]?=some x:=⟨_,List.getElem?_eq_getElem hi⟩
    have k1:=ints_at hx
    have k2:=(has_ok (c:=decide (C=[])) (A:=C) (x:=x) (by omega)).tab sub1
    rw [decide_eq_true (m1 x (List.mem_of_getElem? hx))] at k2
    have hiw:IntKind.i64.wrap ((i:Int)+1)=((i+1:Nat):Int):=by rw [wrap_i64 (by omega) (by omega)];omega
    repeat' (first
 | (conv=>whnf)
   first
   | refine Bnd.eq hiw ?_
   | refine Br.f ?_
   | (refine Br.decT ?_ ?_;(focus first | assumption | omega))
   | refine Get.mk _ k1 ?_
   | refine call_fun rfl rfl k2 (.inl rfl) ?_
   | (refine Idx.nat ?_ ?_;(focus omega))
   | (refine Req.mk ?_ ?_;(focus first | rfl | decide | exact ⟨rfl,rfl⟩ | exact ⟨rfl,by decide⟩ | exact (fun _=>rfl) | exact (fun h=>nomatch h) | (simp;done) | omega | (simp [big];done) | exact le_big (by omega) | exact lt_big (by omega))))
    all_goals first | (exfalso;omega;done) | exact NextP.mk (i+1) hi (by omega) rfl
   obtain rfl:i=A.length:=by omega
   clear hi hi'
   repeat' (first
 | (conv=>whnf)
   first
   | (refine Br.decF ?_ ?_;(focus first | assumption | omega)))
   all_goals try (exfalso;omega;done)
   refine LoopP.by (fun i:Nat=>i≤C.length) (fun i=>[(21,.int .i64 (i:Nat))]) (fun _=>[.blk [.int .i64 n,.sl c (List.nil:List Vt).length (vtC (List.nil:List Vt)),.int .i64 need] false,.blk [.str m.who,.int .i64 m.step,.bool true] false , .unborn,.blk [.str m.who,.int .i64 m.step,.bool true] false]) (fun i=>C.length - i) 0 (Nat.zero_le _) rfl ?_
   rintro i hi'
   dsimp only
   by_cases hi:i<C.length
   ·obtain ⟨x,hx⟩:∃ x,C[i]?=some x:=⟨_,List.getElem?_eq_getElem hi⟩
    have k1:=ints_at hx
    have k2:=(has_ok (c:=decide (A=[])) (A:=A) (x:=x) (by omega)).tab sub1
    have hiw:IntKind.i64.wrap ((i:Int)+1)=((i+1:Nat):Int):=by rw [wrap_i64 (by omega) (by omega)];omega
    by_cases hxA:x∈A
    ·rw [decide_eq_true hxA] at k2
     repeat' (first
 | (conv=>whnf)
   first
   | refine Bnd.eq hiw ?_
   | refine Br.f ?_
   | (refine Br.decT ?_ ?_;(focus first | assumption | omega))
   | refine Get.mk _ k1 ?_
   | refine call_fun rfl rfl k2 (.inl rfl) ?_
   | (refine Idx.nat ?_ ?_;(focus omega))
   | (refine Req.mk ?_ ?_;(focus first | rfl | decide | exact ⟨rfl,rfl⟩ | exact ⟨rfl,by decide⟩ | exact (fun _=>rfl) | exact (fun h=>nomatch h) | (simp;done) | omega | (simp [big];done) | exact le_big (by omega) | exact lt_big (by omega))))
     all_goals first | (exfalso;omega;done) | exact NextP.mk (i+1) hi (by omega) rfl
    rw [decide_eq_false hxA] at k2
    have hxm:x=m.step:=(m2 x (List.mem_of_getElem? hx)).resolve_left hxA
    repeat' (first
 | (conv=>whnf)
   first
   | refine Bnd.eq hiw ?_
   | refine Br.t ?_
   | (refine Br.decT ?_ ?_;(focus first | assumption | omega))
   | refine Br.not ?_
   | refine Get.mk _ k1 ?_
   | refine call_fun rfl rfl k2 (.inl rfl) ?_
   | (refine Idx.nat ?_ ?_;(focus omega))
   | refine Get.mk _ rfl ?_
   | (refine Req.mk ?_ ?_;(focus first | rfl | decide | exact ⟨rfl,rfl⟩ | exact ⟨rfl,by decide⟩ | exact (fun _=>rfl) | exact (fun h=>nomatch h) | (simp;done) | omega | (simp [big];done) | exact le_big (by omega) | exact lt_big (by omega))))
    all_goals first | (exfalso;omega;done) | exact NextP.mk (i+1) hi (by omega) rfl
   obtain rfl:i=C.length:=by omega
   repeat' (first
 | (conv=>whnf)
   first
   | (refine Br.decF ?_ ?_;(focus first | assumption | omega))
   | refine call_fun rfl rfl h4 (.inl rfl) ?_
   | refine Get.mk _ rfl ?_
   | refine Leaves.of ?_
   | refine Vw.bool ?_)
   all_goals first | rfl | (exfalso;omega;done)
  have hl0' : 0<l.length:=by omega
  have hlc:=vtC_length l
  have hm:∀ L,L=(l++[(⟨m.who,m.step,true⟩:Vt)]).length→FunF FB1 md 27 [.int .i64 n,.sl false L (vtC (l++[⟨m.who,m.step,true⟩])),.int .i64 need] (.tup [liV (votA n (l++[⟨m.who,m.step,true⟩]) need),.int .i64 (votE n (l++[⟨m.who,m.step,true⟩]) need)]):=fun L e=>by
   rw [e]
   exact voted_funF
  have hmo:=vot_more (m:=⟨m.who,m.step,true⟩) hw rfl he
  rw [hAg] at hmo
  have hvw:∀ {h:List B} {d:Nat} (l:List Vt),VwL h (d+1) (vtC l) (vtC l):=fun {h d} l=>by
   induction l with
   | nil=>exact VwL.nil
   | cons y l ih=>exact VwL.cons (Vw.str rfl) (VwL.cons (Vw.int rfl) (VwL.cons (Vw.bool rfl) ih))
  have hCl:(votA n (l++[⟨m.who,m.step,true⟩]) need).length≤20:=votA_len
  have hva:vtC (l++[⟨m.who,m.step,true⟩])=vtC l++[V.str m.who,V.int IntKind.i64 m.step,V.bool true]:=vtC_app _ _
  have hvl:(vtC l++[V.str m.who,V.int IntKind.i64 m.step,V.bool true]).length=(0+l.length+1) * 3:=by simp [hlc];omega
  have hvg:(vtC l++[V.str m.who,V.int IntKind.i64 m.step,V.bool true]).length=([]:List V).length+(vtC l).length+[V.str m.who,V.int IntKind.i64 m.step,V.bool true].length:=by simp
  have hvv:=fun {h:List B} {d:Nat}=>hvw (h:=h) (d:=d) (l++[⟨m.who,m.step,true⟩])
  rw [hva] at hvv
  have hreq:0+(0+l.length) * 3=([]:List V).length+(vtC l).length∧(([]++vtC l).length+[V.str m.who,V.int IntKind.i64 m.step,V.bool true].length) * (32+1)<big:=by
   refine ⟨by simp [hlc],?_⟩
   simp only [List.nil_append,List.length_cons,List.length_nil,hlc,big]
   have:=hv.2.2.1
   omega
  unfold liV at hm
  generalize votA n (l++[⟨m.who,m.step,true⟩]) need=C at *
  have hvL:(l++[(⟨m.who,m.step,true⟩:Vt)]).length=0+l.length+1:=by simp
  by_cases hz:votE n (l++[⟨m.who,m.step,true⟩]) need=0
  rotate_left
  ·rw [hva] at hm
   have hm:=hm _ hvL.symm
   generalize votE n (l++[⟨m.who,m.step,true⟩]) need=e at *
   repeat' (first
 | (conv=>whnf)
   first
   | (refine Br.decF ?_ ?_;(focus first | assumption | omega))
   | refine Br.not ?_
   | refine Req.mk hlc ?_
   | refine Req.mk hreq ?_
   | refine call_fresh rfl (VwL.cons (Vw.int rfl) (VwL.cons (Vw.ms rfl hvg (part_all hvl) hvv) (VwL.cons (Vw.int rfl) VwL.nil))).1 hm ?_
   | refine call_fun rfl rfl h4 (.inl rfl) ?_
   | (refine Ifz.pos ?_ ?_;(focus omega))
   | refine Get.mk _ rfl ?_
   | refine Leaves.of ?_
   | refine Vw.bool ?_
   | (refine Req.mk ?_ ?_;(focus first | rfl | decide | exact ⟨rfl,rfl⟩ | exact ⟨rfl,by decide⟩ | exact (fun _=>rfl) | exact (fun h=>nomatch h) | (simp;done) | omega | (simp [big];done) | exact le_big (by omega) | exact lt_big (by omega))))
   all_goals first | rfl | (exfalso;omega;done)
  obtain ⟨m1,m2⟩:=hmo hz
  rw [hz,hva] at hm
  have hm:=hm _ hvL.symm
  repeat' (first
 | (conv=>whnf)
   first
   | refine Br.f ?_
   | (refine Br.decF ?_ ?_;(focus first | assumption | omega))
   | refine Req.mk hlc ?_
   | refine Req.mk hreq ?_
   | refine call_fresh rfl (VwL.cons (Vw.int rfl) (VwL.cons (Vw.ms rfl hvg (part_all hvl) hvv) (VwL.cons (Vw.int rfl) VwL.nil))).1 hm ?_
   | (refine Ifz.pos ?_ ?_;(focus omega))
   | refine Get.mk _ rfl ?_
   | (refine Req.mk ?_ ?_;(focus first | rfl | decide | exact ⟨rfl,rfl⟩ | exact ⟨rfl,by decide⟩ | exact (fun _=>rfl) | exact (fun h=>nomatch h) | (simp;done) | omega | (simp [big];done) | exact le_big (by omega) | exact lt_big (by omega))))
  all_goals try (exfalso;omega;done)
  refine LoopP.by (fun i:Nat=>i≤A.length) (fun i=>[(20,.int .i64 (i:Nat))]) (fun _=>[.blk [.int .i64 n,.sl c l.length (vtC l),.int .i64 need] false,.blk [.str m.who,.int .i64 m.step,.bool true] false , .blk (vtC l++[.str m.who,.int .i64 m.step,.bool true]) false,.unborn]) (fun i=>A.length - i) 0 (Nat.zero_le _) rfl ?_
  rintro i hi'
  dsimp only
  by_cases hi:i<A.length
  ·obtain ⟨x,hx⟩:∃ x,A[i]?=some x:=⟨_,List.getElem?_eq_getElem hi⟩
   have k1:=ints_at hx
   have k2:=(has_ok (c:=decide (C=[])) (A:=C) (x:=x) (by omega)).tab sub1
   rw [decide_eq_true (m1 x (List.mem_of_getElem? hx))] at k2
   have hiw:IntKind.i64.wrap ((i:Int)+1)=((i+1:Nat):Int):=by rw [wrap_i64 (by omega) (by omega)];omega
   repeat' (first
 | (conv=>whnf)
   first
   | refine Bnd.eq hiw ?_
   | refine Br.f ?_
   | (refine Br.decT ?_ ?_;(focus first | assumption | omega))
   | refine Get.mk _ k1 ?_
   | refine call_fun rfl rfl k2 (.inl rfl) ?_
   | (refine Idx.nat ?_ ?_;(focus omega))
   | (refine Req.mk ?_ ?_;(focus first | rfl | decide | exact ⟨rfl,rfl⟩ | exact ⟨rfl,by decide⟩ | exact (fun _=>rfl) | exact (fun h=>nomatch h) | (simp;done) | omega | (simp [big];done) | exact le_big (by omega) | exact lt_big (by omega))))
   all_goals first | (exfalso;omega;done) | exact NextP.mk (i+1) hi (by omega) rfl
  obtain rfl:i=A.length:=by omega
  clear hi hi'
  repeat' (first
 | (conv=>whnf)
   first
   | (refine Br.decF ?_ ?_;(focus first | assumption | omega)))
  all_goals try (exfalso;omega;done)
  refine LoopP.by (fun i:Nat=>i≤C.length) (fun i=>[(21,.int .i64 (i:Nat))]) (fun _=>[.blk [.int .i64 n,.sl c l.length (vtC l),.int .i64 need] false,.blk [.str m.who,.int .i64 m.step,.bool true] false , .blk (vtC l++[.str m.who,.int .i64 m.step,.bool true]) false,.unborn]) (fun i=>C.length - i) 0 (Nat.zero_le _) rfl ?_
  rintro i hi'
  dsimp only
  by_cases hi:i<C.length
  ·obtain ⟨x,hx⟩:∃ x,C[i]?=some x:=⟨_,List.getElem?_eq_getElem hi⟩
   have k1:=ints_at hx
   have k2:=(has_ok (c:=decide (A=[])) (A:=A) (x:=x) (by omega)).tab sub1
   have hiw:IntKind.i64.wrap ((i:Int)+1)=((i+1:Nat):Int):=by rw [wrap_i64 (by omega) (by omega)];omega
   by_cases hxA:x∈A
   ·rw [decide_eq_true hxA] at k2
    repeat' (first
 | (conv=>whnf)
   first
   | refine Bnd.eq hiw ?_
   | refine Br.f ?_
   | (refine Br.decT ?_ ?_;(focus first | assumption | omega))
   | refine Get.mk _ k1 ?_
   | refine call_fun rfl rfl k2 (.inl rfl) ?_
   | (refine Idx.nat ?_ ?_;(focus omega))
   | (refine Req.mk ?_ ?_;(focus first | rfl | decide | exact ⟨rfl,rfl⟩ | exact ⟨rfl,by decide⟩ | exact (fun _=>rfl) | exact (fun h=>nomatch h) | (simp;done) | omega | (simp [big];done) | exact le_big (by omega) | exact lt_big (by omega))))
    all_goals first | (exfalso;omega;done) | exact NextP.mk (i+1) hi (by omega) rfl
   rw [decide_eq_false hxA] at k2
   have hxm:x=m.step:=(m2 x (List.mem_of_getElem? hx)).resolve_left hxA
   repeat' (first
 | (conv=>whnf)
   first
   | refine Bnd.eq hiw ?_
   | refine Br.t ?_
   | (refine Br.decT ?_ ?_;(focus first | assumption | omega))
   | refine Br.not ?_
   | refine Get.mk _ k1 ?_
   | refine call_fun rfl rfl k2 (.inl rfl) ?_
   | (refine Idx.nat ?_ ?_;(focus omega))
   | refine Get.mk _ rfl ?_
   | (refine Req.mk ?_ ?_;(focus first | rfl | decide | exact ⟨rfl,rfl⟩ | exact ⟨rfl,by decide⟩ | exact (fun _=>rfl) | exact (fun h=>nomatch h) | (simp;done) | omega | (simp [big];done) | exact le_big (by omega) | exact lt_big (by omega))))
   all_goals first | (exfalso;omega;done) | exact NextP.mk (i+1) hi (by omega) rfl
  obtain rfl:i=C.length:=by omega
  repeat' (first
 | (conv=>whnf)
   first
   | (refine Br.decF ?_ ?_;(focus first | assumption | omega))
   | refine call_fun rfl rfl h4 (.inl rfl) ?_
   | refine Get.mk _ rfl ?_
   | refine Leaves.of ?_
   | refine Vw.bool ?_)
  all_goals first | rfl | (exfalso;omega;done)
 have hl0' : 0<l.length:=by omega
 have hll:=hv.2.2.1
 obtain ⟨N,hN⟩:∃ N:Nat,l.length=N+1:=⟨l.length - 1,by omega⟩
 have haw:IntKind.i64.wrap a=a:=wrap_i64 (by omega) (by omega)
 have hlw:IntKind.i64.wrap ((l.length:Int) - 1)=(N:Int):=by rw [wrap_i64 (by omega) (by omega)];omega
 obtain ⟨k,hk⟩:∃ k:Nat,a.tmod (N:Int)=(k:Int):=⟨(a.tmod N).toNat,by have:=Int.tmod_nonneg (N:Int) ha.1;omega⟩
 have hkN:k<N:=by have:=Int.tmod_lt_of_pos a (b:=(N:Int)) (by omega);omega
 have hN0:¬ (N:Int)=0:=by omega
 have hkw:IntKind.i64.wrap (a.tmod (N:Int))=(k:Int):=by rw [hk];exact wrap_i64 (by omega) (by omega)
 have hk1:IntKind.i64.wrap ((k:Int)+1)=((k+1:Nat):Int):=by rw [wrap_i64 (by omega) (by omega)];omega
 obtain ⟨va,hva⟩:∃ x,l[k]?=some x:=⟨_,List.getElem?_eq_getElem (by omega)⟩
 obtain ⟨vb,hvb⟩:∃ x,l[k+1]?=some x:=⟨_,List.getElem?_eq_getElem (by omega)⟩
 have p1:=vtC_part hva
 have p2:=vtC_part hvb
 have hkl:k≤l.length - 1:=by omega
 have hkl1:k+1≤l.length - 1:=by omega
 by_cases hab:vk va=vk vb
 ·have q1:va.who=vb.who:=congrArg Prod.fst hab
  have q2:va.step=vb.step:=congrArg Prod.snd hab
  have b1:(va.who == vb.who)=true:=by simp [q1]
  repeat' (first
 | (conv=>whnf)
   first
   | refine Bnd.eq haw ?_
   | refine Bnd.eq hlw ?_
   | refine Bnd.eq hk ?_
   | refine Bnd.eq hk1 ?_
   | refine Bnd.eq hnw ?_
   | refine Bnd.eq hnd ?_
   | refine Br.f ?_
   | (refine Br.decT ?_ ?_;(focus first | assumption | omega))
   | (refine Br.decF ?_ ?_;(focus first | assumption | omega))
   | refine Br.not ?_
   | refine Br.yes b1 ?_
   | refine Get.mk _ p1 ?_
   | refine Get.mk _ p2 ?_
   | refine Req.mk hN0 ?_
   | refine Req.mk hl0' ?_
   | refine Idx.nat hkl ?_
   | refine Idx.nat hkl1 ?_
   | refine call_fun rfl rfl h5 (.inl rfl) ?_
   | refine Get.mk _ rfl ?_
   | (refine Req.mk ?_ ?_;(focus first | rfl | decide | exact ⟨rfl,rfl⟩ | exact ⟨rfl,by decide⟩ | exact (fun _=>rfl) | exact (fun h=>nomatch h) | (simp;done) | omega | (simp [big];done) | exact le_big (by omega) | exact lt_big (by omega))))
  all_goals try (exfalso;omega;done)
  refine LoopP.by (fun i:Nat=>i≤A.length) (fun i=>[(17,.int .i64 (i:Nat))]) (fun _=>[.blk [.int .i64 n,.sl c l.length (vtC l),.int .i64 need] false,.blk [.str m.who,.int .i64 m.step,.bool m.yes] false , .blk [.str va.who,.int .i64 va.step,.bool va.yes] false,.blk [.str vb.who,.int .i64 vb.step,.bool vb.yes] false]) (fun i=>A.length - i) 0 (Nat.zero_le _) rfl ?_
  rintro i hi'
  dsimp only
  by_cases hi:i<A.length
  ·obtain ⟨x,hx⟩:∃ x,A[i]?=some x:=⟨_,List.getElem?_eq_getElem hi⟩
   have k1:=ints_at hx
   have k2:=(has_ok (c:=decide (Z=[])) (A:=Z) (x:=x) (by omega)).tab sub1
   rw [decide_eq_true (hs2 x (List.mem_of_getElem? hx))] at k2
   have hiw:IntKind.i64.wrap ((i:Int)+1)=((i+1:Nat):Int):=by rw [wrap_i64 (by omega) (by omega)];omega
   repeat' (first
 | (conv=>whnf)
   first
   | refine Bnd.eq hiw ?_
   | refine Br.f ?_
   | (refine Br.decT ?_ ?_;(focus first | assumption | omega))
   | refine Get.mk _ k1 ?_
   | refine call_fun rfl rfl k2 (.inl rfl) ?_
   | (refine Idx.nat ?_ ?_;(focus omega))
   | (refine Req.mk ?_ ?_;(focus first | rfl | decide | exact ⟨rfl,rfl⟩ | exact ⟨rfl,by decide⟩ | exact (fun _=>rfl) | exact (fun h=>nomatch h) | (simp;done) | omega | (simp [big];done) | exact le_big (by omega) | exact lt_big (by omega))))
   all_goals first | (exfalso;omega;done) | exact NextP.mk (i+1) hi (by omega) rfl
  obtain rfl:i=A.length:=by omega
  clear hi hi' hs2
  repeat' (first
 | (conv=>whnf)
   first
   | (refine Br.decF ?_ ?_;(focus first | assumption | omega))
   | refine Get.mk _ rfl ?_
   | (refine Req.mk ?_ ?_;(focus first | rfl | decide | exact ⟨rfl,rfl⟩ | exact ⟨rfl,by decide⟩ | exact (fun _=>rfl) | exact (fun h=>nomatch h) | (simp;done) | omega | (simp [big];done) | exact le_big (by omega) | exact lt_big (by omega))))
  all_goals try (exfalso;omega;done)
  refine LoopP.by (fun i:Nat=>i≤l.length∧∀ v∈l.take i,v.who≠m.who) (fun i=>[(18,.int .i64 (i:Nat))]) (fun _=>[.blk [.int .i64 n,.sl c l.length (vtC l),.int .i64 need] false,.blk [.str m.who,.int .i64 m.step,.bool true] false , .blk [.str va.who,.int .i64 va.step,.bool va.yes] false,.blk [.str vb.who,.int .i64 vb.step,.bool vb.yes] false]) (fun i=>l.length - i) 0 ⟨Nat.zero_le _,fun v hv=>by simp at hv⟩ rfl ?_
  rintro i ⟨hi', hw⟩
  dsimp only
  by_cases hi:i<l.length
  ·obtain ⟨v,hx⟩:∃ v,l[i]?=some v:=⟨_,List.getElem?_eq_getElem hi⟩
   have k1:=(vt_c hx).1
   have hil:i≤l.length - 1:=by omega
   have hl0:0<l.length:=by omega
   have hiw:IntKind.i64.wrap ((i:Int)+1)=((i+1:Nat):Int):=by rw [wrap_i64 (by omega) (by omega)];omega
   by_cases hvm:v.who=m.who
   ·have kb:(v.who == m.who)=true:=by simp [hvm]
    repeat' (first
 | (conv=>whnf)
   first
   | (refine Br.decT ?_ ?_;(focus first | assumption | omega))
   | refine Br.yes kb ?_
   | refine Get.mk _ k1 ?_
   | refine call_fun rfl rfl h4 (.inl rfl) ?_
   | (refine Idx.nat ?_ ?_;(focus omega))
   | refine Get.mk _ rfl ?_
   | refine Leaves.of ?_
   | refine Vw.bool ?_
   | (refine Req.mk ?_ ?_;(focus first | rfl | decide | exact ⟨rfl,rfl⟩ | exact ⟨rfl,by decide⟩ | exact (fun _=>rfl) | exact (fun h=>nomatch h) | (simp;done) | omega | (simp [big];done) | exact le_big (by omega) | exact lt_big (by omega))))
    all_goals first | rfl | (exfalso;omega;done) | (conv=>whnf)
   have hw' : ∀ z∈l.take (i+1),z.who≠m.who:=fun z hz=>by
    rw [List.take_add_one,hx] at hz
    rcases List.mem_append.1 hz with h | h
    ·exact hw z h
    ·simp at h;rw [h];exact hvm
   have kb:(v.who == m.who)=false:=by simp [hvm]
   repeat' (first
 | (conv=>whnf)
   first
   | refine Bnd.eq hiw ?_
   | (refine Br.decT ?_ ?_;(focus first | assumption | omega))
   | refine Br.no kb ?_
   | refine Get.mk _ k1 ?_
   | (refine Idx.nat ?_ ?_;(focus omega))
   | refine Get.mk _ rfl ?_
   | (refine Req.mk ?_ ?_;(focus first | rfl | decide | exact ⟨rfl,rfl⟩ | exact ⟨rfl,by decide⟩ | exact (fun _=>rfl) | exact (fun h=>nomatch h) | (simp;done) | omega | (simp [big];done) | exact le_big (by omega) | exact lt_big (by omega))))
   all_goals first | (exfalso;omega;done) | (exact absurd ‹_› hvm) | exact NextP.mk (i+1) ⟨hi,hw'⟩ (by omega) rfl | trace_state
  obtain rfl:i=l.length:=by omega
  rw [List.take_length] at hw
  have hlc:=vtC_length l
  have hm:∀ L,L=(l++[(⟨m.who,m.step,true⟩:Vt)]).length→FunF FB1 md 27 [.int .i64 n,.sl false L (vtC (l++[⟨m.who,m.step,true⟩])),.int .i64 need] (.tup [liV (votA n (l++[⟨m.who,m.step,true⟩]) need),.int .i64 (votE n (l++[⟨m.who,m.step,true⟩]) need)]):=fun L e=>by
   rw [e]
   exact voted_funF
  have hmo:=vot_more (m:=⟨m.who,m.step,true⟩) hw rfl he
  rw [hAg] at hmo
  have hvw:∀ {h:List B} {d:Nat} (l:List Vt),VwL h (d+1) (vtC l) (vtC l):=fun {h d} l=>by
   induction l with
   | nil=>exact VwL.nil
   | cons y l ih=>exact VwL.cons (Vw.str rfl) (VwL.cons (Vw.int rfl) (VwL.cons (Vw.bool rfl) ih))
  have hCl:(votA n (l++[⟨m.who,m.step,true⟩]) need).length≤20:=votA_len
  have hva:vtC (l++[⟨m.who,m.step,true⟩])=vtC l++[V.str m.who,V.int IntKind.i64 m.step,V.bool true]:=vtC_app _ _
  have hvl:(vtC l++[V.str m.who,V.int IntKind.i64 m.step,V.bool true]).length=(0+l.length+1) * 3:=by simp [hlc];omega
  have hvg:(vtC l++[V.str m.who,V.int IntKind.i64 m.step,V.bool true]).length=([]:List V).length+(vtC l).length+[V.str m.who,V.int IntKind.i64 m.step,V.bool true].length:=by simp
  have hvv:=fun {h:List B} {d:Nat}=>hvw (h:=h) (d:=d) (l++[⟨m.who,m.step,true⟩])
  rw [hva] at hvv
  have hreq:0+(0+l.length) * 3=([]:List V).length+(vtC l).length∧(([]++vtC l).length+[V.str m.who,V.int IntKind.i64 m.step,V.bool true].length) * (32+1)<big:=by
   refine ⟨by simp [hlc],?_⟩
   simp only [List.nil_append,List.length_cons,List.length_nil,hlc,big]
   have:=hv.2.2.1
   omega
  unfold liV at hm
  generalize votA n (l++[⟨m.who,m.step,true⟩]) need=C at *
  have hvL:(l++[(⟨m.who,m.step,true⟩:Vt)]).length=0+l.length+1:=by simp
  by_cases hz:votE n (l++[⟨m.who,m.step,true⟩]) need=0
  rotate_left
  ·rw [hva] at hm
   have hm:=hm _ hvL.symm
   generalize votE n (l++[⟨m.who,m.step,true⟩]) need=e at *
   repeat' (first
 | (conv=>whnf)
   first
   | (refine Br.decF ?_ ?_;(focus first | assumption | omega))
   | refine Br.not ?_
   | refine Req.mk hlc ?_
   | refine Req.mk hreq ?_
   | refine call_fresh rfl (VwL.cons (Vw.int rfl) (VwL.cons (Vw.ms rfl hvg (part_all hvl) hvv) (VwL.cons (Vw.int rfl) VwL.nil))).1 hm ?_
   | refine call_fun rfl rfl h4 (.inl rfl) ?_
   | (refine Ifz.pos ?_ ?_;(focus omega))
   | refine Get.mk _ rfl ?_
   | refine Leaves.of ?_
   | refine Vw.bool ?_
   | (refine Req.mk ?_ ?_;(focus first | rfl | decide | exact ⟨rfl,rfl⟩ | exact ⟨rfl,by decide⟩ | exact (fun _=>rfl) | exact (fun h=>nomatch h) | (simp;done) | omega | (simp [big];done) | exact le_big (by omega) | exact lt_big (by omega))))
   all_goals first | rfl | (exfalso;omega;done)
  obtain ⟨m1,m2⟩:=hmo hz
  rw [hz,hva] at hm
  have hm:=hm _ hvL.symm
  repeat' (first
 | (conv=>whnf)
   first
   | refine Br.f ?_
   | (refine Br.decF ?_ ?_;(focus first | assumption | omega))
   | refine Req.mk hlc ?_
   | refine Req.mk hreq ?_
   | refine call_fresh rfl (VwL.cons (Vw.int rfl) (VwL.cons (Vw.ms rfl hvg (part_all hvl) hvv) (VwL.cons (Vw.int rfl) VwL.nil))).1 hm ?_
   | (refine Ifz.pos ?_ ?_;(focus omega))
   | refine Get.mk _ rfl ?_
   | (refine Req.mk ?_ ?_;(focus first | rfl | decide | exact ⟨rfl,rfl⟩ | exact ⟨rfl,by decide⟩ | exact (fun _=>rfl) | exact (fun h=>nomatch h) | (simp;done) | omega | (simp [big];done) | exact le_big (by omega) | exact lt_big (by omega))))
  all_goals try (exfalso;omega;done)
  refine LoopP.by (fun i:Nat=>i≤A.length) (fun i=>[(20,.int .i64 (i:Nat))]) (fun _=>[.blk [.int .i64 n,.sl c l.length (vtC l),.int .i64 need] false,.blk [.str m.who,.int .i64 m.step,.bool true] false , .blk [.str va.who,.int .i64 va.step,.bool va.yes] false,.blk [.str vb.who,.int .i64 vb.step,.bool vb.yes] false,.blk (vtC l++[.str m.who,.int .i64 m.step,.bool true]) false,.unborn]) (fun i=>A.length - i) 0 (Nat.zero_le _) rfl ?_
  rintro i hi'
  dsimp only
  by_cases hi:i<A.length
  ·obtain ⟨x,hx⟩:∃ x,A[i]?=some x:=⟨_,List.getElem?_eq_getElem hi⟩
   have k1:=ints_at hx
   have k2:=(has_ok (c:=decide (C=[])) (A:=C) (x:=x) (by omega)).tab sub1
   rw [decide_eq_true (m1 x (List.mem_of_getElem? hx))] at k2
   have hiw:IntKind.i64.wrap ((i:Int)+1)=((i+1:Nat):Int):=by rw [wrap_i64 (by omega) (by omega)];omega
   repeat' (first
 | (conv=>whnf)
   first
   | refine Bnd.eq hiw ?_
   | refine Br.f ?_
   | (refine Br.decT ?_ ?_;(focus first | assumption | omega))
   | refine Get.mk _ k1 ?_
   | refine call_fun rfl rfl k2 (.inl rfl) ?_
   | (refine Idx.nat ?_ ?_;(focus omega))
   | (refine Req.mk ?_ ?_;(focus first | rfl | decide | exact ⟨rfl,rfl⟩ | exact ⟨rfl,by decide⟩ | exact (fun _=>rfl) | exact (fun h=>nomatch h) | (simp;done) | omega | (simp [big];done) | exact le_big (by omega) | exact lt_big (by omega))))
   all_goals first | (exfalso;omega;done) | exact NextP.mk (i+1) hi (by omega) rfl
  obtain rfl:i=A.length:=by omega
  clear hi hi'
  repeat' (first
 | (conv=>whnf)
   first
   | (refine Br.decF ?_ ?_;(focus first | assumption | omega)))
  all_goals try (exfalso;omega;done)
  refine LoopP.by (fun i:Nat=>i≤C.length) (fun i=>[(21,.int .i64 (i:Nat))]) (fun _=>[.blk [.int .i64 n,.sl c l.length (vtC l),.int .i64 need] false,.blk [.str m.who,.int .i64 m.step,.bool true] false , .blk [.str va.who,.int .i64 va.step,.bool va.yes] false,.blk [.str vb.who,.int .i64 vb.step,.bool vb.yes] false,.blk (vtC l++[.str m.who,.int .i64 m.step,.bool true]) false,.unborn]) (fun i=>C.length - i) 0 (Nat.zero_le _) rfl ?_
  rintro i hi'
  dsimp only
  by_cases hi:i<C.length
  ·obtain ⟨x,hx⟩:∃ x,C[i]?=some x:=⟨_,List.getElem?_eq_getElem hi⟩
   have k1:=ints_at hx
   have k2:=(has_ok (c:=decide (A=[])) (A:=A) (x:=x) (by omega)).tab sub1
   have hiw:IntKind.i64.wrap ((i:Int)+1)=((i+1:Nat):Int):=by rw [wrap_i64 (by omega) (by omega)];omega
   by_cases hxA:x∈A
   ·rw [decide_eq_true hxA] at k2
    repeat' (first
 | (conv=>whnf)
   first
   | refine Bnd.eq hiw ?_
   | refine Br.f ?_
   | (refine Br.decT ?_ ?_;(focus first | assumption | omega))
   | refine Get.mk _ k1 ?_
   | refine call_fun rfl rfl k2 (.inl rfl) ?_
   | (refine Idx.nat ?_ ?_;(focus omega))
   | (refine Req.mk ?_ ?_;(focus first | rfl | decide | exact ⟨rfl,rfl⟩ | exact ⟨rfl,by decide⟩ | exact (fun _=>rfl) | exact (fun h=>nomatch h) | (simp;done) | omega | (simp [big];done) | exact le_big (by omega) | exact lt_big (by omega))))
    all_goals first | (exfalso;omega;done) | exact NextP.mk (i+1) hi (by omega) rfl
   rw [decide_eq_false hxA] at k2
   have hxm:x=m.step:=(m2 x (List.mem_of_getElem? hx)).resolve_left hxA
   repeat' (first
 | (conv=>whnf)
   first
   | refine Bnd.eq hiw ?_
   | refine Br.t ?_
   | (refine Br.decT ?_ ?_;(focus first | assumption | omega))
   | refine Br.not ?_
   | refine Get.mk _ k1 ?_
   | refine call_fun rfl rfl k2 (.inl rfl) ?_
   | (refine Idx.nat ?_ ?_;(focus omega))
   | refine Get.mk _ rfl ?_
   | (refine Req.mk ?_ ?_;(focus first | rfl | decide | exact ⟨rfl,rfl⟩ | exact ⟨rfl,by decide⟩ | exact (fun _=>rfl) | exact (fun h=>nomatch h) | (simp;done) | omega | (simp [big];done) | exact le_big (by omega) | exact lt_big (by omega))))
   all_goals first | (exfalso;omega;done) | exact NextP.mk (i+1) hi (by omega) rfl
  obtain rfl:i=C.length:=by omega
  repeat' (first
 | (conv=>whnf)
   first
   | (refine Br.decF ?_ ?_;(focus first | assumption | omega))
   | refine call_fun rfl rfl h4 (.inl rfl) ?_
   | refine Get.mk _ rfl ?_
   | refine Leaves.of ?_
   | refine Vw.bool ?_)
  all_goals first | rfl | (exfalso;omega;done)
 obtain ⟨w1,w2⟩:=vot_set hva hvb hab he
 have hcs:((va.who == vb.who)=true∧va.step≠vb.step)∨(va.who == vb.who)=false:=by
  by_cases q1:va.who=vb.who
  ·exact .inl ⟨by simp [q1],fun q2=>hab (by simp [q1,q2])⟩
  ·exact .inr (by simp [q1])
 have hlc:=vtC_length l
 have hreq0:0+l.length * 3=(vtC l).length∧(vtC l).length * (32+1)<big:=by
  simp only [big,hlc]
  omega
 have hok1:([]++vtC l).length=([]:List V).length+(vtC l).length∧0+k * 3+3≤([]++vtC l).length:=⟨by simp,by simp only [List.nil_append,hlc];omega⟩
 have hov1:over ([]++vtC l) (0+k * 3) [V.str vb.who,V.int IntKind.i64 vb.step,V.bool vb.yes]=vtC (l.set k vb):=by rw [List.nil_append,Nat.zero_add];exact over_vt (by omega)
 have hov2:over (vtC (l.set k vb)) (0+(k+1) * 3) [V.str va.who,V.int IntKind.i64 va.step,V.bool va.yes]=vtC ((l.set k vb).set (k+1) va):=by rw [Nat.zero_add];exact over_vt (by rw [List.length_set];omega)
 have hls:(l.set k vb).length=l.length:=List.length_set
 have hls2:((l.set k vb).set (k+1) va).length=l.length:=by simp
 have hl3:=vtC_length (l.set k vb)
 have hl4:=vtC_length ((l.set k vb).set (k+1) va)
 have hok2:(vtC (l.set k vb)).length=([]:List V).length+(vtC l).length∧0+(k+1) * 3+3≤(vtC (l.set k vb)).length:=⟨by simp only [List.length_nil,hl3,hlc,hls];omega,by rw [hl3,hls];omega⟩
 have hm0:FunF FB1 md 27 [.int .i64 n,.sl false (0+l.length) (vtC ((l.set k vb).set (k+1) va)),.int .i64 need] (.tup [.sl (decide (A=[])) A.length (ofInts A),.int .i64 0]):=by
  have:=voted_funF (c:=false) (n:=n) (need:=need) (l:=(l.set k vb).set (k+1) va)
  unfold liV at this
  rw [w1,w2,hAg,hls2] at this
  rw [Nat.zero_add]
  exact this
 generalize hL1:l.set k vb=L1 at *
 generalize hL2:L1.set (k+1) va=L2 at *
 have hvw2:∀ {h:List B} {d:Nat} (l:List Vt),VwL h (d+1) (vtC l) (vtC l):=fun {h d} l=>by
  induction l with
  | nil=>exact VwL.nil
  | cons y l ih=>exact VwL.cons (Vw.str rfl) (VwL.cons (Vw.int rfl) (VwL.cons (Vw.bool rfl) ih))
 have hg2:(vtC L2).length=([]:List V).length+(vtC l).length:=by simp only [List.length_nil,hl4,hlc,hls2];omega
 have hg3:(vtC L2).length=(0+l.length) * 3:=by rw [hl4,hls2];omega
 have h6:=(ints_same (c:=decide (A=[])) (d:=decide (A=[])) (A:=A) (by omega)).tab sub1
 rcases hcs with ⟨b1,q2⟩ | b1
 ·repeat' (first
 | (conv=>whnf)
   first
   | refine Bnd.eq haw ?_
   | refine Bnd.eq hlw ?_
   | refine Bnd.eq hk ?_
   | refine Bnd.eq hk1 ?_
   | refine Bnd.eq hnw ?_
   | refine Bnd.eq hnd ?_
   | refine Br.f ?_
   | (refine Br.decT ?_ ?_;(focus first | assumption | omega))
   | (refine Br.decF ?_ ?_;(focus first | assumption | omega))
   | refine Br.not ?_
   | refine Br.yes b1 ?_
   | refine Get.mk _ p1 ?_
   | refine Get.mk _ p2 ?_
   | refine fV.as hov1 ?_
   | refine fV.as hov2 ?_
   | refine Req.mk hN0 ?_
   | refine Req.mk hok1 ?_
   | refine Req.mk hok2 ?_
   | refine Req.mk hl0' ?_
   | refine Req.mk hlc ?_
   | refine Idx.nat hkl ?_
   | refine Idx.nat hkl1 ?_
   | refine call_fresh rfl (VwL.cons (Vw.int rfl) (VwL.cons (Vw.ms rfl hg2 (part_all hg3) (hvw2 _)) (VwL.cons (Vw.int rfl) VwL.nil))).1 hm0 ?_
   | refine call_fun rfl rfl h6 (.inl rfl) ?_
   | refine call_fun rfl rfl h5 (.inl rfl) ?_
   | (refine Idx.nat ?_ ?_;(focus omega))
   | (refine Ifz.pos ?_ ?_;(focus omega))
   | refine Get.mk _ rfl ?_
   | (refine Req.mk ?_ ?_;(focus first | rfl | decide | exact ⟨rfl,rfl⟩ | exact ⟨rfl,by decide⟩ | exact (fun _=>rfl) | exact (fun h=>nomatch h) | (simp;done) | omega | (simp [big];done) | exact le_big (by omega) | exact lt_big (by omega))))
  all_goals try (exfalso;omega;done)
  refine LoopP.by (fun i:Nat=>i≤A.length) (fun i=>[(17,.int .i64 (i:Nat))]) (fun _=>[.blk [.int .i64 n,.sl c l.length (vtC l),.int .i64 need] false,.blk [.str m.who,.int .i64 m.step,.bool m.yes] false , .blk [.str va.who,.int .i64 va.step,.bool va.yes] false,.blk [.str vb.who,.int .i64 vb.step,.bool vb.yes] false,.blk (vtC L2) false]) (fun i=>A.length - i) 0 (Nat.zero_le _) rfl ?_
  rintro i hi'
  dsimp only
  by_cases hi:i<A.length
  ·obtain ⟨x,hx⟩:∃ x,A[i]?=some x:=⟨_,List.getElem?_eq_getElem hi⟩
   have k1:=ints_at hx
   have k2:=(has_ok (c:=decide (Z=[])) (A:=Z) (x:=x) (by omega)).tab sub1
   rw [decide_eq_true (hs2 x (List.mem_of_getElem? hx))] at k2
   have hiw:IntKind.i64.wrap ((i:Int)+1)=((i+1:Nat):Int):=by rw [wrap_i64 (by omega) (by omega)];omega
   repeat' (first
 | (conv=>whnf)
   first
   | refine Bnd.eq hiw ?_
   | refine Br.f ?_
   | (refine Br.decT ?_ ?_;(focus first | assumption | omega))
   | refine Get.mk _ k1 ?_
   | refine call_fun rfl rfl k2 (.inl rfl) ?_
   | (refine Idx.nat ?_ ?_;(focus omega))
   | (refine Req.mk ?_ ?_;(focus first | rfl | decide | exact ⟨rfl,rfl⟩ | exact ⟨rfl,by decide⟩ | exact (fun _=>rfl) | exact (fun h=>nomatch h) | (simp;done) | omega | (simp [big];done) | exact le_big (by omega) | exact lt_big (by omega))))
   all_goals first | (exfalso;omega;done) | exact NextP.mk (i+1) hi (by omega) rfl
  obtain rfl:i=A.length:=by omega
  clear hi hi' hs2
  repeat' (first
 | (conv=>whnf)
   first
   | (refine Br.decF ?_ ?_;(focus first | assumption | omega))
   | refine Get.mk _ rfl ?_
   | (refine Req.mk ?_ ?_;(focus first | rfl | decide | exact ⟨rfl,rfl⟩ | exact ⟨rfl,by decide⟩ | exact (fun _=>rfl) | exact (fun h=>nomatch h) | (simp;done) | omega | (simp [big];done) | exact le_big (by omega) | exact lt_big (by omega))))
  all_goals try (exfalso;omega;done)
  refine LoopP.by (fun i:Nat=>i≤l.length∧∀ v∈l.take i,v.who≠m.who) (fun i=>[(18,.int .i64 (i:Nat))]) (fun _=>[.blk [.int .i64 n,.sl c l.length (vtC l),.int .i64 need] false,.blk [.str m.who,.int .i64 m.step,.bool true] false , .blk [.str va.who,.int .i64 va.step,.bool va.yes] false,.blk [.str vb.who,.int .i64 vb.step,.bool vb.yes] false,.blk (vtC L2) false]) (fun i=>l.length - i) 0 ⟨Nat.zero_le _,fun v hv=>by simp at hv⟩ rfl ?_
  rintro i ⟨hi', hw⟩
  dsimp only
  by_cases hi:i<l.length
  ·obtain ⟨v,hx⟩:∃ v,l[i]?=some v:=⟨_,List.getElem?_eq_getElem hi⟩
   have k1:=(vt_c hx).1
   have hil:i≤l.length - 1:=by omega
   have hl0:0<l.length:=by omega
   have hiw:IntKind.i64.wrap ((i:Int)+1)=((i+1:Nat):Int):=by rw [wrap_i64 (by omega) (by omega)];omega
   by_cases hvm:v.who=m.who
   ·have kb:(v.who == m.who)=true:=by simp [hvm]
    repeat' (first
 | (conv=>whnf)
   first
   | (refine Br.decT ?_ ?_;(focus first | assumption | omega))
   | refine Br.yes kb ?_
   | refine Get.mk _ k1 ?_
   | refine call_fun rfl rfl h4 (.inl rfl) ?_
   | (refine Idx.nat ?_ ?_;(focus omega))
   | refine Get.mk _ rfl ?_
   | refine Leaves.of ?_
   | refine Vw.bool ?_
   | (refine Req.mk ?_ ?_;(focus first | rfl | decide | exact ⟨rfl,rfl⟩ | exact ⟨rfl,by decide⟩ | exact (fun _=>rfl) | exact (fun h=>nomatch h) | (simp;done) | omega | (simp [big];done) | exact le_big (by omega) | exact lt_big (by omega))))
    all_goals first | rfl | (exfalso;omega;done) | (conv=>whnf)
   have hw' : ∀ z∈l.take (i+1),z.who≠m.who:=fun z hz=>by
    rw [List.take_add_one,hx] at hz
    rcases List.mem_append.1 hz with h | h
    ·exact hw z h
    ·simp at h;rw [h];exact hvm
   have kb:(v.who == m.who)=false:=by simp [hvm]
   repeat' (first
 | (conv=>whnf)
   first
   | refine Bnd.eq hiw ?_
   | (refine Br.decT ?_ ?_;(focus first | assumption | omega))
   | refine Br.no kb ?_
   | refine Get.mk _ k1 ?_
   | (refine Idx.nat ?_ ?_;(focus omega))
   | refine Get.mk _ rfl ?_
   | (refine Req.mk ?_ ?_;(focus first | rfl | decide | exact ⟨rfl,rfl⟩ | exact ⟨rfl,by decide⟩ | exact (fun _=>rfl) | exact (fun h=>nomatch h) | (simp;done) | omega | (simp [big];done) | exact le_big (by omega) | exact lt_big (by omega))))
   all_goals first | (exfalso;omega;done) | (exact absurd ‹_› hvm) | exact NextP.mk (i+1) ⟨hi,hw'⟩ (by omega) rfl | trace_state
  obtain rfl:i=l.length:=by omega
  rw [List.take_length] at hw
  have hlc:=vtC_length l
  have hm:∀ L,L=(l++[(⟨m.who,m.step,true⟩:Vt)]).length→FunF FB1 md 27 [.int .i64 n,.sl false L (vtC (l++[⟨m.who,m.step,true⟩])),.int .i64 need] (.tup [liV (votA n (l++[⟨m.who,m.step,true⟩]) need),.int .i64 (votE n (l++[⟨m.who,m.step,true⟩]) need)]):=fun L e=>by
   rw [e]
   exact voted_funF
  have hmo:=vot_more (m:=⟨m.who,m.step,true⟩) hw rfl he
  rw [hAg] at hmo
  have hvw:∀ {h:List B} {d:Nat} (l:List Vt),VwL h (d+1) (vtC l) (vtC l):=fun {h d} l=>by
   induction l with
   | nil=>exact VwL.nil
   | cons y l ih=>exact VwL.cons (Vw.str rfl) (VwL.cons (Vw.int rfl) (VwL.cons (Vw.bool rfl) ih))
  have hCl:(votA n (l++[⟨m.who,m.step,true⟩]) need).length≤20:=votA_len
  have hva:vtC (l++[⟨m.who,m.step,true⟩])=vtC l++[V.str m.who,V.int IntKind.i64 m.step,V.bool true]:=vtC_app _ _
  have hvl:(vtC l++[V.str m.who,V.int IntKind.i64 m.step,V.bool true]).length=(0+l.length+1) * 3:=by simp [hlc];omega
  have hvg:(vtC l++[V.str m.who,V.int IntKind.i64 m.step,V.bool true]).length=([]:List V).length+(vtC l).length+[V.str m.who,V.int IntKind.i64 m.step,V.bool true].length:=by simp
  have hvv:=fun {h:List B} {d:Nat}=>hvw (h:=h) (d:=d) (l++[⟨m.who,m.step,true⟩])
  rw [hva] at hvv
  have hreq:0+(0+l.length) * 3=([]:List V).length+(vtC l).length∧(([]++vtC l).length+[V.str m.who,V.int IntKind.i64 m.step,V.bool true].length) * (32+1)<big:=by
   refine ⟨by simp [hlc],?_⟩
   simp only [List.nil_append,List.length_cons,List.length_nil,hlc,big]
   have:=hv.2.2.1
   omega
  unfold liV at hm
  generalize votA n (l++[⟨m.who,m.step,true⟩]) need=C at *
  have hvL:(l++[(⟨m.who,m.step,true⟩:Vt)]).length=0+l.length+1:=by simp
  by_cases hz:votE n (l++[⟨m.who,m.step,true⟩]) need=0
  rotate_left
  ·rw [hva] at hm
   have hm:=hm _ hvL.symm
   generalize votE n (l++[⟨m.who,m.step,true⟩]) need=e at *
   repeat' (first
 | (conv=>whnf)
   first
   | (refine Br.decF ?_ ?_;(focus first | assumption | omega))
   | refine Br.not ?_
   | refine Req.mk hlc ?_
   | refine Req.mk hreq ?_
   | refine call_fresh rfl (VwL.cons (Vw.int rfl) (VwL.cons (Vw.ms rfl hvg (part_all hvl) hvv) (VwL.cons (Vw.int rfl) VwL.nil))).1 hm ?_
   | refine call_fun rfl rfl h4 (.inl rfl) ?_
   | (refine Ifz.pos ?_ ?_;(focus omega))
   | refine Get.mk _ rfl ?_
   | refine Leaves.of ?_
   | refine Vw.bool ?_
   | (refine Req.mk ?_ ?_;(focus first | rfl | decide | exact ⟨rfl,rfl⟩ | exact ⟨rfl,by decide⟩ | exact (fun _=>rfl) | exact (fun h=>nomatch h) | (simp;done) | omega | (simp [big];done) | exact le_big (by omega) | exact lt_big (by omega))))
   all_goals first | rfl | (exfalso;omega;done)
  obtain ⟨m1,m2⟩:=hmo hz
  rw [hz,hva] at hm
  have hm:=hm _ hvL.symm
  repeat' (first
 | (conv=>whnf)
   first
   | refine Br.f ?_
   | (refine Br.decF ?_ ?_;(focus first | assumption | omega))
   | refine Req.mk hlc ?_
   | refine Req.mk hreq ?_
   | refine call_fresh rfl (VwL.cons (Vw.int rfl) (VwL.cons (Vw.ms rfl hvg (part_all hvl) hvv) (VwL.cons (Vw.int rfl) VwL.nil))).1 hm ?_
   | (refine Ifz.pos ?_ ?_;(focus omega))
   | refine Get.mk _ rfl ?_
   | (refine Req.mk ?_ ?_;(focus first | rfl | decide | exact ⟨rfl,rfl⟩ | exact ⟨rfl,by decide⟩ | exact (fun _=>rfl) | exact (fun h=>nomatch h) | (simp;done) | omega | (simp [big];done) | exact le_big (by omega) | exact lt_big (by omega))))
  all_goals try (exfalso;omega;done)
  refine LoopP.by (fun i:Nat=>i≤A.length) (fun i=>[(20,.int .i64 (i:Nat))]) (fun _=>[.blk [.int .i64 n,.sl c l.length (vtC l),.int .i64 need] false,.blk [.str m.who,.int .i64 m.step,.bool true] false , .blk [.str va.who,.int .i64 va.step,.bool va.yes] false,.blk [.str vb.who,.int .i64 vb.step,.bool vb.yes] false,.blk (vtC L2) false,.blk (vtC l++[.str m.who,.int .i64 m.step,.bool true]) false,.unborn]) (fun i=>A.length - i) 0 (Nat.zero_le _) rfl ?_
  rintro i hi'
  dsimp only
  by_cases hi:i<A.length
  ·obtain ⟨x,hx⟩:∃ x,A[i]?=some x:=⟨_,List.getElem?_eq_getElem hi⟩
   have k1:=ints_at hx
   have k2:=(has_ok (c:=decide (C=[])) (A:=C) (x:=x) (by omega)).tab sub1
   rw [decide_eq_true (m1 x (List.mem_of_getElem? hx))] at k2
   have hiw:IntKind.i64.wrap ((i:Int)+1)=((i+1:Nat):Int):=by rw [wrap_i64 (by omega) (by omega)];omega
   repeat' (first
 | (conv=>whnf)
   first
   | refine Bnd.eq hiw ?_
   | refine Br.f ?_
   | (refine Br.decT ?_ ?_;(focus first | assumption | omega))
   | refine Get.mk _ k1 ?_
   | refine call_fun rfl rfl k2 (.inl rfl) ?_
   | (refine Idx.nat ?_ ?_;(focus omega))
   | (refine Req.mk ?_ ?_;(focus first | rfl | decide | exact ⟨rfl,rfl⟩ | exact ⟨rfl,by decide⟩ | exact (fun _=>rfl) | exact (fun h=>nomatch h) | (simp;done) | omega | (simp [big];done) | exact le_big (by omega) | exact lt_big (by omega))))
   all_goals first | (exfalso;omega;done) | exact NextP.mk (i+1) hi (by omega) rfl
  obtain rfl:i=A.length:=by omega
  clear hi hi'
  repeat' (first
 | (conv=>whnf)
   first
   | (refine Br.decF ?_ ?_;(focus first | assumption | omega)))
  all_goals try (exfalso;omega;done)
  refine LoopP.by (fun i:Nat=>i≤C.length) (fun i=>[(21,.int .i64 (i:Nat))]) (fun _=>[.blk [.int .i64 n,.sl c l.length (vtC l),.int .i64 need] false,.blk [.str m.who,.int .i64 m.step,.bool true] false , .blk [.str va.who,.int .i64 va.step,.bool va.yes] false,.blk [.str vb.who,.int .i64 vb.step,.bool vb.yes] false,.blk (vtC L2) false,.blk (vtC l++[.str m.who,.int .i64 m.step,.bool true]) false,.unborn]) (fun i=>C.length - i) 0 (Nat.zero_le _) rfl ?_
  rintro i hi'
  dsimp only
  by_cases hi:i<C.length
  ·obtain ⟨x,hx⟩:∃ x,C[i]?=some x:=⟨_,List.getElem?_eq_getElem hi⟩
   have k1:=ints_at hx
   have k2:=(has_ok (c:=decide (A=[])) (A:=A) (x:=x) (by omega)).tab sub1
   have hiw:IntKind.i64.wrap ((i:Int)+1)=((i+1:Nat):Int):=by rw [wrap_i64 (by omega) (by omega)];omega
   by_cases hxA:x∈A
   ·rw [decide_eq_true hxA] at k2
    repeat' (first
 | (conv=>whnf)
   first
   | refine Bnd.eq hiw ?_
   | refine Br.f ?_
   | (refine Br.decT ?_ ?_;(focus first | assumption | omega))
   | refine Get.mk _ k1 ?_
   | refine call_fun rfl rfl k2 (.inl rfl) ?_
   | (refine Idx.nat ?_ ?_;(focus omega))
   | (refine Req.mk ?_ ?_;(focus first | rfl | decide | exact ⟨rfl,rfl⟩ | exact ⟨rfl,by decide⟩ | exact (fun _=>rfl) | exact (fun h=>nomatch h) | (simp;done) | omega | (simp [big];done) | exact le_big (by omega) | exact lt_big (by omega))))
    all_goals first | (exfalso;omega;done) | exact NextP.mk (i+1) hi (by omega) rfl
   rw [decide_eq_false hxA] at k2
   have hxm:x=m.step:=(m2 x (List.mem_of_getElem? hx)).resolve_left hxA
   repeat' (first
 | (conv=>whnf)
   first
   | refine Bnd.eq hiw ?_
   | refine Br.t ?_
   | (refine Br.decT ?_ ?_;(focus first | assumption | omega))
   | refine Br.not ?_
   | refine Get.mk _ k1 ?_
   | refine call_fun rfl rfl k2 (.inl rfl) ?_
   | (refine Idx.nat ?_ ?_;(focus omega))
   | refine Get.mk _ rfl ?_
   | (refine Req.mk ?_ ?_;(focus first | rfl | decide | exact ⟨rfl,rfl⟩ | exact ⟨rfl,by decide⟩ | exact (fun _=>rfl) | exact (fun h=>nomatch h) | (simp;done) | omega | (simp [big];done) | exact le_big (by omega) | exact lt_big (by omega))))
   all_goals first | (exfalso;omega;done) | exact NextP.mk (i+1) hi (by omega) rfl
  obtain rfl:i=C.length:=by omega
  repeat' (first
 | (conv=>whnf)
   first
   | (refine Br.decF ?_ ?_;(focus first | assumption | omega))
   | refine call_fun rfl rfl h4 (.inl rfl) ?_
   | refine Get.mk _ rfl ?_
   | refine Leaves.of ?_
   | refine Vw.bool ?_)
  all_goals first | rfl | (exfalso;omega;done)
 ·repeat' (first
 | (conv=>whnf)
   first
   | refine Bnd.eq haw ?_
   | refine Bnd.eq hlw ?_
   | refine Bnd.eq hk ?_
   | refine Bnd.eq hk1 ?_
   | refine Bnd.eq hnw ?_
   | refine Bnd.eq hnd ?_
   | refine Br.t ?_
   | refine Br.f ?_
   | (refine Br.decT ?_ ?_;(focus first | assumption | omega))
   | (refine Br.decF ?_ ?_;(focus first | assumption | omega))
   | refine Br.not ?_
   | refine Br.no b1 ?_
   | refine Get.mk _ p1 ?_
   | refine Get.mk _ p2 ?_
   | refine fV.as hov1 ?_
   | refine fV.as hov2 ?_
   | refine Req.mk hN0 ?_
   | refine Req.mk hok1 ?_
   | refine Req.mk hok2 ?_
   | refine Req.mk hl0' ?_
   | refine Req.mk hlc ?_
   | refine Idx.nat hkl ?_
   | refine Idx.nat hkl1 ?_
   | refine call_fresh rfl (VwL.cons (Vw.int rfl) (VwL.cons (Vw.ms rfl hg2 (part_all hg3) (hvw2 _)) (VwL.cons (Vw.int rfl) VwL.nil))).1 hm0 ?_
   | refine call_fun rfl rfl h6 (.inl rfl) ?_
   | refine call_fun rfl rfl h5 (.inl rfl) ?_
   | (refine Idx.nat ?_ ?_;(focus omega))
   | (refine Ifz.pos ?_ ?_;(focus omega))
   | refine Get.mk _ rfl ?_
   | (refine Req.mk ?_ ?_;(focus first | rfl | decide | exact ⟨rfl,rfl⟩ | exact ⟨rfl,by decide⟩ | exact (fun _=>rfl) | exact (fun h=>nomatch h) | (simp;done) | omega | (simp [big];done) | exact le_big (by omega) | exact lt_big (by omega))))
  all_goals try (exfalso;omega;done)
  refine LoopP.by (fun i:Nat=>i≤A.length) (fun i=>[(17,.int .i64 (i:Nat))]) (fun _=>[.blk [.int .i64 n,.sl c l.length (vtC l),.int .i64 need] false,.blk [.str m.who,.int .i64 m.step,.bool m.yes] false , .blk [.str va.who,.int .i64 va.step,.bool va.yes] false,.blk [.str vb.who,.int .i64 vb.step,.bool vb.yes] false,.blk (vtC L2) false]) (fun i=>A.length - i) 0 (Nat.zero_le _) rfl ?_
  rintro i hi'
  dsimp only
  by_cases hi:i<A.length
  ·obtain ⟨x,hx⟩:∃ x,A[i]?=some x:=⟨_,List.getElem?_eq_getElem hi⟩
   have k1:=ints_at hx
   have k2:=(has_ok (c:=decide (Z=[])) (A:=Z) (x:=x) (by omega)).tab sub1
   rw [decide_eq_true (hs2 x (List.mem_of_getElem? hx))] at k2
   have hiw:IntKind.i64.wrap ((i:Int)+1)=((i+1:Nat):Int):=by rw [wrap_i64 (by omega) (by omega)];omega
   repeat' (first
 | (conv=>whnf)
   first
   | refine Bnd.eq hiw ?_
   | refine Br.f ?_
   | (refine Br.decT ?_ ?_;(focus first | assumption | omega))
   | refine Get.mk _ k1 ?_
   | refine call_fun rfl rfl k2 (.inl rfl) ?_
   | (refine Idx.nat ?_ ?_;(focus omega))
   | (refine Req.mk ?_ ?_;(focus first | rfl | decide | exact ⟨rfl,rfl⟩ | exact ⟨rfl,by decide⟩ | exact (fun _=>rfl) | exact (fun h=>nomatch h) | (simp;done) | omega | (simp [big];done) | exact le_big (by omega) | exact lt_big (by omega))))
   all_goals first | (exfalso;omega;done) | exact NextP.mk (i+1) hi (by omega) rfl
  obtain rfl:i=A.length:=by omega
  clear hi hi' hs2
  repeat' (first
 | (conv=>whnf)
   first
   | (refine Br.decF ?_ ?_;(focus first | assumption | omega))
   | refine Get.mk _ rfl ?_
   | (refine Req.mk ?_ ?_;(focus first | rfl | decide | exact ⟨rfl,rfl⟩ | exact ⟨rfl,by decide⟩ | exact (fun _=>rfl) | exact (fun h=>nomatch h) | (simp;done) | omega | (simp [big];done) | exact le_big (by omega) | exact lt_big (by omega))))
  all_goals try (exfalso;omega;done)
  refine LoopP.by (fun i:Nat=>i≤l.length∧∀ v∈l.take i,v.who≠m.who) (fun i=>[(18,.int .i64 (i:Nat))]) (fun _=>[.blk [.int .i64 n,.sl c l.length (vtC l),.int .i64 need] false,.blk [.str m.who,.int .i64 m.step,.bool true] false , .blk [.str va.who,.int .i64 va.step,.bool va.yes] false,.blk [.str vb.who,.int .i64 vb.step,.bool vb.yes] false,.blk (vtC L2) false]) (fun i=>l.length - i) 0 ⟨Nat.zero_le _,fun v hv=>by simp at hv⟩ rfl ?_
  rintro i ⟨hi', hw⟩
  dsimp only
  by_cases hi:i<l.length
  ·obtain ⟨v,hx⟩:∃ v,l[i]?=some v:=⟨_,List.getElem?_eq_getElem hi⟩
   have k1:=(vt_c hx).1
   have hil:i≤l.length - 1:=by omega
   have hl0:0<l.length:=by omega
   have hiw:IntKind.i64.wrap ((i:Int)+1)=((i+1:Nat):Int):=by rw [wrap_i64 (by omega) (by omega)];omega
   by_cases hvm:v.who=m.who
   ·have kb:(v.who == m.who)=true:=by simp [hvm]
    repeat' (first
 | (conv=>whnf)
   first
   | (refine Br.decT ?_ ?_;(focus first | assumption | omega))
   | refine Br.yes kb ?_
   | refine Get.mk _ k1 ?_
   | refine call_fun rfl rfl h4 (.inl rfl) ?_
   | (refine Idx.nat ?_ ?_;(focus omega))
   | refine Get.mk _ rfl ?_
   | refine Leaves.of ?_
   | refine Vw.bool ?_
   | (refine Req.mk ?_ ?_;(focus first | rfl | decide | exact ⟨rfl,rfl⟩ | exact ⟨rfl,by decide⟩ | exact (fun _=>rfl) | exact (fun h=>nomatch h) | (simp;done) | omega | (simp [big];done) | exact le_big (by omega) | exact lt_big (by omega))))
    all_goals first | rfl | (exfalso;omega;done) | (conv=>whnf)
   have hw' : ∀ z∈l.take (i+1),z.who≠m.who:=fun z hz=>by
    rw [List.take_add_one,hx] at hz
    rcases List.mem_append.1 hz with h | h
    ·exact hw z h
    ·simp at h;rw [h];exact hvm
   have kb:(v.who == m.who)=false:=by simp [hvm]
   repeat' (first
 | (conv=>whnf)
   first
   | refine Bnd.eq hiw ?_
   | (refine Br.decT ?_ ?_;(focus first | assumption | omega))
   | refine Br.no kb ?_
   | refine Get.mk _ k1 ?_
   | (refine Idx.nat ?_ ?_;(focus omega))
   | refine Get.mk _ rfl ?_
   | (refine Req.mk ?_ ?_;(focus first | rfl | decide | exact ⟨rfl,rfl⟩ | exact ⟨rfl,by decide⟩ | exact (fun _=>rfl) | exact (fun h=>nomatch h) | (simp;done) | omega | (simp [big];done) | exact le_big (by omega) | exact lt_big (by omega))))
   all_goals first | (exfalso;omega;done) | (exact absurd ‹_› hvm) | exact NextP.mk (i+1) ⟨hi,hw'⟩ (by omega) rfl | trace_state
  obtain rfl:i=l.length:=by omega
  rw [List.take_length] at hw
  have hlc:=vtC_length l
  have hm:∀ L,L=(l++[(⟨m.who,m.step,true⟩:Vt)]).length→FunF FB1 md 27 [.int .i64 n,.sl false L (vtC (l++[⟨m.who,m.step,true⟩])),.int .i64 need] (.tup [liV (votA n (l++[⟨m.who,m.step,true⟩]) need),.int .i64 (votE n (l++[⟨m.who,m.step,true⟩]) need)]):=fun L e=>by
   rw [e]
   exact voted_funF
  have hmo:=vot_more (m:=⟨m.who,m.step,true⟩) hw rfl he
  rw [hAg] at hmo
  have hvw:∀ {h:List B} {d:Nat} (l:List Vt),VwL h (d+1) (vtC l) (vtC l):=fun {h d} l=>by
   induction l with
   | nil=>exact VwL.nil
   | cons y l ih=>exact VwL.cons (Vw.str rfl) (VwL.cons (Vw.int rfl) (VwL.cons (Vw.bool rfl) ih))
  have hCl:(votA n (l++[⟨m.who,m.step,true⟩]) need).length≤20:=votA_len
  have hva:vtC (l++[⟨m.who,m.step,true⟩])=vtC l++[V.str m.who,V.int IntKind.i64 m.step,V.bool true]:=vtC_app _ _
  have hvl:(vtC l++[V.str m.who,V.int IntKind.i64 m.step,V.bool true]).length=(0+l.length+1) * 3:=by simp [hlc];omega
  have hvg:(vtC l++[V.str m.who,V.int IntKind.i64 m.step,V.bool true]).length=([]:List V).length+(vtC l).length+[V.str m.who,V.int IntKind.i64 m.step,V.bool true].length:=by simp
  have hvv:=fun {h:List B} {d:Nat}=>hvw (h:=h) (d:=d) (l++[⟨m.who,m.step,true⟩])
  rw [hva] at hvv
  have hreq:0+(0+l.length) * 3=([]:List V).length+(vtC l).length∧(([]++vtC l).length+[V.str m.who,V.int IntKind.i64 m.step,V.bool true].length) * (32+1)<big:=by
   refine ⟨by simp [hlc],?_⟩
   simp only [List.nil_append,List.length_cons,List.length_nil,hlc,big]
   have:=hv.2.2.1
   omega
  unfold liV at hm
  generalize votA n (l++[⟨m.who,m.step,true⟩]) need=C at *
  have hvL:(l++[(⟨m.who,m.step,true⟩:Vt)]).length=0+l.length+1:=by simp
  by_cases hz:votE n (l++[⟨m.who,m.step,true⟩]) need=0
  rotate_left
  ·rw [hva] at hm
   have hm:=hm _ hvL.symm
   generalize votE n (l++[⟨m.who,m.step,true⟩]) need=e at *
   repeat' (first
 | (conv=>whnf)
   first
   | (refine Br.decF ?_ ?_;(focus first | assumption | omega))
   | refine Br.not ?_
   | refine Req.mk hlc ?_
   | refine Req.mk hreq ?_
   | refine call_fresh rfl (VwL.cons (Vw.int rfl) (VwL.cons (Vw.ms rfl hvg (part_all hvl) hvv) (VwL.cons (Vw.int rfl) VwL.nil))).1 hm ?_
   | refine call_fun rfl rfl h4 (.inl rfl) ?_
   | (refine Ifz.pos ?_ ?_;(focus omega))
   | refine Get.mk _ rfl ?_
   | refine Leaves.of ?_
   | refine Vw.bool ?_
   | (refine Req.mk ?_ ?_;(focus first | rfl | decide | exact ⟨rfl,rfl⟩ | exact ⟨rfl,by decide⟩ | exact (fun _=>rfl) | exact (fun h=>nomatch h) | (simp;done) | omega | (simp [big];done) | exact le_big (by omega) | exact lt_big (by omega))))
   all_goals first | rfl | (exfalso;omega;done)
  obtain ⟨m1,m2⟩:=hmo hz
  rw [hz,hva] at hm
  have hm:=hm _ hvL.symm
  repeat' (first
 | (conv=>whnf)
   first
   | refine Br.f ?_
   | (refine Br.decF ?_ ?_;(focus first | assumption | omega))
   | refine Req.mk hlc ?_
   | refine Req.mk hreq ?_
   | refine call_fresh rfl (VwL.cons (Vw.int rfl) (VwL.cons (Vw.ms rfl hvg (part_all hvl) hvv) (VwL.cons (Vw.int rfl) VwL.nil))).1 hm ?_
   | (refine Ifz.pos ?_ ?_;(focus omega))
   | refine Get.mk _ rfl ?_
   | (refine Req.mk ?_ ?_;(focus first | rfl | decide | exact ⟨rfl,rfl⟩ | exact ⟨rfl,by decide⟩ | exact (fun _=>rfl) | exact (fun h=>nomatch h) | (simp;done) | omega | (simp [big];done) | exact le_big (by omega) | exact lt_big (by omega))))
  all_goals try (exfalso;omega;done)
  refine LoopP.by (fun i:Nat=>i≤A.length) (fun i=>[(20,.int .i64 (i:Nat))]) (fun _=>[.blk [.int .i64 n,.sl c l.length (vtC l),.int .i64 need] false,.blk [.str m.who,.int .i64 m.step,.bool true] false , .blk [.str va.who,.int .i64 va.step,.bool va.yes] false,.blk [.str vb.who,.int .i64 vb.step,.bool vb.yes] false,.blk (vtC L2) false,.blk (vtC l++[.str m.who,.int .i64 m.step,.bool true]) false,.unborn]) (fun i=>A.length - i) 0 (Nat.zero_le _) rfl ?_
  rintro i hi'
  dsimp only
  by_cases hi:i<A.length
  ·obtain ⟨x,hx⟩:∃ x,A[i]?=some x:=⟨_,List.getElem?_eq_getElem hi⟩
   have k1:=ints_at hx
   have k2:=(has_ok (c:=decide (C=[])) (A:=C) (x:=x) (by omega)).tab sub1
   rw [decide_eq_true (m1 x (List.mem_of_getElem? hx))] at k2
   have hiw:IntKind.i64.wrap ((i:Int)+1)=((i+1:Nat):Int):=by rw [wrap_i64 (by omega) (by omega)];omega
   repeat' (first
 | (conv=>whnf)
   first
   | refine Bnd.eq hiw ?_
   | refine Br.f ?_
   | (refine Br.decT ?_ ?_;(focus first | assumption | omega))
   | refine Get.mk _ k1 ?_
   | refine call_fun rfl rfl k2 (.inl rfl) ?_
   | (refine Idx.nat ?_ ?_;(focus omega))
   | (refine Req.mk ?_ ?_;(focus first | rfl | decide | exact ⟨rfl,rfl⟩ | exact ⟨rfl,by decide⟩ | exact (fun _=>rfl) | exact (fun h=>nomatch h) | (simp;done) | omega | (simp [big];done) | exact le_big (by omega) | exact lt_big (by omega))))
   all_goals first | (exfalso;omega;done) | exact NextP.mk (i+1) hi (by omega) rfl
  obtain rfl:i=A.length:=by omega
  clear hi hi'
  repeat' (first
 | (conv=>whnf)
   first
   | (refine Br.decF ?_ ?_;(focus first | assumption | omega)))
  all_goals try (exfalso;omega;done)
  refine LoopP.by (fun i:Nat=>i≤C.length) (fun i=>[(21,.int .i64 (i:Nat))]) (fun _=>[.blk [.int .i64 n,.sl c l.length (vtC l),.int .i64 need] false,.blk [.str m.who,.int .i64 m.step,.bool true] false , .blk [.str va.who,.int .i64 va.step,.bool va.yes] false,.blk [.str vb.who,.int .i64 vb.step,.bool vb.yes] false,.blk (vtC L2) false,.blk (vtC l++[.str m.who,.int .i64 m.step,.bool true]) false,.unborn]) (fun i=>C.length - i) 0 (Nat.zero_le _) rfl ?_
  rintro i hi'
  dsimp only
  by_cases hi:i<C.length
  ·obtain ⟨x,hx⟩:∃ x,C[i]?=some x:=⟨_,List.getElem?_eq_getElem hi⟩
   have k1:=ints_at hx
   have k2:=(has_ok (c:=decide (A=[])) (A:=A) (x:=x) (by omega)).tab sub1
   have hiw:IntKind.i64.wrap ((i:Int)+1)=((i+1:Nat):Int):=by rw [wrap_i64 (by omega) (by omega)];omega
   by_cases hxA:x∈A
   ·rw [decide_eq_true hxA] at k2
    repeat' (first
 | (conv=>whnf)
   first
   | refine Bnd.eq hiw ?_
   | refine Br.f ?_
   | (refine Br.decT ?_ ?_;(focus first | assumption | omega))
   | refine Get.mk _ k1 ?_
   | refine call_fun rfl rfl k2 (.inl rfl) ?_
   | (refine Idx.nat ?_ ?_;(focus omega))
   | (refine Req.mk ?_ ?_;(focus first | rfl | decide | exact ⟨rfl,rfl⟩ | exact ⟨rfl,by decide⟩ | exact (fun _=>rfl) | exact (fun h=>nomatch h) | (simp;done) | omega | (simp [big];done) | exact le_big (by omega) | exact lt_big (by omega))))
    all_goals first | (exfalso;omega;done) | exact NextP.mk (i+1) hi (by omega) rfl
   rw [decide_eq_false hxA] at k2
   have hxm:x=m.step:=(m2 x (List.mem_of_getElem? hx)).resolve_left hxA
   repeat' (first
 | (conv=>whnf)
   first
   | refine Bnd.eq hiw ?_
   | refine Br.t ?_
   | (refine Br.decT ?_ ?_;(focus first | assumption | omega))
   | refine Br.not ?_
   | refine Get.mk _ k1 ?_
   | refine call_fun rfl rfl k2 (.inl rfl) ?_
   | (refine Idx.nat ?_ ?_;(focus omega))
   | refine Get.mk _ rfl ?_
   | (refine Req.mk ?_ ?_;(focus first | rfl | decide | exact ⟨rfl,rfl⟩ | exact ⟨rfl,by decide⟩ | exact (fun _=>rfl) | exact (fun h=>nomatch h) | (simp;done) | omega | (simp [big];done) | exact le_big (by omega) | exact lt_big (by omega))))
   all_goals first | (exfalso;omega;done) | exact NextP.mk (i+1) hi (by omega) rfl
  obtain rfl:i=C.length:=by omega
  repeat' (first
 | (conv=>whnf)
   first
   | (refine Br.decF ?_ ?_;(focus first | assumption | omega))
   | refine call_fun rfl rfl h4 (.inl rfl) ?_
   | refine Get.mk _ rfl ?_
   | refine Leaves.of ?_
   | refine Vw.bool ?_)
  all_goals first | rfl | (exfalso;omega;done)
end Go.Dr.T
