/- Chapter 08: law RestoreGrain. -/
import Derived.Test.YthihdpbgmhnloaaGreatDoorG15
namespace Go.Dr.T
def grBy (s:Sp) (W i m:Nat):Int:=if keepB s i (m % W:Nat) (m / W:Nat)=true then 0 else grT s.a s.b i m - s.b
theorem grBy_rng {s:Sp} {W i m:Nat} (ha:0≤s.a∧s.a≤1000) (hb:0≤s.b∧s.b≤40) (hi:i<12) (hm:m<2304) : -s.b≤grBy s W i m∧grBy s W i m≤s.b:=by
 have:=grT_rng ha hb hi hm
 unfold grBy
 split <;> omega
theorem newU_grain {l:List Fm} {W H i m:Nat} {s:Sp} {f:Fm} (o:FOk l W H) (p:SOk s l.length W H) (h5:s.k=5) (hf:l[i]?=some f) (hm:m<f.p.length) (h1:s.b≤((f.p.getD m 0).toNat:Int)) (h2:((f.p.getD m 0).toNat:Int)≤255 - s.b):(((newU l W H s i m).toNat:Nat):Int)=((f.p.getD m 0).toNat:Int)+grBy s W i m:=by
 have hi:=(List.getElem?_eq_some_iff.1 hf).1
 have hn:=o.n12
 have hnn:=o.nn
 obtain ⟨_,_,hfp⟩:=o.all f (List.mem_of_getElem? hf)
 obtain ⟨ra,rb⟩:=p.k5 h5
 have hg:=grBy_rng (W:=W) (i:=i) (m:=m) ra rb (by omega) (by omega)
 have e:m / W * W+m % W=m:=Nat.div_add_mod' m W
 have hP:newP l W H s i (m % W) (m / W)=((f.p.getD m 0).toNat:Int)+grBy s W i m:=by
  unfold newP
  rw [e,pixI_eq hf]
  unfold grBy at *
  cases hK:keepB s i (m % W:Nat) (m / W:Nat) with
  | true=>rw [if_pos rfl,if_pos rfl];omega
  | false =>
   rw [if_neg (by decide),if_neg (by decide)]
   rw [hK,if_neg (by decide)] at hg
   unfold newK
   rw [if_neg (by omega),if_neg (by omega),if_neg (by omega),if_neg (by omega),if_pos h5]
   unfold lvZ
   omega
 unfold newU
 rw [u8_cell,hP]
 obtain ⟨k,hk⟩:∃ k:Nat,((f.p.getD m 0).toNat:Int)+grBy s W i m=(k:Int):=⟨(((f.p.getD m 0).toNat:Int)+grBy s W i m).toNat,by omega⟩
 rw [hk]
 exact wrap_u8 (by omega)
theorem Do_any {c:Bool} {l:List Fm} {s:Sp}:∃ (A:List V) (n:Bool) (k:Nat) (C:List V) (n' : Bool) (k' : Nat),Fun FB1 md 16 [.sl c l.length (fmC l),.agg (spV s)] (.tup [.sl n k A,.sl n' k' C,.int .i64 (doE l s)]):=by
 by_cases he:doE l s=0
 ·obtain ⟨W,H,o,p⟩:=doE_zero he
  have h1:=Do_ok (c:=c) o p he
  rw [he]
  exact ⟨_,_,_,_,_,_,tabF h1⟩
 ·exact ⟨_,_,_,_,_,_,tabF (Do_bad he)⟩
set_option maxRecDepth 100000 in
set_option maxHeartbeats 20000000 in
theorem law_grain {c d:Bool} {l l' : List Fm} {s:Sp}:Fun FB1 md 9 [.sl c l.length (fmC l),.sl d l'.length (fmC l'),.agg (spV s)] (.bool true):=by
 have k9:=awake
 obtain ⟨t,ht⟩:∃ t:Sp,t={ s with k:=5 }:=⟨_,rfl⟩
 have h5:t.k=5:=by rw [ht]
 have htv:spV t=[.int .i64 5,.int .i64 s.fr,.int .i64 s.un,.sl s.kc s.kp.length (bxC s.kp),.int .i64 s.a,.int .i64 s.b,.int .i64 s.c,.sl s.tc s.tb.length (ofBytes s.tb)]:=by rw [ht];rfl
 have htb:s.b=t.b:=by rw [ht]
 clear ht
 by_cases he:doE l t=0
 rotate_left
 ·have k1:=tabF (Do_bad (c:=c) he)
  obtain ⟨A,n,k,C,n', k', k2⟩:=Do_any (c:=d) (l:=l') (s:=t)
  rw [htv] at k1 k2
  generalize doE l t=e at *
  generalize doE l' t=e' at *
  refine fun_of rfl rfl ?_
  repeat' (first
 | (conv=>whnf)
   first
   | refine Br.t ?_
   | refine Br.f ?_
   | (refine Br.decT ?_ ?_;(focus first | assumption | omega))
   | (refine Br.decF ?_ ?_;(focus first | assumption | omega))
   | refine Br.dec (fun _ => ?_) (fun _ => ?_)
   | refine Br.not ?_
   | refine Br.and ?_
   | refine Br.or ?_
   | (refine Bnd.i64 ?_ ?_ ?_;(focus omega);(focus omega))
   | refine fLen.mk ?_
   | refine fB.i0 ?_
   | refine fB.mk ?_
   | refine call_fun rfl rfl k1 (.inl rfl) ?_
   | refine call_fun rfl rfl k2 (.inl rfl) ?_
   | refine call_fun rfl rfl k9 (.inl rfl) ?_
   | (refine Idx.nat ?_ ?_;(focus omega))
   | refine Idx.nat (le_big (by omega)) ?_
   | (refine Idx.int ?_ ?_ ?_;(focus omega);(focus omega))
   | (refine Idx.int ?_ ?_ ?_;(focus decide);(focus decide))
   | refine Ifz.zero ?_
   | (refine Ifz.pos ?_ ?_;(focus omega))
   | refine Get.mk _ rfl ?_
   | refine Leaves.of ?_
   | refine Ends.of ?_
   | refine Vw.bool ?_
   | refine Vw.int ?_
   | refine Vw.nil
   | refine Vw.sl
   | refine Vw.tup ?_
   | refine Vw.agg ?_
   | refine VwL.cons ?_ ?_
   | refine VwL.nil
   | refine LeavesF.of ?_
   | refine VwF.bool ?_
   | refine VwF.int ?_
   | refine VwF.nil
   | refine VwF.sl
   | refine VwF.tup ?_
   | refine VwF.agg ?_
   | refine VwLF.cons ?_ ?_
   | refine VwLF.nil
   | (refine Req.mk ?_ ?_;(focus first | rfl | decide | exact ⟨rfl,rfl⟩ | exact ⟨rfl,by decide⟩ | exact (fun _=>rfl) | exact (fun h=>nomatch h) | (simp;done) | omega | (simp [big];done) | exact le_big (by omega) | exact lt_big (by omega))))
  all_goals first | rfl | (exfalso;omega;done)
 by_cases he' : doE l' t=0
 rotate_left
 ·obtain ⟨W,H,o,p⟩:=doE_zero he
  have k1:=tabF (Do_ok (c:=c) o p he)
  have k2:=tabF (Do_bad (c:=d) he')
  rw [htv] at k1 k2
  generalize doE l' t=e' at *
  refine fun_of rfl rfl ?_
  repeat' (first
 | (conv=>whnf)
   first
   | refine Br.t ?_
   | refine Br.f ?_
   | (refine Br.decT ?_ ?_;(focus first | assumption | omega))
   | (refine Br.decF ?_ ?_;(focus first | assumption | omega))
   | refine Br.dec (fun _ => ?_) (fun _ => ?_)
   | refine Br.not ?_
   | refine Br.and ?_
   | refine Br.or ?_
   | (refine Bnd.i64 ?_ ?_ ?_;(focus omega);(focus omega))
   | refine fLen.mk ?_
   | refine fB.i0 ?_
   | refine fB.mk ?_
   | refine call_fun rfl rfl k1 (.inl rfl) ?_
   | refine call_fun rfl rfl k2 (.inl rfl) ?_
   | refine call_fun rfl rfl k9 (.inl rfl) ?_
   | (refine Idx.nat ?_ ?_;(focus omega))
   | refine Idx.nat (le_big (by omega)) ?_
   | (refine Idx.int ?_ ?_ ?_;(focus omega);(focus omega))
   | (refine Idx.int ?_ ?_ ?_;(focus decide);(focus decide))
   | refine Ifz.zero ?_
   | (refine Ifz.pos ?_ ?_;(focus omega))
   | refine Get.mk _ rfl ?_
   | refine Leaves.of ?_
   | refine Ends.of ?_
   | refine Vw.bool ?_
   | refine Vw.int ?_
   | refine Vw.nil
   | refine Vw.sl
   | refine Vw.tup ?_
   | refine Vw.agg ?_
   | refine VwL.cons ?_ ?_
   | refine VwL.nil
   | refine LeavesF.of ?_
   | refine VwF.bool ?_
   | refine VwF.int ?_
   | refine VwF.nil
   | refine VwF.sl
   | refine VwF.tup ?_
   | refine VwF.agg ?_
   | refine VwLF.cons ?_ ?_
   | refine VwLF.nil
   | (refine Req.mk ?_ ?_;(focus first | rfl | decide | exact ⟨rfl,rfl⟩ | exact ⟨rfl,by decide⟩ | exact (fun _=>rfl) | exact (fun h=>nomatch h) | (simp;done) | omega | (simp [big];done) | exact le_big (by omega) | exact lt_big (by omega))))
  all_goals first | rfl | (exfalso;omega;done)
 obtain ⟨W,H,o,p⟩:=doE_zero he
 obtain ⟨W', H', o', p'⟩:=doE_zero he'
 have k1:=tabF (Do_ok (c:=c) o p he)
 have k2:=tabF (Do_ok (c:=d) o' p' he')
 rw [htv] at k1 k2
 obtain ⟨ra,rb⟩:=p.k5 h5
 have hn0:=o.n0
 have hm0:=o'.n0
 have hn12:=o.n12
 have hnn:=o.nn
 obtain ⟨f0,hf0,hw0,hh0,_⟩:=o.at o.n0
 obtain ⟨g0,hg0,hw0', hh0', _⟩:=o'.at o'.n0
 obtain ⟨a0,a1,_⟩:=fm_c hf0
 obtain ⟨b0,b1,_⟩:=fm_c hg0
 rw [hw0] at a0
 rw [hh0] at a1
 rw [hw0'] at b0
 rw [hh0'] at b1
 by_cases hlen:l.length=l'.length
 rotate_left
 ·refine fun_of rfl rfl ?_
  repeat' (first
 | (conv=>whnf)
   first
   | refine Br.t ?_
   | refine Br.f ?_
   | (refine Br.decT ?_ ?_;(focus first | assumption | omega))
   | (refine Br.decF ?_ ?_;(focus first | assumption | omega))
   | refine Br.dec (fun _ => ?_) (fun _ => ?_)
   | refine Br.not ?_
   | refine Br.and ?_
   | refine Br.or ?_
   | (refine Bnd.i64 ?_ ?_ ?_;(focus omega);(focus omega))
   | refine fLen.mk ?_
   | refine fB.i0 ?_
   | refine fB.mk ?_
   | refine Get.mk _ a0 ?_
   | refine Get.mk _ a1 ?_
   | refine Get.mk _ b0 ?_
   | refine Get.mk _ b1 ?_
   | refine Req.mk hn0 ?_
   | refine Req.mk hm0 ?_
   | refine call_fun rfl rfl k1 (.inl rfl) ?_
   | refine call_fun rfl rfl k2 (.inl rfl) ?_
   | refine call_fun rfl rfl k9 (.inl rfl) ?_
   | (refine Idx.nat ?_ ?_;(focus omega))
   | refine Idx.nat (le_big (by omega)) ?_
   | (refine Idx.int ?_ ?_ ?_;(focus omega);(focus omega))
   | (refine Idx.int ?_ ?_ ?_;(focus decide);(focus decide))
   | refine Ifz.zero ?_
   | (refine Ifz.pos ?_ ?_;(focus omega))
   | refine Get.mk _ rfl ?_
   | refine Leaves.of ?_
   | refine Ends.of ?_
   | refine Vw.bool ?_
   | refine Vw.int ?_
   | refine Vw.nil
   | refine Vw.sl
   | refine Vw.tup ?_
   | refine Vw.agg ?_
   | refine VwL.cons ?_ ?_
   | refine VwL.nil
   | refine LeavesF.of ?_
   | refine VwF.bool ?_
   | refine VwF.int ?_
   | refine VwF.nil
   | refine VwF.sl
   | refine VwF.tup ?_
   | refine VwF.agg ?_
   | refine VwLF.cons ?_ ?_
   | refine VwLF.nil
   | (refine Req.mk ?_ ?_;(focus first | rfl | decide | exact ⟨rfl,rfl⟩ | exact ⟨rfl,by decide⟩ | exact (fun _=>rfl) | exact (fun h=>nomatch h) | (simp;done) | omega | (simp [big];done) | exact le_big (by omega) | exact lt_big (by omega))))
  all_goals first | rfl | (exfalso;omega;done)
 by_cases hWW:W=W'
 rotate_left
 ·refine fun_of rfl rfl ?_
  repeat' (first
 | (conv=>whnf)
   first
   | refine Br.t ?_
   | refine Br.f ?_
   | (refine Br.decT ?_ ?_;(focus first | assumption | omega))
   | (refine Br.decF ?_ ?_;(focus first | assumption | omega))
   | refine Br.dec (fun _ => ?_) (fun _ => ?_)
   | refine Br.not ?_
   | refine Br.and ?_
   | refine Br.or ?_
   | (refine Bnd.i64 ?_ ?_ ?_;(focus omega);(focus omega))
   | refine fLen.mk ?_
   | refine fB.i0 ?_
   | refine fB.mk ?_
   | refine Get.mk _ a0 ?_
   | refine Get.mk _ a1 ?_
   | refine Get.mk _ b0 ?_
   | refine Get.mk _ b1 ?_
   | refine Req.mk hn0 ?_
   | refine Req.mk hm0 ?_
   | refine call_fun rfl rfl k1 (.inl rfl) ?_
   | refine call_fun rfl rfl k2 (.inl rfl) ?_
   | refine call_fun rfl rfl k9 (.inl rfl) ?_
   | (refine Idx.nat ?_ ?_;(focus omega))
   | refine Idx.nat (le_big (by omega)) ?_
   | (refine Idx.int ?_ ?_ ?_;(focus omega);(focus omega))
   | (refine Idx.int ?_ ?_ ?_;(focus decide);(focus decide))
   | refine Ifz.zero ?_
   | (refine Ifz.pos ?_ ?_;(focus omega))
   | refine Get.mk _ rfl ?_
   | refine Leaves.of ?_
   | refine Ends.of ?_
   | refine Vw.bool ?_
   | refine Vw.int ?_
   | refine Vw.nil
   | refine Vw.sl
   | refine Vw.tup ?_
   | refine Vw.agg ?_
   | refine VwL.cons ?_ ?_
   | refine VwL.nil
   | refine LeavesF.of ?_
   | refine VwF.bool ?_
   | refine VwF.int ?_
   | refine VwF.nil
   | refine VwF.sl
   | refine VwF.tup ?_
   | refine VwF.agg ?_
   | refine VwLF.cons ?_ ?_
   | refine VwLF.nil
   | (refine Req.mk ?_ ?_;(focus first | rfl | decide | exact ⟨rfl,rfl⟩ | exact ⟨rfl,by decide⟩ | exact (fun _=>rfl) | exact (fun h=>nomatch h) | (simp;done) | omega | (simp [big];done) | exact le_big (by omega) | exact lt_big (by omega))))
  all_goals first | rfl | (exfalso;omega;done)
 by_cases hHH:H=H'
 rotate_left
 ·refine fun_of rfl rfl ?_
  repeat' (first
 | (conv=>whnf)
   first
   | refine Br.t ?_
   | refine Br.f ?_
   | (refine Br.decT ?_ ?_;(focus first | assumption | omega))
   | (refine Br.decF ?_ ?_;(focus first | assumption | omega))
   | refine Br.dec (fun _ => ?_) (fun _ => ?_)
   | refine Br.not ?_
   | refine Br.and ?_
   | refine Br.or ?_
   | (refine Bnd.i64 ?_ ?_ ?_;(focus omega);(focus omega))
   | refine fLen.mk ?_
   | refine fB.i0 ?_
   | refine fB.mk ?_
   | refine Get.mk _ a0 ?_
   | refine Get.mk _ a1 ?_
   | refine Get.mk _ b0 ?_
   | refine Get.mk _ b1 ?_
   | refine Req.mk hn0 ?_
   | refine Req.mk hm0 ?_
   | refine call_fun rfl rfl k1 (.inl rfl) ?_
   | refine call_fun rfl rfl k2 (.inl rfl) ?_
   | refine call_fun rfl rfl k9 (.inl rfl) ?_
   | (refine Idx.nat ?_ ?_;(focus omega))
   | refine Idx.nat (le_big (by omega)) ?_
   | (refine Idx.int ?_ ?_ ?_;(focus omega);(focus omega))
   | (refine Idx.int ?_ ?_ ?_;(focus decide);(focus decide))
   | refine Ifz.zero ?_
   | (refine Ifz.pos ?_ ?_;(focus omega))
   | refine Get.mk _ rfl ?_
   | refine Leaves.of ?_
   | refine Ends.of ?_
   | refine Vw.bool ?_
   | refine Vw.int ?_
   | refine Vw.nil
   | refine Vw.sl
   | refine Vw.tup ?_
   | refine Vw.agg ?_
   | refine VwL.cons ?_ ?_
   | refine VwL.nil
   | refine LeavesF.of ?_
   | refine VwF.bool ?_
   | refine VwF.int ?_
   | refine VwF.nil
   | refine VwF.sl
   | refine VwF.tup ?_
   | refine VwF.agg ?_
   | refine VwLF.cons ?_ ?_
   | refine VwLF.nil
   | (refine Req.mk ?_ ?_;(focus first | rfl | decide | exact ⟨rfl,rfl⟩ | exact ⟨rfl,by decide⟩ | exact (fun _=>rfl) | exact (fun h=>nomatch h) | (simp;done) | omega | (simp [big];done) | exact le_big (by omega) | exact lt_big (by omega))))
  all_goals first | rfl | (exfalso;omega;done)
 subst hWW hHH
 rw [← hlen] at k2 ⊢
 have hm0:=hn0
 refine fun_of rfl rfl ?_
 repeat' (first
 | (conv=>whnf)
   first
   | refine Br.t ?_
   | refine Br.f ?_
   | (refine Br.decT ?_ ?_;(focus first | assumption | omega))
   | (refine Br.decF ?_ ?_;(focus first | assumption | omega))
   | refine Br.dec (fun _ => ?_) (fun _ => ?_)
   | refine Br.not ?_
   | refine Br.and ?_
   | refine Br.or ?_
   | (refine Bnd.i64 ?_ ?_ ?_;(focus omega);(focus omega))
   | refine fLen.mk ?_
   | refine fB.i0 ?_
   | refine fB.mk ?_
   | refine Get.mk _ a0 ?_
   | refine Get.mk _ a1 ?_
   | refine Get.mk _ b0 ?_
   | refine Get.mk _ b1 ?_
   | refine Req.mk hn0 ?_
   | refine Req.mk hm0 ?_
   | refine call_fun rfl rfl k1 (.inl rfl) ?_
   | refine call_fun rfl rfl k2 (.inl rfl) ?_
   | refine call_fun rfl rfl k9 (.inl rfl) ?_
   | (refine Idx.nat ?_ ?_;(focus omega))
   | refine Idx.nat (le_big (by omega)) ?_
   | (refine Idx.int ?_ ?_ ?_;(focus omega);(focus omega))
   | (refine Idx.int ?_ ?_ ?_;(focus decide);(focus decide))
   | refine Ifz.zero ?_
   | (refine Ifz.pos ?_ ?_;(focus omega))
   | refine Get.mk _ rfl ?_
   | refine Leaves.of ?_
   | refine Ends.of ?_
   | refine Vw.bool ?_
   | refine Vw.int ?_
   | refine Vw.nil
   | refine Vw.sl
   | refine Vw.tup ?_
   | refine Vw.agg ?_
   | refine VwL.cons ?_ ?_
   | refine VwL.nil
   | refine LeavesF.of ?_
   | refine VwF.bool ?_
   | refine VwF.int ?_
   | refine VwF.nil
   | refine VwF.sl
   | refine VwF.tup ?_
   | refine VwF.agg ?_
   | refine VwLF.cons ?_ ?_
   | refine VwLF.nil
   | (refine Req.mk ?_ ?_;(focus first | rfl | decide | exact ⟨rfl,rfl⟩ | exact ⟨rfl,by decide⟩ | exact (fun _=>rfl) | exact (fun h=>nomatch h) | (simp;done) | omega | (simp [big];done) | exact le_big (by omega) | exact lt_big (by omega))))
 all_goals try (exfalso;omega;done)
 refine LoopP.by (fun i:Nat=>i≤l.length) (fun i=>[(13,.int .i64 (i:Nat))]) (fun _=>[.blk [.int .i64 5,.int .i64 s.fr,.int .i64 s.un,.sl s.kc s.kp.length (bxC s.kp),.int .i64 s.a,.int .i64 s.b,.int .i64 s.c,.sl s.tc s.tb.length (ofBytes s.tb)] false]) (fun i=>l.length - i) 0 (Nat.zero_le _) rfl ?_
 rintro i w1
 dsimp only at w1 ⊢
 by_cases hi:i<l.length
 rotate_left
 ·obtain rfl:i=l.length:=by omega
  repeat' (first
 | (conv=>whnf)
   first
   | refine Br.t ?_
   | refine Br.f ?_
   | (refine Br.decT ?_ ?_;(focus first | assumption | omega))
   | (refine Br.decF ?_ ?_;(focus first | assumption | omega))
   | refine Br.dec (fun _ => ?_) (fun _ => ?_)
   | refine Br.not ?_
   | refine Br.and ?_
   | refine Br.or ?_
   | (refine Bnd.i64 ?_ ?_ ?_;(focus omega);(focus omega))
   | refine fLen.mk ?_
   | refine fB.i0 ?_
   | refine fB.mk ?_
   | refine call_fun rfl rfl k9 (.inl rfl) ?_
   | (refine Idx.nat ?_ ?_;(focus omega))
   | refine Idx.nat (le_big (by omega)) ?_
   | (refine Idx.int ?_ ?_ ?_;(focus omega);(focus omega))
   | (refine Idx.int ?_ ?_ ?_;(focus decide);(focus decide))
   | refine Ifz.zero ?_
   | (refine Ifz.pos ?_ ?_;(focus omega))
   | refine Get.mk _ rfl ?_
   | refine Leaves.of ?_
   | refine Ends.of ?_
   | refine Vw.bool ?_
   | refine Vw.int ?_
   | refine Vw.nil
   | refine Vw.sl
   | refine Vw.tup ?_
   | refine Vw.agg ?_
   | refine VwL.cons ?_ ?_
   | refine VwL.nil
   | refine LeavesF.of ?_
   | refine VwF.bool ?_
   | refine VwF.int ?_
   | refine VwF.nil
   | refine VwF.sl
   | refine VwF.tup ?_
   | refine VwF.agg ?_
   | refine VwLF.cons ?_ ?_
   | refine VwLF.nil
   | (refine Req.mk ?_ ?_;(focus first | rfl | decide | exact ⟨rfl,rfl⟩ | exact ⟨rfl,by decide⟩ | exact (fun _=>rfl) | exact (fun h=>nomatch h) | (simp;done) | omega | (simp [big];done) | exact le_big (by omega) | exact lt_big (by omega))))
  all_goals first | rfl | (exfalso;omega;done)
 obtain ⟨f,hf,hfw,hfh,hfp⟩:=o.at hi
 obtain ⟨g,hg,hgw,hgh,hgp⟩:=o'.at (i:=i) (by omega)
 obtain ⟨_,_,a2⟩:=fm_c hf
 obtain ⟨_,_,b2⟩:=fm_c hg
 obtain ⟨_,_,c2⟩:=fm_c (doF_get (W:=W) (H:=H) (s:=t) hf)
 obtain ⟨_,_,d2⟩:=fm_c (doF_get (W:=W) (H:=H) (s:=t) hg)
 dsimp only at c2 d2
 rw [mixP_len (Nat.le_refl _)] at c2 d2
 rw [hgp] at b2 d2
 rw [hfp] at a2 c2
 have hiw:IntKind.i64.wrap ((i:Int)+1)=((i+1:Nat):Int):=by rw [wrap_i64 (by omega) (by omega)];omega
 have hil:i≤l.length - 1:=by omega
 repeat' (first
 | (conv=>whnf)
   first
   | refine Br.t ?_
   | refine Br.f ?_
   | (refine Br.decT ?_ ?_;(focus first | assumption | omega))
   | (refine Br.decF ?_ ?_;(focus first | assumption | omega))
   | refine Br.dec (fun _ => ?_) (fun _ => ?_)
   | refine Br.not ?_
   | refine Br.and ?_
   | refine Br.or ?_
   | (refine Bnd.i64 ?_ ?_ ?_;(focus omega);(focus omega))
   | refine fLen.mk ?_
   | refine fB.i0 ?_
   | refine fB.mk ?_
   | refine Get.mk _ a2 ?_
   | refine Get.mk _ b2 ?_
   | refine Get.mk _ c2 ?_
   | refine Get.mk _ d2 ?_
   | refine Idx.nat hil ?_
   | refine Req.mk hn0 ?_
   | (refine Idx.nat ?_ ?_;(focus omega))
   | refine Idx.nat (le_big (by omega)) ?_
   | (refine Idx.int ?_ ?_ ?_;(focus omega);(focus omega))
   | (refine Idx.int ?_ ?_ ?_;(focus decide);(focus decide))
   | refine Ifz.zero ?_
   | (refine Ifz.pos ?_ ?_;(focus omega))
   | refine Get.mk _ rfl ?_
   | refine Leaves.of ?_
   | refine Ends.of ?_
   | refine Vw.bool ?_
   | refine Vw.int ?_
   | refine Vw.nil
   | refine Vw.sl
   | refine Vw.tup ?_
   | refine Vw.agg ?_
   | refine VwL.cons ?_ ?_
   | refine VwL.nil
   | refine LeavesF.of ?_
   | refine VwF.bool ?_
   | refine VwF.int ?_
   | refine VwF.nil
   | refine VwF.sl
   | refine VwF.tup ?_
   | refine VwF.agg ?_
   | refine VwLF.cons ?_ ?_
   | refine VwLF.nil
   | (refine Req.mk ?_ ?_;(focus first | rfl | decide | exact ⟨rfl,rfl⟩ | exact ⟨rfl,by decide⟩ | exact (fun _=>rfl) | exact (fun h=>nomatch h) | (simp;done) | omega | (simp [big];done) | exact le_big (by omega) | exact lt_big (by omega))))
 all_goals try (exfalso;omega;done)
 refine LoopP.by (fun m:Nat=>m≤W * H) (fun m=>[(14,.int .i64 (m:Nat))]) (fun _=>[.blk [.int .i64 5,.int .i64 s.fr,.int .i64 s.un,.sl s.kc s.kp.length (bxC s.kp),.int .i64 s.a,.int .i64 s.b,.int .i64 s.c,.sl s.tc s.tb.length (ofBytes s.tb)] false]) (fun m=>W * H - m) 0 (Nat.zero_le _) rfl ?_
 rintro m v1
 dsimp only at v1 ⊢
 by_cases hm:m<W * H
 rotate_left
 ·obtain rfl:m=W * H:=by omega
  repeat' (first
 | (conv=>whnf)
   first
   | refine Bnd.eq hiw ?_
   | refine Br.t ?_
   | refine Br.f ?_
   | (refine Br.decT ?_ ?_;(focus first | assumption | omega))
   | (refine Br.decF ?_ ?_;(focus first | assumption | omega))
   | refine Br.dec (fun _ => ?_) (fun _ => ?_)
   | refine Br.not ?_
   | refine Br.and ?_
   | refine Br.or ?_
   | (refine Bnd.i64 ?_ ?_ ?_;(focus omega);(focus omega))
   | refine fLen.mk ?_
   | refine fB.i0 ?_
   | refine fB.mk ?_
   | refine Get.mk _ a2 ?_
   | refine Idx.nat hil ?_
   | refine Req.mk hn0 ?_
   | (refine Idx.nat ?_ ?_;(focus omega))
   | refine Idx.nat (le_big (by omega)) ?_
   | (refine Idx.int ?_ ?_ ?_;(focus omega);(focus omega))
   | (refine Idx.int ?_ ?_ ?_;(focus decide);(focus decide))
   | refine Ifz.zero ?_
   | (refine Ifz.pos ?_ ?_;(focus omega))
   | refine Get.mk _ rfl ?_
   | refine Leaves.of ?_
   | refine Ends.of ?_
   | refine Vw.bool ?_
   | refine Vw.int ?_
   | refine Vw.nil
   | refine Vw.sl
   | refine Vw.tup ?_
   | refine Vw.agg ?_
   | refine VwL.cons ?_ ?_
   | refine VwL.nil
   | refine LeavesF.of ?_
   | refine VwF.bool ?_
   | refine VwF.int ?_
   | refine VwF.nil
   | refine VwF.sl
   | refine VwF.tup ?_
   | refine VwF.agg ?_
   | refine VwLF.cons ?_ ?_
   | refine VwLF.nil
   | (refine Req.mk ?_ ?_;(focus first | rfl | decide | exact ⟨rfl,rfl⟩ | exact ⟨rfl,by decide⟩ | exact (fun _=>rfl) | exact (fun h=>nomatch h) | (simp;done) | omega | (simp [big];done) | exact le_big (by omega) | exact lt_big (by omega))))
  all_goals first | (exfalso;omega;done) | exact NextP.mk (i+1) hi (by omega) rfl
 have hmw:IntKind.i64.wrap ((m:Int)+1)=((m+1:Nat):Int):=by rw [wrap_i64 (by omega) (by omega)];omega
 have ha:=pix_cell (p:=f.p) (n:=m) (by omega)
 have hb:=pix_cell (p:=g.p) (n:=m) (by omega)
 have hc:=pix_cell (p:=mixP (newU l W H t i) f.p f.p.length) (n:=m) (by rw [mixP_len (Nat.le_refl _)];omega)
 have hd:=pix_cell (p:=mixP (newU l' W H t i) g.p g.p.length) (n:=m) (by rw [mixP_len (Nat.le_refl _)];omega)
 rw [mixP_get (by omega)] at hc hd
 rw [hfp] at hc
 rw [hgp] at hd
 have hml:m≤W * H - 1:=by omega
 have hp0:0<W * H:=by omega
 have hNf:=fun h1 h2=>newU_grain (m:=m) o p h5 hf (by omega) h1 h2
 have hNg:=fun h1 h2=>newU_grain (m:=m) o' p' h5 hg (by omega) h1 h2
 have hG:=grBy_rng (s:=t) (W:=W) (i:=i) (m:=m) ra rb (by omega) (by omega)
 have hpa:=UInt8.toNat_lt (f.p.getD m 0)
 have hpb:=UInt8.toNat_lt (g.p.getD m 0)
 have hNa:=UInt8.toNat_lt (newU l W H t i m)
 have hNb:=UInt8.toNat_lt (newU l' W H t i m)
 rw [← htb] at hNf hNg hG rb
 clear k1 k2 a0 a1 b0 b1
 generalize (f.p.getD m 0).toNat=P at *
 generalize (g.p.getD m 0).toNat=Q at *
 generalize (newU l W H t i m).toNat=A at *
 generalize (newU l' W H t i m).toNat=B at *
 generalize grBy t W i m=G at *
 by_cases h1:min (P:Int) (Q:Int)<s.b
 ·repeat' (first
 | (conv=>whnf)
   first
   | refine Br.decT h1 ?_
   | refine Bnd.eq hmw ?_
   | refine Br.t ?_
   | refine Br.f ?_
   | (refine Br.decT ?_ ?_;(focus first | assumption | omega))
   | (refine Br.decF ?_ ?_;(focus first | assumption | omega))
   | refine Br.dec (fun _ => ?_) (fun _ => ?_)
   | refine Br.not ?_
   | refine Br.and ?_
   | refine Br.or ?_
   | (refine Bnd.i64 ?_ ?_ ?_;(focus omega);(focus omega))
   | refine fLen.mk ?_
   | refine fB.i0 ?_
   | refine fB.mk ?_
   | refine Get.mk _ a2 ?_
   | refine Get.mk _ b2 ?_
   | refine Get.mk _ c2 ?_
   | refine Get.mk _ d2 ?_
   | refine Get.mk _ ha ?_
   | refine Get.mk _ hb ?_
   | refine Get.mk _ hc ?_
   | refine Get.mk _ hd ?_
   | refine Idx.nat hil ?_
   | refine Idx.nat hml ?_
   | refine Req.mk hn0 ?_
   | refine Req.mk hp0 ?_
   | refine Bnd.any ?_
   | (refine Idx.nat ?_ ?_;(focus omega))
   | refine Idx.nat (le_big (by omega)) ?_
   | (refine Idx.int ?_ ?_ ?_;(focus omega);(focus omega))
   | (refine Idx.int ?_ ?_ ?_;(focus decide);(focus decide))
   | refine Ifz.zero ?_
   | (refine Ifz.pos ?_ ?_;(focus omega))
   | refine Get.mk _ rfl ?_
   | refine Leaves.of ?_
   | refine Ends.of ?_
   | refine Vw.bool ?_
   | refine Vw.int ?_
   | refine Vw.nil
   | refine Vw.sl
   | refine Vw.tup ?_
   | refine Vw.agg ?_
   | refine VwL.cons ?_ ?_
   | refine VwL.nil
   | refine LeavesF.of ?_
   | refine VwF.bool ?_
   | refine VwF.int ?_
   | refine VwF.nil
   | refine VwF.sl
   | refine VwF.tup ?_
   | refine VwF.agg ?_
   | refine VwLF.cons ?_ ?_
   | refine VwLF.nil
   | (refine Req.mk ?_ ?_;(focus first | rfl | decide | exact ⟨rfl,rfl⟩ | exact ⟨rfl,by decide⟩ | exact (fun _=>rfl) | exact (fun h=>nomatch h) | (simp;done) | omega | (simp [big];done) | exact le_big (by omega) | exact lt_big (by omega))))
  all_goals first | (exfalso;omega;done) | exact NextP.mk (m+1) hm (by omega) rfl
 by_cases h2:255 - s.b<max (P:Int) (Q:Int)
 ·repeat' (first
 | (conv=>whnf)
   first
   | refine Br.decF h1 ?_
   | refine Br.decT h2 ?_
   | refine Bnd.eq hmw ?_
   | refine Br.t ?_
   | refine Br.f ?_
   | (refine Br.decT ?_ ?_;(focus first | assumption | omega))
   | (refine Br.decF ?_ ?_;(focus first | assumption | omega))
   | refine Br.dec (fun _ => ?_) (fun _ => ?_)
   | refine Br.not ?_
   | refine Br.and ?_
   | refine Br.or ?_
   | (refine Bnd.i64 ?_ ?_ ?_;(focus omega);(focus omega))
   | refine fLen.mk ?_
   | refine fB.i0 ?_
   | refine fB.mk ?_
   | refine Get.mk _ a2 ?_
   | refine Get.mk _ b2 ?_
   | refine Get.mk _ c2 ?_
   | refine Get.mk _ d2 ?_
   | refine Get.mk _ ha ?_
   | refine Get.mk _ hb ?_
   | refine Get.mk _ hc ?_
   | refine Get.mk _ hd ?_
   | refine Idx.nat hil ?_
   | refine Idx.nat hml ?_
   | refine Req.mk hn0 ?_
   | refine Req.mk hp0 ?_
   | refine Bnd.any ?_
   | (refine Idx.nat ?_ ?_;(focus omega))
   | refine Idx.nat (le_big (by omega)) ?_
   | (refine Idx.int ?_ ?_ ?_;(focus omega);(focus omega))
   | (refine Idx.int ?_ ?_ ?_;(focus decide);(focus decide))
   | refine Ifz.zero ?_
   | (refine Ifz.pos ?_ ?_;(focus omega))
   | refine Get.mk _ rfl ?_
   | refine Leaves.of ?_
   | refine Ends.of ?_
   | refine Vw.bool ?_
   | refine Vw.int ?_
   | refine Vw.nil
   | refine Vw.sl
   | refine Vw.tup ?_
   | refine Vw.agg ?_
   | refine VwL.cons ?_ ?_
   | refine VwL.nil
   | refine LeavesF.of ?_
   | refine VwF.bool ?_
   | refine VwF.int ?_
   | refine VwF.nil
   | refine VwF.sl
   | refine VwF.tup ?_
   | refine VwF.agg ?_
   | refine VwLF.cons ?_ ?_
   | refine VwLF.nil
   | (refine Req.mk ?_ ?_;(focus first | rfl | decide | exact ⟨rfl,rfl⟩ | exact ⟨rfl,by decide⟩ | exact (fun _=>rfl) | exact (fun h=>nomatch h) | (simp;done) | omega | (simp [big];done) | exact le_big (by omega) | exact lt_big (by omega))))
  all_goals first | (exfalso;omega;done) | exact NextP.mk (m+1) hm (by omega) rfl
 have hNf:=hNf (by omega) (by omega)
 have hNg:=hNg (by omega) (by omega)
 have w1:IntKind.i64.wrap ((A:Int) - P)=G:=by rw [wrap_i64 (by omega) (by omega)];omega
 have w2:IntKind.i64.wrap ((B:Int) - Q)=G:=by rw [wrap_i64 (by omega) (by omega)];omega
 have h3:¬ s.b<G:=by omega
 have h4:¬ G<0 - s.b:=by omega
 repeat' (first
 | (conv=>whnf)
   first
   | refine Br.decF h1 ?_
   | refine Br.decF h2 ?_
   | refine Br.decF h3 ?_
   | refine Br.decF h4 ?_
   | refine Bnd.eq hmw ?_
   | refine Bnd.eq w1 ?_
   | refine Bnd.eq w2 ?_
   | refine Br.t ?_
   | refine Br.f ?_
   | (refine Br.decT ?_ ?_;(focus first | assumption | omega))
   | (refine Br.decF ?_ ?_;(focus first | assumption | omega))
   | refine Br.dec (fun _ => ?_) (fun _ => ?_)
   | refine Br.not ?_
   | refine Br.and ?_
   | refine Br.or ?_
   | (refine Bnd.i64 ?_ ?_ ?_;(focus omega);(focus omega))
   | refine fLen.mk ?_
   | refine fB.i0 ?_
   | refine fB.mk ?_
   | refine Get.mk _ a2 ?_
   | refine Get.mk _ b2 ?_
   | refine Get.mk _ c2 ?_
   | refine Get.mk _ d2 ?_
   | refine Get.mk _ ha ?_
   | refine Get.mk _ hb ?_
   | refine Get.mk _ hc ?_
   | refine Get.mk _ hd ?_
   | refine Idx.nat hil ?_
   | refine Idx.nat hml ?_
   | refine Req.mk hn0 ?_
   | refine Req.mk hp0 ?_
   | refine Bnd.any ?_
   | (refine Idx.nat ?_ ?_;(focus omega))
   | refine Idx.nat (le_big (by omega)) ?_
   | (refine Idx.int ?_ ?_ ?_;(focus omega);(focus omega))
   | (refine Idx.int ?_ ?_ ?_;(focus decide);(focus decide))
   | refine Ifz.zero ?_
   | (refine Ifz.pos ?_ ?_;(focus omega))
   | refine Get.mk _ rfl ?_
   | refine Leaves.of ?_
   | refine Ends.of ?_
   | refine Vw.bool ?_
   | refine Vw.int ?_
   | refine Vw.nil
   | refine Vw.sl
   | refine Vw.tup ?_
   | refine Vw.agg ?_
   | refine VwL.cons ?_ ?_
   | refine VwL.nil
   | refine LeavesF.of ?_
   | refine VwF.bool ?_
   | refine VwF.int ?_
   | refine VwF.nil
   | refine VwF.sl
   | refine VwF.tup ?_
   | refine VwF.agg ?_
   | refine VwLF.cons ?_ ?_
   | refine VwLF.nil
   | (refine Req.mk ?_ ?_;(focus first | rfl | decide | exact ⟨rfl,rfl⟩ | exact ⟨rfl,by decide⟩ | exact (fun _=>rfl) | exact (fun h=>nomatch h) | (simp;done) | omega | (simp [big];done) | exact le_big (by omega) | exact lt_big (by omega))))
 all_goals first | (exfalso;omega;done) | exact NextP.mk (m+1) hm (by omega) rfl
end Go.Dr.T
