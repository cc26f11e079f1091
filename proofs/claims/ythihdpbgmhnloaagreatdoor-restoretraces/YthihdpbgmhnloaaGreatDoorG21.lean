/- Chapter 08: the reference's error of a step. -/
import Derived.Test.YthihdpbgmhnloaaGreatDoorG20
import Derived.Test.YthihdpbgmhnloaaGreatDoorG6
import Derived.Test.YthihdpbgmhnloaaGreatDoorG12
namespace Go.Dr.T
theorem spE_ref {n:Nat} {w h:Int} {s:Sp} (hk:outB s.k 1 6=false):spE n w h s=if outB s.fr 0 ((n:Int) - 1)=true∨outB s.un s.fr ((n:Int) - 1)=true then 7 else if 6<s.kp.length then 3 else if s.kp.any (bxBad w h)=true then 7 else if oddS w s=true then 7 else if (s.tb.length:Int)≠(if s.k=2 then 256 else 0) then 2 else 0:=by
 unfold spE
 rw [if_neg (by rw [hk];decide)]
 have e:(outB s.un 0 ((n:Int) - 1)=true∨outB s.fr 0 s.un=true) ↔ (outB s.fr 0 ((n:Int) - 1)=true∨outB s.un s.fr ((n:Int) - 1)=true):=by
  simp only [outB,Bool.or_eq_true,decide_eq_true_eq]
  omega
 simp only [e]
 by_cases h1:s.kp.any (bxBad w h)=true
 ·simp only [h1,true_or,if_true]
 ·have h2:s.kp.any (bxBad w h)=false:=by cases q:s.kp.any (bxBad w h) <;> simp_all
  rw [h2]
  simp only [Bool.false_eq_true,false_or,if_false]
set_option maxRecDepth 100000 in
set_option maxHeartbeats 20000000 in
theorem stepR_ok {c:Bool} {l:List Fm} {f:Fm} {s:Sp} (hf:l[0]?=some f) (hl:l.length≤12) (hw:1≤f.w∧f.w≤48) (hh:1≤f.h∧f.h≤48):Fun FB md 45 [.sl c l.length (fmC l),.agg (spV s)] (.int .i64 (spE l.length f.w f.h s)):=by
 have hl0:0<l.length:=by
  cases l with
  | nil=>cases hf
  | cons x l=>exact Nat.succ_pos _
 have k1:=in_ok (n:=s.k) (lo:=1) (hi:=6)
 cases e1:outB s.k 1 6 <;> rw [e1] at k1
 rotate_left
 ·have hE:spE l.length f.w f.h s=2:=by unfold spE;rw [if_pos e1]
  rw [hE]
  refine fun_of rfl rfl ?_
  repeat' (first
 | (conv=>whnf)
   first
   | refine Br.t ?_
   | refine call_fun rfl rfl k1 (.inl rfl) ?_
   | refine Get.mk _ rfl ?_
   | refine Leaves.of ?_
   | refine Vw.int ?_
   | (refine Req.mk ?_ ?_;(focus first | rfl | decide | exact ⟨rfl,rfl⟩ | exact ⟨rfl,by decide⟩ | exact (fun _=>rfl) | exact (fun h=>nomatch h) | (simp;done) | omega | (simp [big];done) | exact le_big (by omega) | exact lt_big (by omega))))
  all_goals first | rfl | (exfalso;omega;done)
 rw [spE_ref e1]
 have hks:1≤s.k∧s.k≤6:=by simp only [outB,Bool.or_eq_false_iff,decide_eq_false_iff_not] at e1;omega
 have hnum:=numbers_ok (h:=f.h) (c:=f.c) (n:=f.p.length) (px:=ofBytes f.p) hw hks
 have hp:=fmC_part hf
 obtain ⟨k,fr,un,kc,kp,a,b,cc,tc,tb⟩:=s
 dsimp only at *
 have k2:=in_ok (n:=fr) (lo:=0) (hi:=(l.length:Int) - 1)
 have k3:=in_ok (n:=un) (lo:=fr) (hi:=(l.length:Int) - 1)
 have hlw:IntKind.i64.wrap ((l.length:Int) - 1)=(l.length:Int) - 1:=wrap_i64 (by omega) (by omega)
 show Fun FB md 45 [.sl c l.length (fmC l),.agg [.int .i64 k,.int .i64 fr,.int .i64 un,.sl kc kp.length (bxC kp),.int .i64 a,.int .i64 b,.int .i64 cc,.sl tc tb.length (ofBytes tb)]] _
 generalize outB fr 0 ((l.length:Int) - 1)=y1 at *
 generalize outB un fr ((l.length:Int) - 1)=y2 at *
 cases y1
 rotate_left
 ·rw [if_pos (.inl rfl)]
  refine fun_of rfl rfl ?_
  repeat' (first
 | (conv=>whnf)
   first
   | refine Bnd.eq hlw ?_
   | refine Br.t ?_
   | refine Br.f ?_
   | refine call_fun rfl rfl k1 (.inl rfl) ?_
   | refine call_fun rfl rfl k2 (.inl rfl) ?_
   | refine Get.mk _ rfl ?_
   | refine Leaves.of ?_
   | refine Vw.int ?_
   | (refine Req.mk ?_ ?_;(focus first | rfl | decide | exact ⟨rfl,rfl⟩ | exact ⟨rfl,by decide⟩ | exact (fun _=>rfl) | exact (fun h=>nomatch h) | (simp;done) | omega | (simp [big];done) | exact le_big (by omega) | exact lt_big (by omega))))
  all_goals first | rfl | (exfalso;omega;done)
 cases y2
 rotate_left
 ·rw [if_pos (.inr rfl)]
  refine fun_of rfl rfl ?_
  repeat' (first
 | (conv=>whnf)
   first
   | refine Bnd.eq hlw ?_
   | refine Br.t ?_
   | refine Br.f ?_
   | refine call_fun rfl rfl k1 (.inl rfl) ?_
   | refine call_fun rfl rfl k2 (.inl rfl) ?_
   | refine call_fun rfl rfl k3 (.inl rfl) ?_
   | refine Get.mk _ rfl ?_
   | refine Leaves.of ?_
   | refine Vw.int ?_
   | (refine Req.mk ?_ ?_;(focus first | rfl | decide | exact ⟨rfl,rfl⟩ | exact ⟨rfl,by decide⟩ | exact (fun _=>rfl) | exact (fun h=>nomatch h) | (simp;done) | omega | (simp [big];done) | exact le_big (by omega) | exact lt_big (by omega))))
  all_goals first | rfl | (exfalso;omega;done)
 rw [if_neg (by decide)]
 by_cases h6:6<kp.length
 ·rw [if_pos h6]
  refine fun_of rfl rfl ?_
  repeat' (first
 | (conv=>whnf)
   first
   | refine Bnd.eq hlw ?_
   | refine Br.f ?_
   | (refine Br.decT ?_ ?_;(focus first | assumption | omega))
   | refine call_fun rfl rfl k1 (.inl rfl) ?_
   | refine call_fun rfl rfl k2 (.inl rfl) ?_
   | refine call_fun rfl rfl k3 (.inl rfl) ?_
   | refine Get.mk _ rfl ?_
   | refine Leaves.of ?_
   | refine Vw.int ?_
   | (refine Req.mk ?_ ?_;(focus first | rfl | decide | exact ⟨rfl,rfl⟩ | exact ⟨rfl,by decide⟩ | exact (fun _=>rfl) | exact (fun h=>nomatch h) | (simp;done) | omega | (simp [big];done) | exact le_big (by omega) | exact lt_big (by omega))))
  all_goals first | rfl | (exfalso;omega;done)
 rw [if_neg h6]
 refine fun_of rfl rfl ?_
 repeat' (first
 | (conv=>whnf)
   first
   | refine Bnd.eq hlw ?_
   | refine Br.f ?_
   | (refine Br.decF ?_ ?_;(focus first | assumption | omega))
   | refine call_fun rfl rfl k1 (.inl rfl) ?_
   | refine call_fun rfl rfl k2 (.inl rfl) ?_
   | refine call_fun rfl rfl k3 (.inl rfl) ?_
   | refine Get.mk _ rfl ?_
   | (refine Req.mk ?_ ?_;(focus first | rfl | decide | exact ⟨rfl,rfl⟩ | exact ⟨rfl,by decide⟩ | exact (fun _=>rfl) | exact (fun h=>nomatch h) | (simp;done) | omega | (simp [big];done) | exact le_big (by omega) | exact lt_big (by omega))))
 all_goals try (exfalso;omega;done)
 refine LoopP.by (fun i:Nat=>i≤kp.length∧∀ j x,j<i→kp[j]?=some x→bxBad f.w f.h x=false) (fun i=>[(5,.int .i64 (i:Nat))]) (fun i=>[.blk [.int .i64 k,.int .i64 fr,.int .i64 un,.sl kc kp.length (bxC kp),.int .i64 a,.int .i64 b,.int .i64 cc,.sl tc tb.length (ofBytes tb)] false]) (fun i=>kp.length - i) 0 ⟨Nat.zero_le _,fun j v h=>absurd h (Nat.not_lt_zero _)⟩ rfl ?_
 rintro i ⟨w1,w2⟩
 dsimp only
 by_cases hi:i<kp.length
 ·obtain ⟨x,hx⟩:∃ x,kp[i]?=some x:=⟨_,List.getElem?_eq_getElem hi⟩
  have hbp:=bxC_part hx
  have hiw:IntKind.i64.wrap ((i:Int)+1)=((i+1:Nat):Int):=by rw [wrap_i64 (by omega) (by omega)];omega
  have hil:i≤kp.length - 1:=by omega
  have h0l:0<kp.length:=by omega
  have kb:=box_ok (x:=x) (c:=f.c) (n:=f.p.length) (px:=ofBytes f.p) hw hh
  have hnx:bxBad f.w f.h x=false→∀ j u,j<i+1→kp[j]?=some u→bxBad f.w f.h u=false:=fun q j u hj hu=>by
   by_cases e:j=i
   ·subst e;rw [hx] at hu;cases hu;exact q
   ·exact w2 j u (by omega) hu
  cases e2:bxBad f.w f.h x <;> rw [e2] at kb
  ·have hnx:=hnx e2
   repeat' (first
 | (conv=>whnf)
   first
   | refine Bnd.eq hiw ?_
   | refine Br.f ?_
   | (refine Br.decT ?_ ?_;(focus first | assumption | omega))
   | refine Get.mk _ hp ?_
   | refine Req.mk hl0 ?_
   | refine Get.mk _ hbp ?_
   | refine call_fun rfl rfl kb (.inl rfl) ?_
   | refine Idx.nat hil ?_
   | refine Req.mk h0l ?_
   | (refine Idx.int ?_ ?_ ?_;(focus omega);(focus omega))
   | refine Get.mk _ rfl ?_
   | (refine Req.mk ?_ ?_;(focus first | rfl | decide | exact ⟨rfl,rfl⟩ | exact ⟨rfl,by decide⟩ | exact (fun _=>rfl) | exact (fun h=>nomatch h) | (simp;done) | omega | (simp [big];done) | exact le_big (by omega) | exact lt_big (by omega))))
   all_goals first | (exfalso;omega;done) | exact NextP.mk (i+1) ⟨hi,hnx⟩ (by omega) rfl
  ·rw [if_pos (List.any_eq_true.2 ⟨x,List.mem_of_getElem? hx,e2⟩)]
   repeat' (first
 | (conv=>whnf)
   first
   | refine Br.t ?_
   | (refine Br.decT ?_ ?_;(focus first | assumption | omega))
   | refine Get.mk _ hp ?_
   | refine Req.mk hl0 ?_
   | refine Get.mk _ hbp ?_
   | refine call_fun rfl rfl kb (.inl rfl) ?_
   | refine Idx.nat hil ?_
   | refine Req.mk h0l ?_
   | (refine Idx.int ?_ ?_ ?_;(focus omega);(focus omega))
   | refine Get.mk _ rfl ?_
   | refine Leaves.of ?_
   | refine Vw.int ?_
   | (refine Req.mk ?_ ?_;(focus first | rfl | decide | exact ⟨rfl,rfl⟩ | exact ⟨rfl,by decide⟩ | exact (fun _=>rfl) | exact (fun h=>nomatch h) | (simp;done) | omega | (simp [big];done) | exact le_big (by omega) | exact lt_big (by omega))))
   all_goals first | rfl | (exfalso;omega;done)
 obtain rfl:i=kp.length:=by omega
 have hany:kp.any (bxBad f.w f.h)=false:=by
  rw [Bool.eq_false_iff]
  intro q
  obtain ⟨x,hx,hb⟩:=List.any_eq_true.1 q
  obtain ⟨j,hj⟩:=List.getElem?_of_mem hx
  rw [w2 j x (List.getElem?_eq_some_iff.1 hj).1 hj] at hb
  cases hb
 rw [hany,if_neg (by decide)]
 have hnum' : Fun FB md 89 [.agg [.int .i64 f.w,.int .i64 f.h,.sl f.c f.p.length (ofBytes f.p)],.agg [.int .i64 k,.int .i64 fr,.int .i64 un,.sl kc kp.length (bxC kp),.int .i64 a,.int .i64 b,.int .i64 cc,.sl tc tb.length (ofBytes tb)]] (.bool (!oddS f.w ⟨k,fr,un,kc,kp,a,b,cc,tc,tb⟩)):=hnum
 clear hnum
 cases e4:oddS f.w ⟨k,fr,un,kc,kp,a,b,cc,tc,tb⟩ <;> rw [e4] at hnum'
 rotate_left
 ·rw [if_pos rfl]
  repeat' (first
 | (conv=>whnf)
   first
   | refine Br.t ?_
   | (refine Br.decF ?_ ?_;(focus first | assumption | omega))
   | refine Get.mk _ hp ?_
   | refine Req.mk hl0 ?_
   | refine call_fun rfl rfl hnum' (.inl rfl) ?_
   | (refine Idx.int ?_ ?_ ?_;(focus omega);(focus omega))
   | refine Get.mk _ rfl ?_
   | refine Leaves.of ?_
   | refine Vw.int ?_
   | (refine Req.mk ?_ ?_;(focus first | rfl | decide | exact ⟨rfl,rfl⟩ | exact ⟨rfl,by decide⟩ | exact (fun _=>rfl) | exact (fun h=>nomatch h) | (simp;done) | omega | (simp [big];done) | exact le_big (by omega) | exact lt_big (by omega))))
  all_goals first | rfl | (exfalso;omega;done)
 rw [if_neg (by decide)]
 by_cases hk2:k=2
 ·rw [if_pos hk2]
  by_cases ht:(tb.length:Int)=256
  ·rw [if_neg (fun q=>q ht)]
   repeat' (first
 | (conv=>whnf)
   first
   | refine Br.f ?_
   | (refine Br.decT ?_ ?_;(focus first | assumption | omega))
   | (refine Br.decF ?_ ?_;(focus first | assumption | omega))
   | refine Br.not ?_
   | refine Get.mk _ hp ?_
   | refine Req.mk hl0 ?_
   | refine call_fun rfl rfl hnum' (.inl rfl) ?_
   | (refine Idx.int ?_ ?_ ?_;(focus omega);(focus omega))
   | refine Get.mk _ rfl ?_
   | refine Leaves.of ?_
   | refine Vw.int ?_
   | (refine Req.mk ?_ ?_;(focus first | rfl | decide | exact ⟨rfl,rfl⟩ | exact ⟨rfl,by decide⟩ | exact (fun _=>rfl) | exact (fun h=>nomatch h) | (simp;done) | omega | (simp [big];done) | exact le_big (by omega) | exact lt_big (by omega))))
   all_goals first | rfl | (exfalso;omega;done)
  ·rw [if_pos ht]
   repeat' (first
 | (conv=>whnf)
   first
   | refine Br.t ?_
   | refine Br.f ?_
   | (refine Br.decT ?_ ?_;(focus first | assumption | omega))
   | (refine Br.decF ?_ ?_;(focus first | assumption | omega))
   | refine Br.not ?_
   | refine Get.mk _ hp ?_
   | refine Req.mk hl0 ?_
   | refine call_fun rfl rfl hnum' (.inl rfl) ?_
   | (refine Idx.int ?_ ?_ ?_;(focus omega);(focus omega))
   | refine Get.mk _ rfl ?_
   | refine Leaves.of ?_
   | refine Vw.int ?_
   | (refine Req.mk ?_ ?_;(focus first | rfl | decide | exact ⟨rfl,rfl⟩ | exact ⟨rfl,by decide⟩ | exact (fun _=>rfl) | exact (fun h=>nomatch h) | (simp;done) | omega | (simp [big];done) | exact le_big (by omega) | exact lt_big (by omega))))
   all_goals first | rfl | (exfalso;omega;done)
 ·rw [if_neg hk2]
  by_cases ht:(tb.length:Int)=0
  ·rw [if_neg (fun q=>q ht)]
   repeat' (first
 | (conv=>whnf)
   first
   | refine Br.f ?_
   | (refine Br.decF ?_ ?_;(focus first | assumption | omega))
   | refine Br.not ?_
   | refine Get.mk _ hp ?_
   | refine Req.mk hl0 ?_
   | refine call_fun rfl rfl hnum' (.inl rfl) ?_
   | (refine Idx.int ?_ ?_ ?_;(focus omega);(focus omega))
   | refine Get.mk _ rfl ?_
   | refine Leaves.of ?_
   | refine Vw.int ?_
   | (refine Req.mk ?_ ?_;(focus first | rfl | decide | exact ⟨rfl,rfl⟩ | exact ⟨rfl,by decide⟩ | exact (fun _=>rfl) | exact (fun h=>nomatch h) | (simp;done) | omega | (simp [big];done) | exact le_big (by omega) | exact lt_big (by omega))))
   all_goals first | rfl | (exfalso;omega;done)
  ·rw [if_pos ht]
   repeat' (first
 | (conv=>whnf)
   first
   | refine Br.f ?_
   | (refine Br.decT ?_ ?_;(focus first | assumption | omega))
   | (refine Br.decF ?_ ?_;(focus first | assumption | omega))
   | refine Br.not ?_
   | refine Get.mk _ hp ?_
   | refine Req.mk hl0 ?_
   | refine call_fun rfl rfl hnum' (.inl rfl) ?_
   | (refine Idx.int ?_ ?_ ?_;(focus omega);(focus omega))
   | refine Get.mk _ rfl ?_
   | refine Leaves.of ?_
   | refine Vw.int ?_
   | (refine Req.mk ?_ ?_;(focus first | rfl | decide | exact ⟨rfl,rfl⟩ | exact ⟨rfl,by decide⟩ | exact (fun _=>rfl) | exact (fun h=>nomatch h) | (simp;done) | omega | (simp [big];done) | exact le_big (by omega) | exact lt_big (by omega))))
   all_goals first | rfl | (exfalso;omega;done)
end Go.Dr.T
namespace Go.Dr.T
theorem validR_ok {c:Bool} {l:List Fm}:Fun FB md 44 [.sl c l.length (fmC l)] (.int .i64 (flE l).2):=by
 have k1:=checkR_ok (c:=c) (l:=l)
 refine fun_of rfl rfl ?_
 repeat' (first
 | (conv=>whnf)
   first
   | refine call_fun rfl rfl k1 (.inl rfl) ?_
   | refine Get.mk _ rfl ?_
   | refine Leaves.of ?_
   | refine Vw.int ?_)
 all_goals first | rfl | (exfalso;omega;done)
set_option maxRecDepth 100000 in
set_option maxHeartbeats 20000000 in
theorem cstepsR_ok {c d:Bool} {l:List Fm} {ss:List Sp}:Fun FB md 48 [.sl c l.length (fmC l),.sl d ss.length (spC ss)] (.tup [.int .i64 (csE l ss).1,.int .i64 (csE l ss).2]):=by
 have k1:=validR_ok (c:=c) (l:=l)
 by_cases hE:(flE l).2=0
 rotate_left
 ·unfold csE
  rw [if_pos hE]
  generalize flE l=z at *
  obtain ⟨z1,z2⟩:=z
  dsimp only at *
  refine fun_of rfl rfl ?_
  repeat' (first
 | (conv=>whnf)
   first
   | refine Br.f ?_
   | (refine Br.decF ?_ ?_;(focus first | assumption | omega))
   | refine Br.not ?_
   | refine call_fun rfl rfl k1 (.inl rfl) ?_
   | refine Get.mk _ rfl ?_
   | refine Leaves.of ?_
   | refine Vw.int ?_
   | refine Vw.tup ?_
   | refine VwL.cons ?_ ?_
   | refine VwL.nil)
  all_goals first | rfl | (exfalso;omega;done)
 obtain ⟨f,hf,hl,hall⟩:=flE_zero hE
 obtain ⟨hw,hh,_⟩:=fmE_zero (hall f (List.mem_of_getElem? hf))
 unfold csE
 rw [if_neg (fun q=>q hE)]
 rw [hE] at k1
 generalize (flE l).1=z1 at *
 by_cases h2:20<ss.length
 ·rw [if_pos h2]
  refine fun_of rfl rfl ?_
  repeat' (first
 | (conv=>whnf)
   first
   | refine Br.t ?_
   | (refine Br.decT ?_ ?_;(focus first | assumption | omega))
   | refine call_fun rfl rfl k1 (.inl rfl) ?_
   | refine Get.mk _ rfl ?_
   | refine Leaves.of ?_
   | refine Vw.int ?_
   | refine Vw.tup ?_
   | refine VwL.cons ?_ ?_
   | refine VwL.nil)
  all_goals first | rfl | (exfalso;omega;done)
 rw [if_neg h2]
 rw [csG_eq hf]
 refine fun_of rfl rfl ?_
 repeat' (first
 | (conv=>whnf)
   first
   | refine Br.t ?_
   | refine Br.f ?_
   | (refine Br.decF ?_ ?_;(focus first | assumption | omega))
   | refine call_fun rfl rfl k1 (.inl rfl) ?_)
 all_goals try (exfalso;omega;done)
 refine LoopP.by (fun i:Nat=>i≤ss.length∧∀ j s,j<i→ss[j]?=some s→spE l.length f.w f.h s=0) (fun i=>[(7,.int .i64 (i:Nat))]) (fun i=>[]) (fun i=>ss.length - i) 0 ⟨Nat.zero_le _,fun j v h=>absurd h (Nat.not_lt_zero _)⟩ rfl ?_
 rintro i ⟨w1,w2⟩
 dsimp only
 by_cases hi:i<ss.length
 ·obtain ⟨s,hs⟩:∃ s,ss[i]?=some s:=⟨_,List.getElem?_eq_getElem hi⟩
  have hp:=spC_part hs
  have k3:=stepR_ok (c:=c) (s:=s) hf hl hw hh
  have hiw:IntKind.i64.wrap ((i:Int)+1)=((i+1:Nat):Int):=by rw [wrap_i64 (by omega) (by omega)];omega
  have hil:i≤ss.length - 1:=by omega
  have h0l:0<ss.length:=by omega
  have hlc:i * 8+8≤(spC ss).length:=by rw [spC_length];omega
  have hnx:spE l.length f.w f.h s=0→∀ j u,j<i+1→ss[j]?=some u→spE l.length f.w f.h u=0:=fun q j u hj hu=>by
   by_cases e:j=i
   ·subst e;rw [hs] at hu;cases hu;exact q
   ·exact w2 j u (by omega) hu
  have hat:spE l.length f.w f.h s≠0→csF l.length f.w f.h ss 0=((i:Int),spE l.length f.w f.h s):=fun q=>by
   obtain ⟨hi', hg⟩:=List.getElem?_eq_some_iff.1 hs
   rw [csF_drop w2,List.drop_eq_getElem_cons hi', hg,csF,if_pos q,Nat.zero_add]
  generalize spE l.length f.w f.h s=e at *
  by_cases he:e=0
  ·have hny:=hnx he
   subst he
   repeat' (first
 | (conv=>whnf)
   first
   | refine Bnd.eq hiw ?_
   | refine Br.f ?_
   | (refine Br.decT ?_ ?_;(focus first | assumption | omega))
   | refine Get.mk _ hp ?_
   | refine Idx.nat hil ?_
   | refine Req.mk h0l ?_
   | refine call_fun rfl rfl k3 (.inl rfl) ?_)
   all_goals first | (exfalso;omega;done) | exact NextP.mk (i+1) ⟨hi,hny⟩ (by omega) rfl
  ·rw [hat he]
   repeat' (first
 | (conv=>whnf)
   first
   | (refine Br.decT ?_ ?_;(focus first | assumption | omega))
   | (refine Br.decF ?_ ?_;(focus first | assumption | omega))
   | refine Br.not ?_
   | refine Get.mk _ hp ?_
   | refine Idx.nat hil ?_
   | refine Req.mk h0l ?_
   | refine call_fun rfl rfl k3 (.inl rfl) ?_
   | refine Get.mk _ rfl ?_
   | refine Leaves.of ?_
   | refine Vw.int ?_
   | refine Vw.tup ?_
   | refine VwL.cons ?_ ?_
   | refine VwL.nil)
   all_goals first | rfl | (exfalso;omega;done)
 obtain rfl:i=ss.length:=by omega
 have hz:csF l.length f.w f.h ss 0=(0,0):=by rw [csF_drop w2,List.drop_length];rfl
 rw [hz]
 repeat' (first
 | (conv=>whnf)
   first
   | (refine Br.decF ?_ ?_;(focus first | assumption | omega))
   | refine Get.mk _ rfl ?_
   | refine Leaves.of ?_
   | refine Vw.int ?_
   | refine Vw.tup ?_
   | refine VwL.cons ?_ ?_
   | refine VwL.nil)
 all_goals first | rfl | (exfalso;omega;done)
end Go.Dr.T
namespace Go.Dr.T
end Go.Dr.T
