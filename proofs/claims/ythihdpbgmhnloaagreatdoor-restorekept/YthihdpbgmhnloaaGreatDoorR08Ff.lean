/- Chapter 08: CheckSteps and its reference. -/
import Derived.Test.YthihdpbgmhnloaaGreatDoorR08Fc
import Derived.Test.YthihdpbgmhnloaaGreatDoorG6
namespace Go.Dr.T
def spC:List Sp→List V
 | []=>[]
 | s :: l=>.int .i64 s.k :: .int .i64 s.fr :: .int .i64 s.un :: .sl s.kc s.kp.length (bxC s.kp) :: .int .i64 s.a :: .int .i64 s.b :: .int .i64 s.c :: .sl s.tc s.tb.length (ofBytes s.tb) :: spC l
theorem spC_length:∀ l,(spC l).length=l.length * 8
 | []=>rfl
 | _ :: l=>by simp only [spC,List.length_cons,spC_length l];omega
theorem spC_drop:∀ {l:List Sp} {i:Nat} {s:Sp},l[i]?=some s→(spC l).drop (i * 8)=spV s++spC (l.drop (i+1))
 | g :: l,0,f,h=>by simp only [List.getElem?_cons_zero,Option.some.injEq] at h;subst h;rfl
 | g :: l,i+1,f,h=>by
  rw [show (i+1) * 8=i * 8+1+1+1+1+1+1+1+1 by omega]
  simp only [spC,List.drop_succ_cons]
  exact spC_drop (l:=l) (by simpa using h)
theorem spC_part {l:List Sp} {i:Nat} {s:Sp} (h:l[i]?=some s):part (spC l) (i * 8) 8=some (spV s):=by
 unfold part
 simp only [take'_eq,drop'_eq,spC_drop h]
 rfl
theorem fmE_zero {w0 h0:Int} {f:Fm} (h:fmE w0 h0 f=0):(1≤f.w∧f.w≤48)∧(1≤f.h∧f.h≤48)∧(f.p.length:Int)=f.w * f.h∧f.w=w0∧f.h=h0:=by
 unfold fmE at h
 split at h
 ·cases h
 ·rename_i h1
  split at h
  ·cases h
  ·rename_i h2
   split at h
   ·cases h
   ·rename_i h3
    simp only [outB,Bool.or_eq_true,decide_eq_true_eq] at h1
    refine ⟨by omega,by omega,Classical.not_not.1 h2,?_,?_⟩
    ·exact Classical.not_not.1 fun q=>h3 (.inl q)
    ·exact Classical.not_not.1 fun q=>h3 (.inr q)
theorem flF_zero {w0 h0:Int}:∀ {l:List Fm} {n:Nat},(flF w0 h0 l n).2=0→∀ f∈l,fmE w0 h0 f=0
 | [],_,_,f,h=>nomatch h
 | g :: l,n,h,f,hf=>by
  rw [flF] at h
  by_cases e:fmE w0 h0 g=0
  ·rw [if_neg (fun q=>q e)] at h
   rcases List.mem_cons.1 hf with rfl | hf
   ·exact e
   ·exact flF_zero h f hf
  ·rw [if_pos e] at h
   exact absurd h e
theorem flE_zero {l:List Fm} (h:(flE l).2=0):∃ f0,l[0]?=some f0∧l.length≤12∧∀ f∈l,fmE f0.w f0.h f=0:=by
 cases l with
 | nil=>exact absurd h (by decide)
 | cons f l =>
  rw [flE] at h
  split at h
  ·exact absurd h (by decide)
  ·rename_i hl
   exact ⟨f,rfl,by omega,flF_zero h⟩
def csF (n:Nat) (w h:Int):List Sp→Nat→Int × Int
 | [],_=>(0,0)
 | s :: l,i=>if spE n w h s≠0 then ((i:Int),spE n w h s) else csF n w h l (i+1)
def csG (l:List Fm) (ss:List Sp):Int × Int :=
 match l with
 | []=>(0,0)
 | f :: l=>csF (f :: l).length f.w f.h ss 0
theorem csG_eq {l:List Fm} {ss:List Sp} {f:Fm} (hf:l[0]?=some f):csG l ss=csF l.length f.w f.h ss 0:=by
 cases l with
 | nil=>cases hf
 | cons g l=>simp only [List.getElem?_cons_zero,Option.some.injEq] at hf;subst hf;rfl
def csE (l:List Fm) (ss:List Sp):Int × Int:=if (flE l).2≠0 then (0,(flE l).2) else if 20<ss.length then (0,3) else csG l ss
theorem csF_drop {n:Nat} {w h:Int}:∀ {l:List Sp} {i m:Nat},(∀ j s,j<i→l[j]?=some s→spE n w h s=0)→csF n w h l m=csF n w h (l.drop i) (m+i)
 | l,0,m,_=>rfl
 | [],i+1,m,_=>rfl
 | s :: l,i+1,m,hh=>by
  rw [csF,if_neg (fun e=>e (hh 0 s (Nat.succ_pos _) rfl)),List.drop_succ_cons,csF_drop (l:=l) (i:=i) (m:=m+1) fun j g hj hg=>hh (j+1) g (by omega) (by simpa using hg)]
  congr 1
  omega
theorem validR_ok {c:Bool} {l:List Fm}:Fun FB md 44 [.sl c l.length (fmC l)] (.int .i64 (flE l).2):=by
 have k1:=checkR_ok (c:=c) (l:=l)
 refine fun_of rfl rfl ?_
 repeat' (first
 | (conv=>whnf)
   first
   | refine call_fun rfl rfl k1 (.inl rfl) ?_
   | refine Get.mk _ rfl ?_
   | refine Leaves.of ?_
   | refine Vw.int ?_)
 all_goals first | rfl | (exfalso;omega;done)
set_option maxRecDepth 100000 in
set_option maxHeartbeats 20000000 in
theorem cstepsR_ok {c d:Bool} {l:List Fm} {ss:List Sp}:Fun FB md 48 [.sl c l.length (fmC l),.sl d ss.length (spC ss)] (.tup [.int .i64 (csE l ss).1,.int .i64 (csE l ss).2]):=by
 have k1:=validR_ok (c:=c) (l:=l)
 by_cases hE:(flE l).2=0
 rotate_left
 ·unfold csE
  rw [if_pos hE]
  generalize flE l=z at *
  obtain ⟨z1,z2⟩:=z
  dsimp only at *
  refine fun_of rfl rfl ?_
  repeat' (first
 | (conv=>whnf)
   first
   | refine Br.f ?_
   | (refine Br.decF ?_ ?_;(focus first | assumption | omega))
   | refine Br.not ?_
   | refine call_fun rfl rfl k1 (.inl rfl) ?_
   | refine Get.mk _ rfl ?_
   | refine Leaves.of ?_
   | refine Vw.int ?_
   | refine Vw.tup ?_
   | refine VwL.cons ?_ ?_
   | refine VwL.nil)
  all_goals first | rfl | (exfalso;omega;done)
 obtain ⟨f,hf,hl,hall⟩:=flE_zero hE
 obtain ⟨hw,hh,_⟩:=fmE_zero (hall f (List.mem_of_getElem? hf))
 unfold csE
 rw [if_neg (fun q=>q hE)]
 rw [hE] at k1
 generalize (flE l).1=z1 at *
 by_cases h2:20<ss.length
 ·rw [if_pos h2]
  refine fun_of rfl rfl ?_
  repeat' (first
 | (conv=>whnf)
   first
   | refine Br.t ?_
   | (refine Br.decT ?_ ?_;(focus first | assumption | omega))
   | refine call_fun rfl rfl k1 (.inl rfl) ?_
   | refine Get.mk _ rfl ?_
   | refine Leaves.of ?_
   | refine Vw.int ?_
   | refine Vw.tup ?_
   | refine VwL.cons ?_ ?_
   | refine VwL.nil)
  all_goals first | rfl | (exfalso;omega;done)
 rw [if_neg h2]
 rw [csG_eq hf]
 refine fun_of rfl rfl ?_
 repeat' (first
 | (conv=>whnf)
   first
   | refine Br.t ?_
   | refine Br.f ?_
   | (refine Br.decF ?_ ?_;(focus first | assumption | omega))
   | refine call_fun rfl rfl k1 (.inl rfl) ?_)
 all_goals try (exfalso;omega;done)
 refine LoopP.by (fun i:Nat=>i≤ss.length∧∀ j s,j<i→ss[j]?=some s→spE l.length f.w f.h s=0) (fun i=>[(7,.int .i64 (i:Nat))]) (fun i=>[]) (fun i=>ss.length - i) 0 ⟨Nat.zero_le _,fun j v h=>absurd h (Nat.not_lt_zero _)⟩ rfl ?_
 rintro i ⟨w1,w2⟩
 dsimp only
 by_cases hi:i<ss.length
 ·obtain ⟨s,hs⟩:∃ s,ss[i]?=some s:=⟨_,List.getElem?_eq_getElem hi⟩
  have hp:=spC_part hs
  have k3:=stepR_ok (c:=c) (s:=s) hf hl hw hh
  have hiw:IntKind.i64.wrap ((i:Int)+1)=((i+1:Nat):Int):=by rw [wrap_i64 (by omega) (by omega)];omega
  have hil:i≤ss.length - 1:=by omega
  have h0l:0<ss.length:=by omega
  have hlc:i * 8+8≤(spC ss).length:=by rw [spC_length];omega
  have hnx:spE l.length f.w f.h s=0→∀ j u,j<i+1→ss[j]?=some u→spE l.length f.w f.h u=0:=fun q j u hj hu=>by
   by_cases e:j=i
   ·subst e;rw [hs] at hu;cases hu;exact q
   ·exact w2 j u (by omega) hu
  have hat:spE l.length f.w f.h s≠0→csF l.length f.w f.h ss 0=((i:Int),spE l.length f.w f.h s):=fun q=>by
   obtain ⟨hi', hg⟩:=List.getElem?_eq_some_iff.1 hs
   rw [csF_drop w2,List.drop_eq_getElem_cons hi', hg,csF,if_pos q,Nat.zero_add]
  generalize spE l.length f.w f.h s=e at *
  by_cases he:e=0
  ·have hny:=hnx he
   subst he
   repeat' (first
 | (conv=>whnf)
   first
   | refine Bnd.eq hiw ?_
   | refine Br.f ?_
   | (refine Br.decT ?_ ?_;(focus first | assumption | omega))
   | refine Get.mk _ hp ?_
   | refine Idx.nat hil ?_
   | refine Req.mk h0l ?_
   | refine call_fun rfl rfl k3 (.inl rfl) ?_)
   all_goals first | (exfalso;omega;done) | exact NextP.mk (i+1) ⟨hi,hny⟩ (by omega) rfl
  ·rw [hat he]
   repeat' (first
 | (conv=>whnf)
   first
   | (refine Br.decT ?_ ?_;(focus first | assumption | omega))
   | (refine Br.decF ?_ ?_;(focus first | assumption | omega))
   | refine Br.not ?_
   | refine Get.mk _ hp ?_
   | refine Idx.nat hil ?_
   | refine Req.mk h0l ?_
   | refine call_fun rfl rfl k3 (.inl rfl) ?_
   | refine Get.mk _ rfl ?_
   | refine Leaves.of ?_
   | refine Vw.int ?_
   | refine Vw.tup ?_
   | refine VwL.cons ?_ ?_
   | refine VwL.nil)
   all_goals first | rfl | (exfalso;omega;done)
 obtain rfl:i=ss.length:=by omega
 have hz:csF l.length f.w f.h ss 0=(0,0):=by rw [csF_drop w2,List.drop_length];rfl
 rw [hz]
 repeat' (first
 | (conv=>whnf)
   first
   | (refine Br.decF ?_ ?_;(focus first | assumption | omega))
   | refine Get.mk _ rfl ?_
   | refine Leaves.of ?_
   | refine Vw.int ?_
   | refine Vw.tup ?_
   | refine VwL.cons ?_ ?_
   | refine VwL.nil)
 all_goals first | rfl | (exfalso;omega;done)
set_option maxRecDepth 100000 in
set_option maxHeartbeats 20000000 in
theorem csteps_ok {c d:Bool} {l:List Fm} {ss:List Sp}:Fun FB md 42 [.sl c l.length (fmC l),.sl d ss.length (spC ss)] (.tup [.int .i64 (csE l ss).1,.int .i64 (csE l ss).2]):=by
 have k1:=check_ok (c:=c) (l:=l)
 by_cases hE:(flE l).2=0
 rotate_left
 ·unfold csE
  rw [if_pos hE]
  generalize flE l=z at *
  obtain ⟨z1,z2⟩:=z
  dsimp only at *
  refine fun_of rfl rfl ?_
  repeat' (first
 | (conv=>whnf)
   first
   | (refine Br.decF ?_ ?_;(focus first | assumption | omega))
   | refine Br.not ?_
   | refine call_fun rfl rfl k1 (.inl rfl) ?_
   | refine Get.mk _ rfl ?_
   | refine Leaves.of ?_
   | refine Vw.int ?_
   | refine Vw.tup ?_
   | refine VwL.cons ?_ ?_
   | refine VwL.nil)
  all_goals first | rfl | (exfalso;omega;done)
 obtain ⟨f,hf,hl,hall⟩:=flE_zero hE
 obtain ⟨hw,hh,_⟩:=fmE_zero (hall f (List.mem_of_getElem? hf))
 unfold csE
 rw [if_neg (fun q=>q hE)]
 rw [hE] at k1
 generalize (flE l).1=z1 at *
 by_cases h2:20<ss.length
 ·rw [if_pos h2]
  refine fun_of rfl rfl ?_
  repeat' (first
 | (conv=>whnf)
   first
   | refine Br.f ?_
   | (refine Br.decT ?_ ?_;(focus first | assumption | omega))
   | refine call_fun rfl rfl k1 (.inl rfl) ?_
   | refine Get.mk _ rfl ?_
   | refine Leaves.of ?_
   | refine Vw.int ?_
   | refine Vw.tup ?_
   | refine VwL.cons ?_ ?_
   | refine VwL.nil)
  all_goals first | rfl | (exfalso;omega;done)
 rw [if_neg h2]
 rw [csG_eq hf]
 refine fun_of rfl rfl ?_
 repeat' (first
 | (conv=>whnf)
   first
   | refine Br.f ?_
   | (refine Br.decF ?_ ?_;(focus first | assumption | omega))
   | refine call_fun rfl rfl k1 (.inl rfl) ?_
   | refine Get.mk _ rfl ?_)
 all_goals try (exfalso;omega;done)
 refine LoopP.by (fun i:Nat=>i≤ss.length∧∀ j s,j<i→ss[j]?=some s→spE l.length f.w f.h s=0) (fun i=>[(21,.int .i64 (i:Nat))]) (fun i=>[]) (fun i=>ss.length - i) 0 ⟨Nat.zero_le _,fun j v h=>absurd h (Nat.not_lt_zero _)⟩ rfl ?_
 rintro i ⟨w1,w2⟩
 dsimp only
 by_cases hi:i<ss.length
 ·obtain ⟨s,hs⟩:∃ s,ss[i]?=some s:=⟨_,List.getElem?_eq_getElem hi⟩
  have hp:=spC_part hs
  have k3:=cstep_ok (c:=c) (s:=s) hf hl hw hh
  have hiw:IntKind.i64.wrap ((i:Int)+1)=((i+1:Nat):Int):=by rw [wrap_i64 (by omega) (by omega)];omega
  have hil:i≤ss.length - 1:=by omega
  have h0l:0<ss.length:=by omega
  have hlc:i * 8+8≤(spC ss).length:=by rw [spC_length];omega
  have hnx:spE l.length f.w f.h s=0→∀ j u,j<i+1→ss[j]?=some u→spE l.length f.w f.h u=0:=fun q j u hj hu=>by
   by_cases e:j=i
   ·subst e;rw [hs] at hu;cases hu;exact q
   ·exact w2 j u (by omega) hu
  have hat:spE l.length f.w f.h s≠0→csF l.length f.w f.h ss 0=((i:Int),spE l.length f.w f.h s):=fun q=>by
   obtain ⟨hi', hg⟩:=List.getElem?_eq_some_iff.1 hs
   rw [csF_drop w2,List.drop_eq_getElem_cons hi', hg,csF,if_pos q,Nat.zero_add]
  generalize spE l.length f.w f.h s=e at *
  by_cases he:e=0
  ·have hny:=hnx he
   subst he
   repeat' (first
 | (conv=>whnf)
   first
   | refine Bnd.eq hiw ?_
   | refine Br.f ?_
   | (refine Br.decT ?_ ?_;(focus first | assumption | omega))
   | refine Get.mk _ hp ?_
   | refine Idx.nat hil ?_
   | refine Req.mk h0l ?_
   | refine call_fun rfl rfl k3 (.inl rfl) ?_
   | refine Get.mk _ rfl ?_
   | (refine Req.mk ?_ ?_;(focus first | rfl | decide | exact ⟨rfl,rfl⟩ | exact ⟨rfl,by decide⟩ | exact (fun _=>rfl) | exact (fun h=>nomatch h) | (simp;done) | omega | (simp [big];done) | exact le_big (by omega) | exact lt_big (by omega))))
   all_goals first | (exfalso;omega;done) | exact NextP.mk (i+1) ⟨hi,hny⟩ (by omega) rfl
  ·rw [hat he]
   repeat' (first
 | (conv=>whnf)
   first
   | (refine Br.decT ?_ ?_;(focus first | assumption | omega))
   | (refine Br.decF ?_ ?_;(focus first | assumption | omega))
   | refine Br.not ?_
   | refine Get.mk _ hp ?_
   | refine Idx.nat hil ?_
   | refine Req.mk h0l ?_
   | refine call_fun rfl rfl k3 (.inl rfl) ?_
   | refine Get.mk _ rfl ?_
   | refine Leaves.of ?_
   | refine Vw.int ?_
   | refine Vw.tup ?_
   | refine VwL.cons ?_ ?_
   | refine VwL.nil
   | (refine Req.mk ?_ ?_;(focus first | rfl | decide | exact ⟨rfl,rfl⟩ | exact ⟨rfl,by decide⟩ | exact (fun _=>rfl) | exact (fun h=>nomatch h) | (simp;done) | omega | (simp [big];done) | exact le_big (by omega) | exact lt_big (by omega))))
   all_goals first | rfl | (exfalso;omega;done)
 obtain rfl:i=ss.length:=by omega
 have hz:csF l.length f.w f.h ss 0=(0,0):=by rw [csF_drop w2,List.drop_length];rfl
 rw [hz]
 repeat' (first
 | (conv=>whnf)
   first
   | (refine Br.decF ?_ ?_;(focus first | assumption | omega))
   | refine Get.mk _ rfl ?_
   | refine Leaves.of ?_
   | refine Vw.int ?_
   | refine Vw.tup ?_
   | refine VwL.cons ?_ ?_
   | refine VwL.nil)
 all_goals first | rfl | (exfalso;omega;done)
end Go.Dr.T
