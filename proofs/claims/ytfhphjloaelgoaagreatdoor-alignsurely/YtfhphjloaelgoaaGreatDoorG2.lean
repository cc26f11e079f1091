/- Chapter 06: Check of an element, the document's. -/
import Derived.Test.YtfhphjloaelgoaaGreatDoorG1
import Derived.Test.YtfhphjloaelgoaaGreatDoorDrG
namespace Go.Dr.T
theorem in_ok {n lo hi:Int}:Fun FB md 52 [.int .i64 n,.int .i64 lo,.int .i64 hi] (.bool (!outB n lo hi)):=by
 refine fun_of rfl rfl ?_
 by_cases h1:n ≥ lo <;> by_cases h2:n≤hi
 all_goals
  repeat' (first
 | (conv=>whnf)
   first
   | (refine Br.decT ?_ ?_;(focus first | assumption | omega))
   | (refine Br.decF ?_ ?_;(focus first | assumption | omega))
   | refine Get.mk _ rfl ?_
   | refine Leaves.of ?_
   | refine Vw.bool ?_)
  all_goals first | (simp [outB,h1,h2];done) | (simp [outB,h1,h2];omega)
theorem cellAt_drop:∀ {c:List V} {n:Nat} {v:V} {r:List V},c.drop n=v :: r→cellAt c n=some v
 | [],n,v,r,h=>by simp at h
 | x :: c,0,v,r,h=>by
  simp only [List.drop_zero,List.cons.injEq] at h
  obtain ⟨rfl,_⟩:=h;rfl
 | x :: c,n+1,v,r,h=>by
  have:=cellAt_drop (c:=c) (n:=n) (by simpa using h)
  simpa only [cellAt] using this
theorem shC_cell {l:List (Int × Int)} {i:Nat} {p:Int × Int} (h:l[i]?=some p):cellAt (shC l) (i * 2)=some (.int .i64 p.1):=cellAt_drop (shC_drop h)
set_option maxRecDepth 100000 in
set_option maxHeartbeats 20000000 in
theorem refCheck_ok {nm:List UInt8} {c:Bool} {l:List (Int × Int)} {g:Int}:Fun FB md 19 [elV nm c l g] (.tup [.int .i64 (ckE nm l g).1,.int .i64 (ckE nm l g).2]):=by
 have h1:=refName_ok (s:=nm)
 unfold ckE
 cases hn:nmOk nm <;> rw [hn] at h1
 ·rw [if_pos rfl]
  refine fun_of rfl rfl ?_
  repeat' (first
 | (conv=>whnf)
   first
   | refine Br.t ?_
   | refine call_fun rfl rfl h1 (.inl rfl) ?_
   | refine Get.mk _ rfl ?_
   | refine Leaves.of ?_
   | refine Vw.int ?_
   | refine Vw.tup ?_
   | refine VwL.cons ?_ ?_
   | refine VwL.nil
   | (refine Req.mk ?_ ?_;(focus first | rfl | decide | exact ⟨rfl,rfl⟩ | exact ⟨rfl,by decide⟩ | exact (fun _=>rfl) | exact (fun h=>nomatch h) | (simp;done) | omega | (simp [big];done) | exact le_big (by omega) | exact lt_big (by omega))))
  all_goals rfl
 rw [if_neg (by simp)]
 have h2:=in_ok (n:=g) (lo:=0) (hi:=9)
 cases hg:outB g 0 9 <;> rw [hg] at h2
 rotate_left
 ·rw [if_pos rfl]
  refine fun_of rfl rfl ?_
  repeat' (first
 | (conv=>whnf)
   first
   | refine Br.t ?_
   | refine Br.f ?_
   | refine call_fun rfl rfl h1 (.inl rfl) ?_
   | refine call_fun rfl rfl h2 (.inl rfl) ?_
   | refine Get.mk _ rfl ?_
   | refine Leaves.of ?_
   | refine Vw.int ?_
   | refine Vw.tup ?_
   | refine VwL.cons ?_ ?_
   | refine VwL.nil
   | (refine Req.mk ?_ ?_;(focus first | rfl | decide | exact ⟨rfl,rfl⟩ | exact ⟨rfl,by decide⟩ | exact (fun _=>rfl) | exact (fun h=>nomatch h) | (simp;done) | omega | (simp [big];done) | exact le_big (by omega) | exact lt_big (by omega))))
  all_goals rfl
 rw [if_neg (by simp)]
 by_cases h3:40<l.length
 ·rw [if_pos h3]
  refine fun_of rfl rfl ?_
  repeat' (first
 | (conv=>whnf)
   first
   | refine Br.f ?_
   | (refine Br.decT ?_ ?_;(focus first | assumption | omega))
   | refine call_fun rfl rfl h1 (.inl rfl) ?_
   | refine call_fun rfl rfl h2 (.inl rfl) ?_
   | refine Get.mk _ rfl ?_
   | refine Leaves.of ?_
   | refine Vw.int ?_
   | refine Vw.tup ?_
   | refine VwL.cons ?_ ?_
   | refine VwL.nil
   | (refine Req.mk ?_ ?_;(focus first | rfl | decide | exact ⟨rfl,rfl⟩ | exact ⟨rfl,by decide⟩ | exact (fun _=>rfl) | exact (fun h=>nomatch h) | (simp;done) | omega | (simp [big];done) | exact le_big (by omega) | exact lt_big (by omega))))
  all_goals first | rfl | (exfalso;omega)
 rw [if_neg h3]
 refine fun_of rfl rfl ?_
 repeat' (first
 | (conv=>whnf)
   first
   | refine Br.f ?_
   | (refine Br.decF ?_ ?_;(focus first | assumption | omega))
   | refine call_fun rfl rfl h1 (.inl rfl) ?_
   | refine call_fun rfl rfl h2 (.inl rfl) ?_
   | refine Get.mk _ rfl ?_
   | (refine Req.mk ?_ ?_;(focus first | rfl | decide | exact ⟨rfl,rfl⟩ | exact ⟨rfl,by decide⟩ | exact (fun _=>rfl) | exact (fun h=>nomatch h) | (simp;done) | omega | (simp [big];done) | exact le_big (by omega) | exact lt_big (by omega))))
 refine LoopP.by (fun i:Nat=>i≤l.length∧ckF l 0 l.length=ckF l i (l.length - i)) (fun i=>[(4,.int .i64 (i:Nat))])
  (fun _=>[.blk [.str nm,.sl c l.length (shC l),.int .i64 g] false]) (fun i=>l.length - i) 0 ⟨Nat.zero_le _,rfl⟩ rfl ?_
 rintro i ⟨q1,q3⟩
 dsimp only
 by_cases hi:i<l.length
 rotate_left
 ·have hres:ckF l 0 l.length=(0,0):=by rw [q3,show l.length - i=0 by omega,ckF]
  repeat' (first
 | (conv=>whnf)
   first
   | (refine Br.decF ?_ ?_;(focus first | assumption | omega))
   | refine Get.mk _ rfl ?_
   | refine Leaves.of ?_
   | refine Vw.int ?_
   | refine Vw.tup ?_
   | refine VwL.cons ?_ ?_
   | refine VwL.nil
   | (refine Req.mk ?_ ?_;(focus first | rfl | decide | exact ⟨rfl,rfl⟩ | exact ⟨rfl,by decide⟩ | exact (fun _=>rfl) | exact (fun h=>nomatch h) | (simp;done) | omega | (simp [big];done) | exact le_big (by omega) | exact lt_big (by omega))))
  ·exact congrArg Prod.fst hres.symm
  ·exact congrArg Prod.snd hres.symm
 obtain ⟨p,hp⟩:∃ p,l[i]?=some p:=⟨_,List.getElem?_eq_getElem hi⟩
 have hpart:=shC_part hp
 have hE:eF l i=if outB p.1 0 999 || outB p.2 1 200000 then 7 else if 0<p.1∧p.1∈(l.take i).map (·.1) then 5 else 0:=by simp only [eF,hp]
 obtain ⟨m,f⟩:=p
 simp only at hpart hE
 have h4:=in_ok (n:=m) (lo:=0) (hi:=999)
 have h5:=in_ok (n:=f) (lo:=1) (hi:=200000)
 have err:∀ e:Int,e≠0→eF l i=e→ckF l 0 l.length=((i:Int),e):=fun e h0 he=>by rw [q3,ckF_err hi (by rw [he];exact h0),he]
 cases hb4:outB m 0 999 <;> rw [hb4] at h4
 rotate_left
 ·have hres:=err 7 (by decide) (by rw [hE,hb4];rfl)
  repeat' (first
 | (conv=>whnf)
   first
   | refine Br.t ?_
   | (refine Br.decT ?_ ?_;(focus first | assumption | omega))
   | refine Get.mk _ hpart ?_
   | refine call_fun rfl rfl h4 (.inl rfl) ?_
   | (refine Idx.nat ?_ ?_;(focus omega))
   | refine Get.mk _ rfl ?_
   | refine Leaves.of ?_
   | refine Vw.int ?_
   | refine Vw.tup ?_
   | refine VwL.cons ?_ ?_
   | refine VwL.nil
   | (refine Req.mk ?_ ?_;(focus first | rfl | decide | exact ⟨rfl,rfl⟩ | exact ⟨rfl,by decide⟩ | exact (fun _=>rfl) | exact (fun h=>nomatch h) | (simp;done) | omega | (simp [big];done) | exact le_big (by omega) | exact lt_big (by omega))))
  ·exact congrArg Prod.fst hres.symm
  ·exact congrArg Prod.snd hres.symm
 cases hb5:outB f 1 200000 <;> rw [hb5] at h5
 rotate_left
 ·have hres:=err 7 (by decide) (by rw [hE,hb4,hb5];rfl)
  repeat' (first
 | (conv=>whnf)
   first
   | refine Br.t ?_
   | refine Br.f ?_
   | (refine Br.decT ?_ ?_;(focus first | assumption | omega))
   | refine Get.mk _ hpart ?_
   | refine call_fun rfl rfl h4 (.inl rfl) ?_
   | refine call_fun rfl rfl h5 (.inl rfl) ?_
   | (refine Idx.nat ?_ ?_;(focus omega))
   | refine Get.mk _ rfl ?_
   | refine Leaves.of ?_
   | refine Vw.int ?_
   | refine Vw.tup ?_
   | refine VwL.cons ?_ ?_
   | refine VwL.nil
   | (refine Req.mk ?_ ?_;(focus first | rfl | decide | exact ⟨rfl,rfl⟩ | exact ⟨rfl,by decide⟩ | exact (fun _=>rfl) | exact (fun h=>nomatch h) | (simp;done) | omega | (simp [big];done) | exact le_big (by omega) | exact lt_big (by omega))))
  ·exact congrArg Prod.fst hres.symm
  ·exact congrArg Prod.snd hres.symm
 rw [hb4,hb5,if_neg (by simp)] at hE
 repeat' (first
 | (conv=>whnf)
   first
   | refine Br.f ?_
   | (refine Br.decT ?_ ?_;(focus first | assumption | omega))
   | refine Get.mk _ hpart ?_
   | refine call_fun rfl rfl h4 (.inl rfl) ?_
   | refine call_fun rfl rfl h5 (.inl rfl) ?_
   | (refine Idx.nat ?_ ?_;(focus omega))
   | refine Get.mk _ rfl ?_
   | (refine Req.mk ?_ ?_;(focus first | rfl | decide | exact ⟨rfl,rfl⟩ | exact ⟨rfl,by decide⟩ | exact (fun _=>rfl) | exact (fun h=>nomatch h) | (simp;done) | omega | (simp [big];done) | exact le_big (by omega) | exact lt_big (by omega))))
 refine LoopP.by (fun k:Nat=>k≤i∧∀ j q,j<k→l[j]?=some q→¬ (0<m∧q.1=m)) (fun k=>[(6,.int .i64 (k:Nat))])
  (fun _=>[.blk [.str nm,.sl c l.length (shC l),.int .i64 g] false,.blk [.int .i64 m,.int .i64 f] false]) (fun k=>i - k) 0 ⟨Nat.zero_le _,fun j q h=>absurd h (Nat.not_lt_zero _)⟩ rfl ?_
 rintro k ⟨k1,k2⟩
 dsimp only
 by_cases hk:k<i
 rotate_left
 ·have hz:eF l i=0:=by
   rw [hE,if_neg]
   rintro ⟨h,hm⟩
   obtain ⟨q,hq,rfl⟩:=List.mem_map.1 hm
   obtain ⟨j,hj⟩:=List.getElem?_of_mem hq
   rw [List.getElem?_take] at hj
   split at hj
   ·exact k2 j q (by omega) hj ⟨h,rfl⟩
   ·cases hj
  repeat' (first
 | (conv=>whnf)
   first
   | (refine Br.decF ?_ ?_;(focus first | assumption | omega))
   | (refine Bnd.i64 ?_ ?_ ?_;(focus omega);(focus omega)))
  refine NextP.mk (i+1) ⟨hi,by rw [q3,ckF_next hi hz]⟩ (by omega) rfl
 obtain ⟨q,hq⟩:∃ q,l[k]?=some q:=⟨_,List.getElem?_eq_getElem (by omega)⟩
 have hcell:cellAt (shC l) (k * 2+0)=some (.int .i64 q.1):=shC_cell hq
 by_cases hm:0<m∧q.1=m
 ·have hmem:m∈(l.take i).map (·.1):=List.mem_map.2 ⟨q,List.mem_of_getElem? (i:=k) (by rw [List.getElem?_take,if_pos hk,hq]),hm.2⟩
  have hres:=err 5 (by decide) (by rw [hE,if_pos ⟨hm.1,hmem⟩])
  obtain ⟨hm1,hm2⟩:=hm
  repeat' (first
 | (conv=>whnf)
   first
   | (refine Br.decT ?_ ?_;(focus first | assumption | omega))
   | refine Get.mk _ hcell ?_
   | (refine Idx.nat ?_ ?_;(focus omega))
   | refine Get.mk _ rfl ?_
   | refine Leaves.of ?_
   | refine Vw.int ?_
   | refine Vw.tup ?_
   | refine VwL.cons ?_ ?_
   | refine VwL.nil
   | (refine Req.mk ?_ ?_;(focus first | rfl | decide | exact ⟨rfl,rfl⟩ | exact ⟨rfl,by decide⟩ | exact (fun _=>rfl) | exact (fun h=>nomatch h) | (simp;done) | omega | (simp [big];done) | exact le_big (by omega) | exact lt_big (by omega))))
  all_goals first | exact congrArg Prod.fst hres.symm | exact congrArg Prod.snd hres.symm
 ·have hn:k+1≤i∧∀ j q,j<k+1→l[j]?=some q→¬ (0<m∧q.1=m):=by
   refine ⟨hk,fun j q' hj hq' => ?_⟩
   by_cases h:j<k
   ·exact k2 j q' h hq'
   ·obtain rfl:j=k:=by omega
    rw [hq] at hq'; cases hq'; exact hm
  by_cases hm1:0<m
  ·have hm2:q.1≠m:=fun h=>hm ⟨hm1,h⟩
   repeat' (first
 | (conv=>whnf)
   first
   | (refine Br.decT ?_ ?_;(focus first | assumption | omega))
   | (refine Br.decF ?_ ?_;(focus first | assumption | omega))
   | (refine Bnd.i64 ?_ ?_ ?_;(focus omega);(focus omega))
   | refine Get.mk _ hcell ?_
   | (refine Idx.nat ?_ ?_;(focus omega))
   | refine Get.mk _ rfl ?_
   | (refine Req.mk ?_ ?_;(focus first | rfl | decide | exact ⟨rfl,rfl⟩ | exact ⟨rfl,by decide⟩ | exact (fun _=>rfl) | exact (fun h=>nomatch h) | (simp;done) | omega | (simp [big];done) | exact le_big (by omega) | exact lt_big (by omega))))
   all_goals exact NextP.mk (k+1) hn (by omega) rfl
  ·repeat' (first
 | (conv=>whnf)
   first
   | refine Br.f ?_
   | (refine Br.decT ?_ ?_;(focus first | assumption | omega))
   | (refine Br.decF ?_ ?_;(focus first | assumption | omega))
   | (refine Bnd.i64 ?_ ?_ ?_;(focus omega);(focus omega))
   | refine Get.mk _ rfl ?_
   | (refine Req.mk ?_ ?_;(focus first | rfl | decide | exact ⟨rfl,rfl⟩ | exact ⟨rfl,by decide⟩ | exact (fun _=>rfl) | exact (fun h=>nomatch h) | (simp;done) | omega | (simp [big];done) | exact le_big (by omega) | exact lt_big (by omega))))
   all_goals exact NextP.mk (k+1) hn (by omega) rfl
end Go.Dr.T
namespace Go.Dr.T
structure El where
 nm:List UInt8
 c:Bool
 l:List (Int × Int)
 g:Int
def El.v (e:El):List V:=[.str e.nm,.sl e.c e.l.length (shC e.l),.int .i64 e.g]
def elC:List El→List V
 | []=>[]
 | e :: r=>.str e.nm :: .sl e.c e.l.length (shC e.l) :: .int .i64 e.g :: elC r
theorem elC_length:∀ l,(elC l).length=l.length * 3
 | []=>rfl
 | _ :: l=>by simp only [elC,List.length_cons,elC_length l];omega
def El.e (x:El):Int:=(ckE x.nm x.l x.g).2
def ckd:List El→Int
 | []=>0
 | x :: l=>if x.e≠0 then x.e else ckd l
theorem drop'_eq:∀ (n:Nat) (c:List V),drop' n c=c.drop n
 | 0,c=>by cases c <;> rfl
 | n+1,[]=>rfl
 | n+1,x :: c=>by simpa only [drop', List.drop_succ_cons] using drop'_eq n c
theorem part3 {c:List V} {n:Nat} {x y z:V} {r:List V} (h:c.drop n=x :: y :: z :: r):part c n 3=some [x,y,z]:=by
 unfold part
 rw [drop'_eq,h];rfl
theorem elC_drop:∀ {l:List El} {i:Nat} {p:El},l[i]?=some p→(elC l).drop (i * 3) = .str p.nm :: .sl p.c p.l.length (shC p.l) :: .int .i64 p.g :: (elC l).drop (i * 3+3)
 | x :: l,0,p,h=>by
  simp only [List.getElem?_cons_zero,Option.some.injEq] at h
  subst h;rfl
 | x :: l,i+1,p,h=>by
  have:=elC_drop (l:=l) (i:=i) (p:=p) (by simpa using h)
  rw [show (i+1) * 3=i * 3+1+1+1 by omega]
  simpa only [elC,List.drop_succ_cons] using this
theorem elC_part {l:List El} {i:Nat} {p:El} (h:l[i]?=some p):part (elC l) (i * 3) 3=some [.str p.nm,.sl p.c p.l.length (shC p.l),.int .i64 p.g]:=part3 (elC_drop h)
theorem ckd_drop {l:List El} {i:Nat} {p:El} (h:l[i]?=some p):ckd (l.drop i)=if p.e≠0 then p.e else ckd (l.drop (i+1)):=by
 obtain ⟨hi,rfl⟩:=List.getElem?_eq_some_iff.1 h
 rw [List.drop_eq_getElem_cons hi];rfl
abbrev elsV (c:Bool) (l:List El):V:=.sl c l.length (elC l)
set_option maxRecDepth 100000 in
set_option maxHeartbeats 20000000 in
theorem checked_ok {c:Bool} {l:List El} (hl:l.length≤140737488355328):Fun FB md 89 [elsV c l] (.int .i64 (ckd l)):=by
 refine fun_of rfl rfl ?_
 skip
 refine LoopP.by (fun i:Nat=>i≤l.length∧ckd l=ckd (l.drop i)) (fun i=>[(9,.int .i64 (i:Nat))]) (fun _=>[]) (fun i=>l.length - i) 0 ⟨Nat.zero_le _,rfl⟩ rfl ?_
 rintro i ⟨q1,q2⟩
 dsimp only
 by_cases hi:i<l.length
 rotate_left
 ·have hres:ckd l=0:=by rw [q2,show i=l.length by omega,List.drop_length];rfl
  repeat' (first
 | (conv=>whnf)
   first
   | (refine Br.decF ?_ ?_;(focus first | assumption | omega))
   | refine Get.mk _ rfl ?_
   | refine Leaves.of ?_
   | refine Vw.int ?_)
  exact hres.symm
 obtain ⟨p,hp⟩:∃ p,l[i]?=some p:=⟨_,List.getElem?_eq_getElem hi⟩
 have hpart:=elC_part hp
 have hq:=ckd_drop hp
 have hc:=check_ok (nm:=p.nm) (c:=p.c) (l:=p.l) (g:=p.g)
 by_cases he:p.e=0
 ·rw [if_neg (by simp [he])] at hq
  rw [show (ckE p.nm p.l p.g).2=0 from he] at hc
  repeat' (first
 | (conv=>whnf)
   first
   | refine Br.f ?_
   | (refine Br.decT ?_ ?_;(focus first | assumption | omega))
   | (refine Bnd.i64 ?_ ?_ ?_;(focus omega);(focus omega))
   | refine Get.mk _ hpart ?_
   | refine call_fun rfl rfl hc (.inl rfl) ?_
   | (refine Idx.nat ?_ ?_;(focus omega))
   | refine Get.mk _ rfl ?_
   | (refine Req.mk ?_ ?_;(focus first | rfl | decide | exact ⟨rfl,rfl⟩ | exact ⟨rfl,by decide⟩ | exact (fun _=>rfl) | exact (fun h=>nomatch h) | (simp;done) | omega | (simp [big];done) | exact le_big (by omega) | exact lt_big (by omega))))
  exact NextP.mk (i+1) ⟨hi,by rw [q2,hq]⟩ (by omega) rfl
 ·rw [if_pos he] at hq
  have he' : (ckE p.nm p.l p.g).2≠0:=he
  repeat' (first
 | (conv=>whnf)
   first
   | (refine Br.decT ?_ ?_;(focus first | assumption | omega))
   | (refine Br.decF ?_ ?_;(focus first | assumption | omega))
   | refine Br.not ?_
   | refine Get.mk _ hpart ?_
   | refine call_fun rfl rfl hc (.inl rfl) ?_
   | (refine Idx.nat ?_ ?_;(focus omega))
   | refine Get.mk _ rfl ?_
   | refine Leaves.of ?_
   | refine Vw.int ?_
   | (refine Req.mk ?_ ?_;(focus first | rfl | decide | exact ⟨rfl,rfl⟩ | exact ⟨rfl,by decide⟩ | exact (fun _=>rfl) | exact (fun h=>nomatch h) | (simp;done) | omega | (simp [big];done) | exact le_big (by omega) | exact lt_big (by omega))))
  exact (q2.trans hq).symm
end Go.Dr.T
namespace Go.Dr.T
theorem fB.i2 {h g:List B} {K:List B→Prop} (hk:fB g fun r=>K (h++r)):fB (if 2=0 then h else h++g) K:=by rw [if_neg (by decide)];exact fB.tail hk
theorem fB.i1 {h g:List B} {K:List B→Prop} (hk:fB g fun r=>K (h++r)):fB (if 1=0 then h else h++g) K:=by rw [if_neg (by decide)];exact fB.tail hk
theorem fB.i0 {h g:List B} {K:List B→Prop} (hk:K h):fB (if 0=0 then h else g) K:=fB.mk (by rw [if_pos rfl];exact hk)
theorem trunc_two {n:Nat} {tm:List V} {L:List B} {c1 c2:B} (hL:L.length=n) (h0:blos n tm=true) (h1:blos (n+1) tm=true) (h2:hbelow (n+1) (L++[c1])=true) (h3:hbelow n L=true):trunc n tm (L++[c1,c2])=L:=by
 subst hL
 have e1:(L++[c1,c2]).take (L.length+1)=L++[c1]:=by rw [List.take_length_add_append];rfl
 have e2:(L++[c1]).take L.length=L:=by simp
 unfold trunc
 rw [show (L++[c1,c2]).length - L.length=2 by simp]
 unfold strip
 simp only [e1,h1,h2,Bool.and_self,if_true]
 unfold strip
 simp only [Nat.add_zero,e2,h0,h3,Bool.and_self,if_true,strip]
theorem hbelow_snoc {n:Nat} {c:B}:∀ {L:List B},hbelow n L=true→c.blo n=true→hbelow n (L++[c])=true
 | [],_,h=>by simp [hbelow,h]
 | x :: L,h,hc=>by
  simp only [hbelow,Bool.and_eq_true,List.cons_append] at h ⊢
  exact ⟨h.1,hbelow_snoc h.2 hc⟩
theorem fBtr {n:Nat} {k:IntKind} {z:Int} {L G:List B} {c1 c2:B} {K:List B→Prop} (hL:L.length=n) (hG:G=L++[c1,c2]) (h2:hbelow (n+1) (L++[c1])=true) (h3:hbelow n L=true) (hk:K L):fB (trunc n [.int k z] G) K :=
 fB.mk (by subst hG;rw [trunc_two hL rfl rfl h2 h3];exact hk)
theorem fVg' {l l' : List V} {K:List V→Prop} (e:l=l') (h:K l'):fV l K:=fV.mk (e ▸ h)
inductive Hid (p:Prop):Prop where
 | mk:p→Hid p
theorem trunc_one {n:Nat} {tm:List V} {L:List B} {c:B} (hL:L.length=n) (h0:blos n tm=true) (h1:hbelow n L=true):trunc n tm (L++[c])=L:=by
 subst hL
 have e2:(L++[c]).take L.length=L:=by simp
 unfold trunc
 rw [show (L++[c]).length - L.length=1 by simp]
 unfold strip
 simp only [Nat.add_zero,e2,h0,h1,Bool.and_self,if_true,strip]
theorem fBtr1 {n:Nat} {k:IntKind} {z:Int} {L G:List B} {c:B} {K:List B→Prop} (hL:L.length=n) (hG:G=L++[c]) (h:hbelow n L=true) (hk:K L):fB (trunc n [.int k z] G) K :=
 fB.mk (by subst hG;rw [trunc_one hL rfl h];exact hk)
theorem blos_tg {n:Nat}:∀ {tm:List V} {i:Nat},blos n tm=true→(tg tm i).blo n=true
 | [],_,_=>by simp [tg,V.blo]
 | v :: l,0,h=>by simp only [blos,Bool.and_eq_true] at h;exact h.1
 | v :: l,i+1,h=>by simp only [blos,Bool.and_eq_true] at h;exact blos_tg (tm:=l) (i:=i) h.2
theorem strip_keep {n i id:Nat} {tm:List V} {b:B} (hv:∀ k,(tg tm i).blo k=true→id<k):∀ {j:Nat} {h:List B},h.length=n+j→bget h id=some b→bget (strip n tm j h) id=some b
 | 0,h,_,e=>e
 | j+1,h,hl,e=>by
  unfold strip
  split
  ·rename_i hc
   rw [Bool.and_eq_true] at hc
   have hid:=hv _ (blos_tg (i:=i) hc.1)
   exact strip_keep hv (by rw [List.length_take];omega) (by rw [bget_take hid];exact e)
  ·exact e
theorem strip_len {n:Nat} {tm:List V}:∀ {j:Nat} {h:List B},h.length=n+j→n≤(strip n tm j h).length
 | 0,h,hl=>by unfold strip;omega
 | j+1,h,hl=>by
  unfold strip
  split
  ·exact strip_len (by rw [List.length_take];omega)
  ·omega
theorem norm_keep {m:List Bool} {n i id:Nat} {s:St} {b:B} (hn:n≤s.h.length) (hv:∀ k,(tg (masked m s.tm) i).blo k=true→id<k) (e:bget s.h id=some b):bget (norm m n s).h id=some b :=
 strip_keep (i:=i) hv (by omega) e
theorem norm_len {m:List Bool} {n:Nat} {s:St} (hn:n≤s.h.length):n≤(norm m n s).h.length:=strip_len (by omega)
theorem NextP.of {α:Type} {P:α→Prop} {I:α→St} {μ:α→Nat} {a:α} {s:St} (f:List B→α) (h1:P (f s.h)) (h2:μ (f s.h)<μ a) (h3:s=I (f s.h)):NextP P I μ a s:=⟨f s.h,h1,h2,h3⟩
theorem CallP.heap {F:Nat→Option Fc} {md ro f a h h' K} (e:h=h') (hc:CallP F md ro f a h' K):CallP F md ro f a h K:=by subst e;exact hc
theorem bget_lop {hh:List B} {L:B} {n:Nat} (e:hh.length=n):bget (hh++[L]) (n+0)=some L:=by subst e;exact bget_new (i:=0)
theorem bset_lop {hh:List B} {L L' : B} {n:Nat} (e:hh.length=n):bset (hh++[L]) (n+0) L' = hh++[L']:=by subst e;rw [bset_new];rfl
theorem fB.lop {hh g:List B} {L L' : B} {n:Nat} {K:List B→Prop} (e:hh.length=n) (hk:K ((hh++[L'])++g)):fB (bset ((hh++[L])++g) (n+0) L') K:=fB.mk (by rw [bset_app (by rw [List.length_append,e];exact Nat.lt_succ_self n),bset_lop e];exact hk)
theorem fLen.as {h:List B} {n:Nat} {K:Nat→Prop} (e:h.length=n) (hk:K (n+0)):fLen h 0 K:=by subst e;exact fLen.mk hk
theorem bset_two {h:List B} {n:Nat} {a b:B}:bset (bset h n a) n b=bset h n b:=by rw [bset_eq,bset_eq,bset_eq,List.set_set]
def Cl (h:List B):Prop:=hbelow h.length h=true
theorem Bblo_mono {n m:Nat} (h:n≤m):∀ (b:B),b.blo n=true→b.blo m=true
 | .blk c dat,e=>by
  simp only [B.blo,Bool.or_eq_true] at e ⊢
  rcases e with e | e
  ·exact .inl e
  ·exact .inr (blos_mono h _ e)
 | .unborn,_=>rfl
 | .lop _ _ tm _ _ _,e=>blos_mono h tm e
 | .mp ks vs,e=>by simp only [B.blo,Bool.and_eq_true] at e ⊢; exact ⟨blos_mono h _ e.1,blos_mono h _ e.2⟩
 | .mq _ _ ks vs,e=>by simp only [B.blo,Bool.and_eq_true] at e ⊢; exact ⟨blos_mono h _ e.1,blos_mono h _ e.2⟩
 | .it a _ _ _,e=>by simp only [B.blo,decide_eq_true_eq] at e ⊢; omega
 | .ir _ _ _,_=>rfl
theorem hbelow_mono {n m:Nat} (h:n≤m):∀ (l:List B),hbelow n l=true→hbelow m l=true
 | [],_=>rfl
 | b :: l,e=>by simp only [hbelow,Bool.and_eq_true] at e ⊢; exact ⟨Bblo_mono h b e.1,hbelow_mono h l e.2⟩
theorem Cl.app {h:List B} {b:B} (c:Cl h) (e:b.blo h.length=true):Cl (h++[b]):=by
 unfold Cl
 rw [List.length_append]
 exact hbelow_mono (Nat.le_add_right _ _) _ (hbelow_snoc c e)
theorem hbelow_set {m:Nat} {b:B} (e:b.blo m=true):∀ {h:List B} {n:Nat},hbelow m h=true→hbelow m (bset h n b)=true
 | [],n,_=>by cases n <;> rfl
 | a :: l,0,c=>by simp only [bset,hbelow,Bool.and_eq_true] at c ⊢; exact ⟨e,c.2⟩
 | a :: l,n+1,c=>by simp only [bset,hbelow,Bool.and_eq_true] at c ⊢; exact ⟨c.1,hbelow_set e c.2⟩
theorem Cl.set {h:List B} {n:Nat} {b:B} (c:Cl h) (e:b.blo h.length=true):Cl (bset h n b):=by
 unfold Cl;rw [bset_len];exact hbelow_set e c
theorem strip_cl {n:Nat} {tm:List V}:∀ {j:Nat} {h:List B},h.length=n+j→Cl h→Cl (strip n tm j h)
 | 0,h,_,c=>c
 | j+1,h,hl,c=>by
  unfold strip
  split
  ·rename_i hc
   rw [Bool.and_eq_true] at hc
   have hl' : (h.take (n+j)).length=n+j:=by rw [List.length_take];omega
   exact strip_cl hl' (by unfold Cl;rw [hl'];exact hc.2)
  ·exact c
theorem norm_cl {m:List Bool} {n:Nat} {s:St} (hn:n≤s.h.length) (c:Cl s.h):Cl (norm m n s).h:=strip_cl (by omega) c
theorem fB.two {hh:List B} {n:Nat} {L bx b:B} {K:List B→Prop} (hn:n<hh.length) (hk:K ((bset hh n b++[L])++[bx])):fB (bset ((hh++[L])++[bx]) n b) K :=
 fB.mk (by rw [bset_app (by rw [List.length_append];omega),bset_app hn];exact hk)
theorem end_eq {hh:List B} {v:V} {L L' bx:B} {m n:Nat} {K:V→List B→Prop} (hk:K v (hh++[L])) (e:hh.length=n) (hm:m=n+1) (c:Cl hh) (hb:L'.blo n=true):K v (bset (trunc m [] ((hh++[L'])++[bx])) (n+0) L):=by
 have hl:(hh++[L']).length=m:=by rw [List.length_append,e,hm];rfl
 have c2:Cl (hh++[L']):=c.app (by rw [e];exact hb)
 rw [trunc_one hl rfl (by have:=c2;unfold Cl at this;rw [hl] at this;exact this),bset_lop e]
 exact hk
theorem fB.lop1 {hh:List B} {L L' : B} {n:Nat} {K:List B→Prop} (e:hh.length=n) (hk:∀ h3,h3=hh++[L']→K h3):fB (bset (hh++[L]) (n+0) L') K:=fB.mk (by rw [bset_lop e];exact hk _ rfl)
theorem fB.as {l l' : List B} {K:List B→Prop} (e:l=l') (h:K l'):fB l K:=fB.mk (e ▸ h)
theorem fV.as {l l' : List V} {K:List V→Prop} (e:l=l') (h:K l'):fV l K:=fV.mk (e ▸ h)
theorem fB.gen {h:List B} {n:Nat} {b:B} {K:List B→Prop} (hn:n<h.length) (hc:Cl h) (hb:b.blo h.length=true) (hk:∀ h', Cl h' → h'.length=h.length→bget h' n=some b→(∀ m,n≠m→bget h' m=bget h m)→K h'):fB (bset h n b) K :=
 fB.mk (hk _ (hc.set hb) (bset_len ..) (bget_same hn) fun m hm=>bset_other hm)
theorem fBtr1c {n:Nat} {k:IntKind} {z:Int} {L:List B} {c:B} {K:List B→Prop} (hL:L.length=n) (hc:Cl L) (hk:K L):fB (trunc n [.int k z] (L++[c])) K:=by
 subst hL
 exact fBtr1 (L:=L) rfl rfl hc hk
end Go.Dr.T
