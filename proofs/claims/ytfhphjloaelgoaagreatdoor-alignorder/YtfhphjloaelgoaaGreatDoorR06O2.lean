/- Chapter 06: the law AlignOrder. -/
import Derived.Test.YtfhphjloaelgoaaGreatDoorG17
import Derived.Test.YtfhphjloaelgoaaGreatDoorG17
import Derived.Test.YtfhphjloaelgoaaGreatDoorG17
namespace Go.Dr.T
set_option maxRecDepth 100000 in
set_option maxHeartbeats 20000000 in
theorem ixF_ok {c:Bool} {A:List Int} {m:Int} (hl:A.length≤1000000):Fun FB md 38 [.sl c A.length (ofInts A),.int .i64 m] (.int .i64 (ixF m A 0)):=by
 refine fun_of rfl rfl ?_
 skip
 all_goals try (exfalso;omega;done)
 refine LoopP.by (fun i:Nat=>i≤A.length∧ixF m (A.drop i) i=ixF m A 0) (fun i=>[(5,.int .i64 (i:Nat))]) (fun _=>[]) (fun i=>A.length - i) 0 ⟨Nat.zero_le _,rfl⟩ rfl ?_
 rintro i ⟨hi', hx⟩
 dsimp only
 by_cases hi:i<A.length
 rotate_left
 ·rw [List.drop_eq_nil_of_le (by omega)] at hx
  have hx:ixF m A 0 = -1:=hx.symm
  rw [hx]
  repeat' (first
 | (conv=>whnf)
   first
   | (refine Br.decF ?_ ?_;(focus first | assumption | omega))
   | refine Get.mk _ rfl ?_
   | refine Leaves.of ?_
   | refine Vw.int ?_)
  all_goals first | rfl | (exfalso;omega)
 obtain ⟨p,hp,hpp⟩:=ofInts_cell hi
 have hd:A.drop i=p :: A.drop (i+1):=by
  obtain ⟨h1,h2⟩:=List.getElem?_eq_some_iff.1 hp
  rw [List.drop_eq_getElem_cons h1,h2]
 rw [hd,ixF] at hx
 by_cases e:p=m
 ·rw [if_pos e] at hx
  subst e
  rw [← hx]
  repeat' (first
 | (conv=>whnf)
   first
   | (refine Br.decT ?_ ?_;(focus first | assumption | omega))
   | refine Get.mk _ hpp ?_
   | (refine Idx.nat ?_ ?_;(focus omega))
   | refine Get.mk _ rfl ?_
   | refine Leaves.of ?_
   | refine Vw.int ?_
   | (refine Req.mk ?_ ?_;(focus first | rfl | decide | exact ⟨rfl,rfl⟩ | exact ⟨rfl,by decide⟩ | exact (fun _=>rfl) | exact (fun h=>nomatch h) | (simp;done) | omega | (simp [big];done) | exact le_big (by omega) | exact lt_big (by omega))))
  all_goals first | (exfalso;omega;done) | rfl
 ·rw [if_neg e] at hx
  repeat' (first
 | (conv=>whnf)
   first
   | (refine Br.decT ?_ ?_;(focus first | assumption | omega))
   | (refine Br.decF ?_ ?_;(focus first | assumption | omega))
   | (refine Bnd.i64 ?_ ?_ ?_;(focus omega);(focus omega))
   | refine Get.mk _ hpp ?_
   | (refine Idx.nat ?_ ?_;(focus omega))
   | (refine Req.mk ?_ ?_;(focus first | rfl | decide | exact ⟨rfl,rfl⟩ | exact ⟨rfl,by decide⟩ | exact (fun _=>rfl) | exact (fun h=>nomatch h) | (simp;done) | omega | (simp [big];done) | exact le_big (by omega) | exact lt_big (by omega))))
  all_goals first | (exfalso;omega;done) | exact NextP.mk (i+1) ⟨hi,hx⟩ (by omega) rfl
theorem elC_sh:∀ {l:List El} {i:Nat} {x:El},l[i]?=some x→cellAt (elC l) (i * 3+1)=some (.sl x.c x.l.length (shC x.l))
 | y :: l,0,x,h=>by
  rw [List.getElem?_cons_zero,Option.some.injEq] at h
  subst h
  rfl
 | y :: l,i+1,x,h=>by
  rw [List.getElem?_cons_succ] at h
  have:=elC_sh h
  rw [show (i+1) * 3+1=i * 3+1+1+1+1 by omega]
  exact this
theorem nexts_end {x y m:Int} {K:List Int} (hx:1≤x):(x,y)∈nexts (K++[m]) ↔ (x,y)∈nexts K∨(lastM K=x∧m=y):=by
 rw [nexts_snoc,List.mem_append]
 by_cases hK:K=[]
 ·subst hK
  rw [if_pos rfl]
  have:lastM []=0:=rfl
  constructor
  ·rintro (h | h)
   ·exact .inl h
   ·cases h
  ·rintro (h | ⟨h,_⟩)
   ·exact .inl h
   ·omega
 ·rw [if_neg hK,List.mem_singleton,Prod.mk.injEq]
  constructor
  ·rintro (h | ⟨h1,h2⟩)
   ·exact .inl h
   ·exact .inr ⟨h1.symm,h2.symm⟩
  ·rintro (h | ⟨h1,h2⟩)
   ·exact .inl h
   ·exact .inr ⟨h1.symm,h2.symm⟩
def fdB (l:List El) (K:List Int) (x y:Int):Bool:=decide ((x,y)∈dirsOf l∨(x,y)∈nexts K)
theorem fdB_end {l:List El} {K:List Int} {x y m:Int} (hx:1≤x):fdB l (K++[m]) x y=(fdB l K x y || (decide (lastM K=x) && decide (m=y))):=by
 unfold fdB
 rw [Bool.eq_iff_iff]
 simp only [decide_eq_true_eq,Bool.or_eq_true,Bool.and_eq_true,nexts_end hx]
 constructor
 ·rintro (h | h | h)
  ·exact .inl (.inl h)
  ·exact .inl (.inr h)
  ·exact .inr h
 ·rintro ((h | h) | h)
  ·exact .inl h
  ·exact .inr (.inl h)
  ·exact .inr (.inr h)
theorem fdB_el {l:List El} {k:Nat} {e:El} {x y:Int} (h:l[k]?=some e):fdB (l.take k) (known e.l) x y=fdB (l.take (k+1)) [] x y:=by
 unfold fdB
 rw [decide_eq_decide,dirs_snoc h,List.mem_append]
 constructor
 ·exact .inl
 ·rintro (h | h)
  ·exact h
  ·cases h
theorem thJ_end {l:List El} {K:List Int} {m:Nat}:thJ l (K++[(m:Int)])=upB (thJ l K) m true:=by
 funext k
 unfold thJ upB
 by_cases e:k=m
 ·subst e;simp
 ·rw [if_neg e,decide_eq_decide]
  have:¬ (k:Int)=(m:Int):=by omega
  simp [this]
theorem thJ_el {l:List El} {k:Nat} {e:El} (h:l[k]?=some e):thJ (l.take k) (known e.l)=thF (l.take (k+1)):=by
 funext j
 unfold thJ thF
 rw [decide_eq_decide,marks_snoc h,List.mem_append]
theorem thJ_nil {l:List El}:thJ l []=thF l:=by
 funext j
 unfold thJ thF
 simp
def lsI (A K:List Int):Int:=if K=[] then -1 else ixF (lastM K) A 0
theorem nexts_take {l:List (Int × Int)} {n:Nat} {p:Int × Int} (h:l[n]?=some p) (hp:p.1≠0) (hK:known (l.take n)≠[]):(lastM (known (l.take n)),p.1)∈nexts (known l):=by
 have e:=known_snoc h
 rw [if_neg hp] at e
 have h1:∀ j,n+1≤j→(lastM (known (l.take n)),p.1)∈nexts (known (l.take j)):=by
  intro j hj
  induction j with
  | zero=>omega
  | succ j ih =>
   by_cases hc:n+1=j+1
   ·rw [← hc,e,nexts_snoc,if_neg hK]
    simp
   ·have:=ih (by omega)
    cases hq:l[j]? with
    | none =>
     rw [List.getElem?_eq_none_iff] at hq
     rw [List.take_of_length_le (by omega)]
     rwa [List.take_of_length_le (by omega)] at this
    | some q =>
     rw [known_snoc hq]
     split
     ·exact this
     ·rw [nexts_snoc]
      exact List.mem_append_left _ this
 have h2:=h1 (l.length+(n+1)) (by omega)
 rwa [List.take_of_length_le (by omega)] at h2
theorem unsn_bd (sn:Nat→Bool):unsn sn≤1000:=by
 unfold unsn
 have:=List.length_filter_le (fun k => !sn k) (List.range 1000)
 rwa [List.length_range] at this
theorem ofInts_at {l:List Int} {i:Nat} {y:Int} (h:l[i]?=some y):cellAt (ofInts l) (i * 1)=some (.int .i64 y):=by
 obtain ⟨x,h1,h2⟩:=ofInts_cell (List.getElem?_eq_some_iff.1 h).1
 rw [h] at h1
 cases h1
 exact h2
theorem rem_is {i n j:Nat} (h:(i+1) % n=j):((i+1:Nat):Int).tmod (n:Nat)=(j:Nat):=by
 rw [Int.tmod_eq_emod_of_nonneg (by omega), ← Int.natCast_emod,h]
set_option maxRecDepth 100000 in
set_option maxHeartbeats 20000000 in
theorem law_order {c:Bool} {l:List El}:Fun FB2 md 10 [elsV c l] (.bool true):=by
 have h1:=whole_ok (c:=c) (l:=l)
 have h2:=(alnRound_ok (c:=c) (l:=l)).tab sub2
 have h3:=awake
 unfold wholeV at h1
 unfold rndV at h2
 by_cases hv:vldE l=0
 rotate_left
 ·rw [if_pos hv] at h1 h2
  generalize vldE l=e at *
  refine fun_rn rfl rfl ?_
  repeat' (first
 | (conv=>whnf)
   first
   | refine Br.t ?_
   | (refine Br.decT ?_ ?_;(focus first | assumption | omega))
   | (refine Br.decF ?_ ?_;(focus first | assumption | omega))
   | refine Br.not ?_
   | refine Rn.seq ?_
   | refine Rn.cond ?_
   | refine Rn.reg ?_
   | refine Rn.ret ?_
   | refine call_fun rfl rfl h1 (.inl rfl) ?_
   | refine call_fun rfl rfl h2 (.inl rfl) ?_
   | refine call_fun rfl rfl h3 (.inl rfl) ?_
   | refine Get.mk _ rfl ?_
   | refine Leaves.of ?_
   | refine Vw.bool ?_)
  all_goals first | rfl | (exfalso;omega;done) | simp
 have w:=wg_all hv
 rw [if_neg (fun h=>h hv),w.round] at h1
 rw [if_neg (fun h=>h hv)] at h2
 have hst:=fun p (h:rndP l=some p) i hi=>rnd_step hv (p:=p) h (i:=i) hi
 have hne:rndP l≠some []:=round_ne (fun k=>w.ne) _ _ (by simp)
 have hl8:=(vld_good hv).1
 have hel:=fun x (hx:x∈l)=>vld_el hv hx
 rw [show roundP (fun k=>wayP (pAll l) k k k) mks=rndP l from rfl] at h1
 cases hr:rndP l with
 | some p =>
  rw [hr] at h1 h2
  dsimp only [rdV] at h1 h2
  have hst' := fun i hi=>hst p hr i hi
  have hp0:0<p.length:=List.length_pos_iff.2 fun e=>hne (by rw [hr,e])
  have hpl:p.length≤1003:=rndP_len hv hr
  have hq:decide ((0:Int)<(p.length:Nat))=decide ((161:Int)=161):=by rw [decide_eq_true (by omega)];rfl
  clear hst hne hr
  refine fun_rn rfl rfl ?_
  repeat' (first
 | (conv=>whnf)
   first
   | refine Br.f ?_
   | (refine Br.decT ?_ ?_;(focus first | assumption | omega))
   | (refine Br.decF ?_ ?_;(focus first | assumption | omega))
   | refine Br.not ?_
   | refine Rn.seq ?_
   | refine Rn.block ?_
   | refine Rn.cond ?_
   | refine Rn.reg ?_
   | refine Rn.skip ?_
   | refine call_fun rfl rfl h1 (.inl rfl) ?_
   | refine call_fun rfl rfl h2 (.inl rfl) ?_
   | refine Get.mk _ rfl ?_)
  all_goals try (exfalso;omega;done)
  refine Rn.loop (fun i:Nat=>i≤p.length) (fun i=>[(8,.int .i64 (i:Nat))]) (fun _=>[]) (fun i=>p.length - i) 0 (Nat.zero_le _) rfl ?_
  rintro i z1
  try dsimp only
  by_cases hi:i<p.length
  ·obtain ⟨x,y,z,e1,e2,e3,e4,e5,e6⟩:=hst' i hi
   have ga:=ofInts_at e1
   have gb:=ofInts_at e2
   have gc:=ofInts_at e3
   have hml:=Nat.mod_lt (i+1) hp0
   have hnz:(p.length:Int)≠0:=by omega
   have hw1:IntKind.i64.wrap ((i:Int)+1)=((i+1:Nat):Int):=by rw [wrap_i64 (by omega) (by omega)];omega
   have hwr:=rem_is (i:=i) (n:=p.length) rfl
   generalize (i+1) % p.length=j at *
   repeat' (first
 | (conv=>whnf)
   first
   | refine Bnd.eq hwr ?_
   | refine Bnd.eq hw1 ?_
   | (refine Br.decT ?_ ?_;(focus first | assumption | omega))
   | refine Rn.seq ?_
   | refine Rn.block ?_
   | refine Rn.cond ?_
   | refine Rn.reg ?_
   | refine Rn.skip ?_
   | refine Get.mk _ ga ?_
   | refine Get.mk _ gb ?_
   | refine Req.mk hnz ?_
   | (refine Idx.nat ?_ ?_;(focus omega))
   | (refine Req.mk ?_ ?_;(focus first | rfl | decide | exact ⟨rfl,rfl⟩ | exact ⟨rfl,by decide⟩ | exact (fun _=>rfl) | exact (fun h=>nomatch h) | (simp;done) | omega | (simp [big];done) | exact le_big (by omega) | exact lt_big (by omega))))
   all_goals try (exfalso;omega;done)
   refine Rn.loop (fun k:Nat=>k≤l.length) (fun k=>[(11,.bool (fdB (l.take k) [] x y)),(12,.int .i64 (k:Nat))]) (fun _=>[]) (fun k=>l.length - k) 0 (Nat.zero_le _) (by
    have e0:fdB (l.take 0) [] x y=false:=by simp [fdB,dirsOf,nexts]
    rw [e0]
    rfl) ?_
   rintro k y1
   try dsimp only
   by_cases hk:k<l.length
   ·obtain ⟨u,hu⟩:∃ u,l[k]?=some u:=⟨_,List.getElem?_eq_getElem hk⟩
    have gd:=elC_sh hu
    have hul:=hel u (List.mem_of_getElem? hu)
    repeat' (first
 | (conv=>whnf)
   first
   | (refine Br.decT ?_ ?_;(focus first | assumption | omega))
   | refine Rn.seq ?_
   | refine Rn.block ?_
   | refine Rn.cond ?_
   | refine Rn.reg ?_
   | refine Rn.skip ?_)
    all_goals try (exfalso;omega;done)
    refine Rn.loop (fun n:Nat=>n≤u.l.length) (fun n=>[(11,.bool (fdB (l.take k) (known (u.l.take n)) x y)),(13,.int .i64 (lastM (known (u.l.take n)))),(14,.int .i64 (n:Nat))]) (fun _=>[]) (fun n=>u.l.length - n) 0 (Nat.zero_le _) rfl ?_
    rintro n x1
    try dsimp only
    by_cases hn:n<u.l.length
    ·obtain ⟨q,hq'⟩:∃ q,u.l[n]?=some q:=⟨_,List.getElem?_eq_getElem hn⟩
     have ge:=shC_cell hq'
     have hK:=known_snoc hq'
     by_cases hm:q.1=0
     ·rw [if_pos hm] at hK
      repeat' (first
 | (conv=>whnf)
   first
   | (refine Br.decT ?_ ?_;(focus first | assumption | omega))
   | (refine Bnd.i64 ?_ ?_ ?_;(focus omega);(focus omega))
   | refine Rn.seq ?_
   | refine Rn.block ?_
   | refine Rn.cond ?_
   | refine Rn.reg ?_
   | refine Rn.skip ?_
   | refine Rn.exit ?_
   | refine Get.mk _ gd ?_
   | refine Get.mk _ ge ?_
   | (refine Idx.nat ?_ ?_;(focus omega))
   | (refine Req.mk ?_ ?_;(focus first | rfl | decide | exact ⟨rfl,rfl⟩ | exact ⟨rfl,by decide⟩ | exact (fun _=>rfl) | exact (fun h=>nomatch h) | (simp;done) | omega | (simp [big];done) | exact le_big (by omega) | exact lt_big (by omega))))
      all_goals first | (exfalso;omega;done) | exact NextP.mk (n+1) hn (by omega) (by rw [hK];rfl)
     ·rw [if_neg hm] at hK
      have hF:=fdB_end (l:=l.take k) (K:=known (u.l.take n)) (x:=x) (y:=y) (m:=q.1) e5
      rw [← hK] at hF
      have hL:lastM (known (u.l.take (n+1)))=q.1:=by rw [hK];exact lastM_snoc
      generalize known (u.l.take n)=K at *
      cases hf:fdB (l.take k) K x y with
      | true =>
       rw [hf,Bool.true_or] at hF
       repeat' (first
 | (conv=>whnf)
   first
   | refine Br.t ?_
   | (refine Br.decT ?_ ?_;(focus first | assumption | omega))
   | (refine Br.decF ?_ ?_;(focus first | assumption | omega))
   | (refine Bnd.i64 ?_ ?_ ?_;(focus omega);(focus omega))
   | refine Rn.seq ?_
   | refine Rn.block ?_
   | refine Rn.cond ?_
   | refine Rn.reg ?_
   | refine Rn.skip ?_
   | refine Get.mk _ gd ?_
   | refine Get.mk _ ge ?_
   | (refine Idx.nat ?_ ?_;(focus omega))
   | (refine Req.mk ?_ ?_;(focus first | rfl | decide | exact ⟨rfl,rfl⟩ | exact ⟨rfl,by decide⟩ | exact (fun _=>rfl) | exact (fun h=>nomatch h) | (simp;done) | omega | (simp [big];done) | exact le_big (by omega) | exact lt_big (by omega))))
       all_goals first | (exfalso;omega;done) | exact NextP.mk (n+1) hn (by omega) (by rw [hF,hL];rfl)
      | false =>
       rw [hf,Bool.false_or] at hF
       by_cases hc1:lastM K=x
       ·rw [decide_eq_true hc1,Bool.true_and] at hF
        repeat' (first
 | (conv=>whnf)
   first
   | refine Br.f ?_
   | (refine Br.decT ?_ ?_;(focus first | assumption | omega))
   | (refine Br.decF ?_ ?_;(focus first | assumption | omega))
   | (refine Bnd.i64 ?_ ?_ ?_;(focus omega);(focus omega))
   | refine Rn.seq ?_
   | refine Rn.block ?_
   | refine Rn.cond ?_
   | refine Rn.reg ?_
   | refine Rn.skip ?_
   | refine Get.mk _ gd ?_
   | refine Get.mk _ ge ?_
   | (refine Idx.nat ?_ ?_;(focus omega))
   | (refine Req.mk ?_ ?_;(focus first | rfl | decide | exact ⟨rfl,rfl⟩ | exact ⟨rfl,by decide⟩ | exact (fun _=>rfl) | exact (fun h=>nomatch h) | (simp;done) | omega | (simp [big];done) | exact le_big (by omega) | exact lt_big (by omega))))
        all_goals first | (exfalso;omega;done) | exact NextP.mk (n+1) hn (by omega) (by rw [hF,hL];rfl)
       ·rw [decide_eq_false hc1,Bool.false_and] at hF
        repeat' (first
 | (conv=>whnf)
   first
   | refine Br.f ?_
   | (refine Br.decT ?_ ?_;(focus first | assumption | omega))
   | (refine Br.decF ?_ ?_;(focus first | assumption | omega))
   | (refine Bnd.i64 ?_ ?_ ?_;(focus omega);(focus omega))
   | refine Rn.seq ?_
   | refine Rn.block ?_
   | refine Rn.cond ?_
   | refine Rn.reg ?_
   | refine Rn.skip ?_
   | refine Get.mk _ gd ?_
   | refine Get.mk _ ge ?_
   | (refine Idx.nat ?_ ?_;(focus omega))
   | (refine Req.mk ?_ ?_;(focus first | rfl | decide | exact ⟨rfl,rfl⟩ | exact ⟨rfl,by decide⟩ | exact (fun _=>rfl) | exact (fun h=>nomatch h) | (simp;done) | omega | (simp [big];done) | exact le_big (by omega) | exact lt_big (by omega))))
        all_goals first | (exfalso;omega;done) | exact NextP.mk (n+1) hn (by omega) (by rw [hF,hL];rfl)
    ·have hne' : n=u.l.length:=by omega
     subst hne'
     rw [List.take_length,fdB_el hu]
     repeat' (first
 | (conv=>whnf)
   first
   | (refine Br.decF ?_ ?_;(focus first | assumption | omega))
   | (refine Bnd.i64 ?_ ?_ ?_;(focus omega);(focus omega))
   | refine Rn.seq ?_
   | refine Rn.cond ?_
   | refine Rn.reg ?_
   | refine Rn.exit ?_
   | refine Get.mk _ gd ?_
   | (refine Idx.nat ?_ ?_;(focus omega))
   | (refine Req.mk ?_ ?_;(focus first | rfl | decide | exact ⟨rfl,rfl⟩ | exact ⟨rfl,by decide⟩ | exact (fun _=>rfl) | exact (fun h=>nomatch h) | (simp;done) | omega | (simp [big];done) | exact le_big (by omega) | exact lt_big (by omega))))
     all_goals first | (exfalso;omega;done) | exact NextP.mk (k+1) hk (by omega) rfl
   ·have hke:k=l.length:=by omega
    subst hke
    rw [List.take_length]
    have hft:fdB l [] x y=true:=by unfold fdB;rw [decide_eq_true_eq];exact .inl e4
    rw [hft]
    repeat' (first
 | (conv=>whnf)
   first
   | refine Bnd.eq hw1 ?_
   | refine Br.f ?_
   | (refine Br.decF ?_ ?_;(focus first | assumption | omega))
   | refine Rn.seq ?_
   | refine Rn.cond ?_
   | refine Rn.reg ?_
   | refine Rn.skip ?_
   | refine Rn.exit ?_
   | refine Get.mk _ gc ?_
   | (refine Idx.int ?_ ?_ ?_;(focus omega);(focus omega))
   | (refine Req.mk ?_ ?_;(focus first | rfl | decide | exact ⟨rfl,rfl⟩ | exact ⟨rfl,by decide⟩ | exact (fun _=>rfl) | exact (fun h=>nomatch h) | (simp;done) | omega | (simp [big];done) | exact le_big (by omega) | exact lt_big (by omega))))
    all_goals first | (exfalso;omega;done) | exact NextP.mk (i+1) hi (by omega) rfl
  ·repeat' (first
 | (conv=>whnf)
   first
   | (refine Br.decF ?_ ?_;(focus first | assumption | omega))
   | refine Rn.seq ?_
   | refine Rn.block ?_
   | refine Rn.cond ?_
   | refine Rn.reg ?_
   | refine Rn.exit ?_)
   all_goals try (exfalso;omega;done)
   refine Rn.loop (fun i:Nat=>i=0) (fun i=>[(16,.int .i64 (i:Nat))]) (fun _=>[]) (fun i=>i) 0 rfl rfl ?_
   rintro i rfl
   try dsimp only
   repeat' (first
 | (conv=>whnf)
   first
   | refine Br.f ?_
   | refine Rn.seq ?_
   | refine Rn.block ?_
   | refine Rn.cond ?_
   | refine Rn.reg ?_
   | refine Rn.exit ?_
   | (refine Idx.int ?_ ?_ ?_;(focus omega);(focus omega))
   | (refine Idx.int ?_ ?_ ?_;(focus decide);(focus decide))
   | refine Get.mk _ rfl ?_
   | (refine Req.mk ?_ ?_;(focus first | rfl | decide | exact ⟨rfl,rfl⟩ | exact ⟨rfl,by decide⟩ | exact (fun _=>rfl) | exact (fun h=>nomatch h) | (simp;done) | omega | (simp [big];done) | exact le_big (by omega) | exact lt_big (by omega))))
   all_goals try (exfalso;omega;done)
   refine Rn.loop (fun i:Nat=>i=0) (fun i=>[(17,.int .i64 0),(19,.int .i64 (i:Nat))]) (fun _=>[B.blk (boC 1000 fun _=>false) true]) (fun i=>i) 0 rfl (by rw [← boC_zero];rfl) ?_
   rintro i rfl
   try dsimp only
   repeat' (first
 | (conv=>whnf)
   first
   | refine Br.t ?_
   | refine Br.f ?_
   | (refine Br.decT ?_ ?_;(focus first | assumption | omega))
   | (refine Br.decF ?_ ?_;(focus first | assumption | omega))
   | refine Br.dec (fun _ => ?_) (fun _ => ?_)
   | refine Rn.seq ?_
   | refine Rn.cond ?_
   | refine Rn.reg ?_
   | refine Rn.exit ?_
   | refine Rn.ret ?_
   | refine call_fun rfl rfl h3 (.inl rfl) ?_
   | refine Get.mk _ rfl ?_
   | refine Leaves.of ?_
   | refine Vw.bool ?_)
   all_goals try (exfalso;omega;done)
   all_goals rfl
 | none =>
  obtain ⟨A,hA⟩:=w.order (by rw [w.round];exact hr)
  have ok:=order_ok hv hA
  have hcn:=ok.cnt hv
  rw [hr,hA] at h1
  rw [hr] at h2
  dsimp only [rdV] at h1 h2
  obtain ⟨d,hd⟩:=lw_sl A
  rw [hd] at h1
  generalize onlyN _ A A.length=o at h1
  clear hst hne hr hA
  refine fun_rn rfl rfl ?_
  repeat' (first
 | (conv=>whnf)
   first
   | refine Br.t ?_
   | refine Br.f ?_
   | refine Rn.seq ?_
   | refine Rn.block ?_
   | refine Rn.cond ?_
   | refine Rn.reg ?_
   | refine Rn.skip ?_
   | refine call_fun rfl rfl h1 (.inl rfl) ?_
   | refine call_fun rfl rfl h2 (.inl rfl) ?_
   | refine Get.mk _ rfl ?_)
  all_goals try (exfalso;omega;done)
  refine Rn.loop (fun i:Nat=>i=0) (fun i=>[(8,.int .i64 (i:Nat))]) (fun _=>[]) (fun i=>i) 0 rfl rfl ?_
  rintro i rfl
  try dsimp only
  repeat' (first
 | (conv=>whnf)
   first
   | refine Br.f ?_
   | refine Rn.seq ?_
   | refine Rn.block ?_
   | refine Rn.cond ?_
   | refine Rn.reg ?_
   | refine Rn.exit ?_)
  all_goals try (exfalso;omega;done)
  refine Rn.loop (fun i:Nat=>i≤A.length) (fun i=>[(16,.int .i64 (i:Nat))]) (fun _=>[]) (fun i=>A.length - i) 0 (Nat.zero_le _) rfl ?_
  rintro i z1
  try dsimp only
  by_cases hi:i<A.length
  ·obtain ⟨m,hm,ga⟩:=ofInts_cell hi
   have h4:=((ixF_ok (c:=d) (A:=A) (m:=m) (by omega)).tab sub1).tab sub2
   rw [ixF_get ok.nd hm,Nat.zero_add] at h4
   repeat' (first
 | (conv=>whnf)
   first
   | (refine Br.decT ?_ ?_;(focus first | assumption | omega))
   | refine Br.not ?_
   | (refine Bnd.i64 ?_ ?_ ?_;(focus omega);(focus omega))
   | refine Rn.seq ?_
   | refine Rn.block ?_
   | refine Rn.cond ?_
   | refine Rn.reg ?_
   | refine Rn.skip ?_
   | refine call_fun rfl rfl h4 (.inl rfl) ?_
   | refine Get.mk _ ga ?_
   | (refine Idx.nat ?_ ?_;(focus omega))
   | (refine Req.mk ?_ ?_;(focus first | rfl | decide | exact ⟨rfl,rfl⟩ | exact ⟨rfl,by decide⟩ | exact (fun _=>rfl) | exact (fun h=>nomatch h) | (simp;done) | omega | (simp [big];done) | exact le_big (by omega) | exact lt_big (by omega))))
   all_goals first | (exfalso;omega;done) | exact NextP.mk (i+1) hi (by omega) rfl
  repeat' (first
 | (conv=>whnf)
   first
   | (refine Br.decF ?_ ?_;(focus first | assumption | omega))
   | refine Rn.seq ?_
   | refine Rn.block ?_
   | refine Rn.cond ?_
   | refine Rn.reg ?_
   | refine Rn.exit ?_
   | (refine Idx.int ?_ ?_ ?_;(focus omega);(focus omega))
   | (refine Idx.int ?_ ?_ ?_;(focus decide);(focus decide))
   | refine Get.mk _ rfl ?_
   | (refine Req.mk ?_ ?_;(focus first | rfl | decide | exact ⟨rfl,rfl⟩ | exact ⟨rfl,by decide⟩ | exact (fun _=>rfl) | exact (fun h=>nomatch h) | (simp;done) | omega | (simp [big];done) | exact le_big (by omega) | exact lt_big (by omega))))
  all_goals try (exfalso;omega;done)
  refine Rn.loop (fun k:Nat=>k≤l.length) (fun k=>[(17,.int .i64 ((1000 - unsn (thF (l.take k)):Nat):Int)),(19,.int .i64 (k:Nat))]) (fun k=>[B.blk (boC 1000 (thF (l.take k))) true]) (fun k=>l.length - k) 0 (Nat.zero_le _) (by
   have e0:thF (l.take 0)=fun _=>false:=by funext j;simp [thF,marksOf]
   rw [e0, ← boC_zero]
   rfl) ?_
  rintro k y1
  try dsimp only
  by_cases hk:k<l.length
  ·obtain ⟨u,hu⟩:∃ u,l[k]?=some u:=⟨_,List.getElem?_eq_getElem hk⟩
   have gd:=elC_sh hu
   have hul:=hel u (List.mem_of_getElem? hu)
   repeat' (first
 | (conv=>whnf)
   first
   | refine Br.t ?_
   | (refine Br.decT ?_ ?_;(focus first | assumption | omega))
   | refine Rn.seq ?_
   | refine Rn.block ?_
   | refine Rn.cond ?_
   | refine Rn.reg ?_
   | refine Rn.skip ?_)
   all_goals try (exfalso;omega;done)
   refine Rn.loop (fun n:Nat=>n≤u.l.length) (fun n=>[(17,.int .i64 ((1000 - unsn (thJ (l.take k) (known (u.l.take n))):Nat):Int)),(20,.int .i64 (lsI A (known (u.l.take n)))),(21,.int .i64 (n:Nat))]) (fun n=>[B.blk (boC 1000 (thJ (l.take k) (known (u.l.take n)))) true]) (fun n=>u.l.length - n) 0 (Nat.zero_le _) (by
    rw [show known (u.l.take 0)=[] from rfl,thJ_nil]
    rfl) ?_
   rintro n x1
   try dsimp only
   by_cases hn:n<u.l.length
   ·obtain ⟨q,hq'⟩:∃ q,u.l[n]?=some q:=⟨_,List.getElem?_eq_getElem hn⟩
    have ge:=shC_cell hq'
    have hK:=known_snoc hq'
    have hqr:=hul.2 q (List.mem_of_getElem? hq')
    by_cases hm:q.1=0
    ·rw [if_pos hm] at hK
     repeat' (first
 | (conv=>whnf)
   first
   | refine Br.t ?_
   | (refine Br.decT ?_ ?_;(focus first | assumption | omega))
   | (refine Bnd.i64 ?_ ?_ ?_;(focus omega);(focus omega))
   | refine Rn.seq ?_
   | refine Rn.block ?_
   | refine Rn.cond ?_
   | refine Rn.reg ?_
   | refine Rn.skip ?_
   | refine Rn.exit ?_
   | refine Get.mk _ gd ?_
   | refine Get.mk _ ge ?_
   | (refine Idx.nat ?_ ?_;(focus omega))
   | (refine Req.mk ?_ ?_;(focus first | rfl | decide | exact ⟨rfl,rfl⟩ | exact ⟨rfl,by decide⟩ | exact (fun _=>rfl) | exact (fun h=>nomatch h) | (simp;done) | omega | (simp [big];done) | exact le_big (by omega) | exact lt_big (by omega))))
     all_goals first | (exfalso;omega;done) | exact NextP.mk (n+1) hn (by omega) (by rw [hK];rfl)
    ·rw [if_neg hm] at hK
     obtain ⟨m,hm'⟩:∃ m:Nat,q.1=(m:Int):=⟨q.1.toNat,by omega⟩
     have hmem:q.1∈marksOf l:=List.mem_flatMap.2 ⟨u,List.mem_of_getElem? hu,List.mem_filter.2 ⟨List.mem_map.2 ⟨q,List.mem_of_getElem? hq', rfl⟩,by simpa using hm⟩⟩
     obtain ⟨j,hj1,hj2⟩:=ok.ix hmem
     have hjl:=(List.getElem?_eq_some_iff.1 hj1).1
     have hls:lsI A (known (u.l.take n))<(j:Nat):=by
      unfold lsI
      split
      ·omega
      ·rename_i hKn
       have:=ok.up (List.mem_flatMap.2 ⟨u,List.mem_of_getElem? hu,nexts_take hq' hm hKn⟩)
       rw [hj2] at this
       exact this
     have hL:lsI A (known (u.l.take (n+1)))=(j:Nat):=by
      rw [hK,lsI,if_neg (by simp),lastM_snoc,hj2]
     have h4:=((ixF_ok (c:=d) (A:=A) (m:=q.1) (by omega)).tab sub1).tab sub2
     rw [hj2] at h4
     have hJ:thJ (l.take k) (known (u.l.take (n+1)))=upB (thJ (l.take k) (known (u.l.take n))) m true:=by rw [hK,hm', thJ_end]
     rw [hm'] at h4 ge
     have hml:m<1000:=by omega
     have gb:=boC_get (f:=thJ (l.take k) (known (u.l.take n))) hml
     have hlr:(boC 1000 (thJ (l.take k) (known (u.l.take n)))).length=1000 * 1:=by rw [boC_len]
     generalize known (u.l.take n)=K at *
     have hul1:=unsn_bd (thJ (l.take k) K)
     cases hs:thJ (l.take k) K m with
     | true =>
      have hJ' : thJ (l.take k) (known (u.l.take (n+1)))=thJ (l.take k) K:=by
       rw [hJ]
       funext i
       unfold upB
       split
       ·rename_i e;rw [e,hs]
       ·rfl
      rw [hs] at gb
      repeat' (first
 | (conv=>whnf)
   first
   | refine Br.f ?_
   | (refine Br.decT ?_ ?_;(focus first | assumption | omega))
   | (refine Br.decF ?_ ?_;(focus first | assumption | omega))
   | (refine Bnd.i64 ?_ ?_ ?_;(focus omega);(focus omega))
   | refine Rn.seq ?_
   | refine Rn.block ?_
   | refine Rn.cond ?_
   | refine Rn.reg ?_
   | refine Rn.skip ?_
   | refine call_fun rfl rfl h4 (.inl rfl) ?_
   | refine Get.mk _ gb ?_
   | refine Get.mk _ gd ?_
   | refine Get.mk _ ge ?_
   | refine Req.mk hlr ?_
   | (refine Idx.nat ?_ ?_;(focus omega))
   | refine Get.mk _ rfl ?_
   | (refine Req.mk ?_ ?_;(focus first | rfl | decide | exact ⟨rfl,rfl⟩ | exact ⟨rfl,by decide⟩ | exact (fun _=>rfl) | exact (fun h=>nomatch h) | (simp;done) | omega | (simp [big];done) | exact le_big (by omega) | exact lt_big (by omega))))
      all_goals first | (exfalso;omega;done) | exact NextP.mk (n+1) hn (by omega) (by rw [hL,hJ'];rfl)
     | false =>
      rw [hs] at gb
      have hup:=unsn_up hml hs
      have hov:over (boC 1000 (thJ (l.take k) K)) (0+m * 1) [.bool true]=boC 1000 (upB (thJ (l.take k) K) m true):=boC_set hml
      have hln:(boC 1000 (thJ (l.take k) K)).length=1000 * 1∧0+m * 1+1≤(boC 1000 (thJ (l.take k) K)).length:=by rw [boC_len];omega
      have hwr:IntKind.i64.wrap (((1000 - unsn (thJ (l.take k) K):Nat):Int)+1)=((1000 - unsn (upB (thJ (l.take k) K) m true):Nat):Int):=by rw [wrap_i64 (by omega) (by omega)];omega
      repeat' (first
 | (conv=>whnf)
   first
   | refine Bnd.eq hwr ?_
   | refine Br.t ?_
   | (refine Br.decT ?_ ?_;(focus first | assumption | omega))
   | (refine Br.decF ?_ ?_;(focus first | assumption | omega))
   | (refine Bnd.i64 ?_ ?_ ?_;(focus omega);(focus omega))
   | refine Rn.seq ?_
   | refine Rn.block ?_
   | refine Rn.cond ?_
   | refine Rn.reg ?_
   | refine Rn.skip ?_
   | refine call_fun rfl rfl h4 (.inl rfl) ?_
   | refine Get.mk _ gb ?_
   | refine Get.mk _ gd ?_
   | refine Get.mk _ ge ?_
   | refine Req.mk hlr ?_
   | refine Req.mk hln ?_
   | refine fVg' hov ?_
   | (refine Idx.nat ?_ ?_;(focus omega))
   | refine Get.mk _ rfl ?_
   | (refine Req.mk ?_ ?_;(focus first | rfl | decide | exact ⟨rfl,rfl⟩ | exact ⟨rfl,by decide⟩ | exact (fun _=>rfl) | exact (fun h=>nomatch h) | (simp;done) | omega | (simp [big];done) | exact le_big (by omega) | exact lt_big (by omega))))
      all_goals first | (exfalso;omega;done) | exact NextP.mk (n+1) hn (by omega) (by rw [hL,hJ];rfl)
   ·have hne' : n=u.l.length:=by omega
    subst hne'
    rw [List.take_length,thJ_el hu]
    repeat' (first
 | (conv=>whnf)
   first
   | (refine Br.decF ?_ ?_;(focus first | assumption | omega))
   | (refine Bnd.i64 ?_ ?_ ?_;(focus omega);(focus omega))
   | refine Rn.seq ?_
   | refine Rn.cond ?_
   | refine Rn.reg ?_
   | refine Rn.exit ?_
   | refine Get.mk _ gd ?_
   | (refine Idx.nat ?_ ?_;(focus omega))
   | (refine Req.mk ?_ ?_;(focus first | rfl | decide | exact ⟨rfl,rfl⟩ | exact ⟨rfl,by decide⟩ | exact (fun _=>rfl) | exact (fun h=>nomatch h) | (simp;done) | omega | (simp [big];done) | exact le_big (by omega) | exact lt_big (by omega))))
    all_goals first | (exfalso;omega;done) | exact NextP.mk (k+1) hk (by omega) rfl
  ·have hke:k=l.length:=by omega
   subst hke
   rw [List.take_length]
   have hcc:1000 - unsn (thF l)=A.length:=by omega
   rw [hcc]
   repeat' (first
 | (conv=>whnf)
   first
   | refine Br.f ?_
   | (refine Br.decT ?_ ?_;(focus first | assumption | omega))
   | (refine Br.decF ?_ ?_;(focus first | assumption | omega))
   | refine Rn.seq ?_
   | refine Rn.cond ?_
   | refine Rn.reg ?_
   | refine Rn.exit ?_
   | refine Rn.ret ?_
   | refine call_fun rfl rfl h3 (.inl rfl) ?_
   | refine Get.mk _ rfl ?_
   | refine Leaves.of ?_
   | refine Vw.bool ?_)
   all_goals first | (exfalso;omega;done) | rfl | simp
end Go.Dr.T
