/- Chapter 06: law AlignAll. -/
import Derived.Test.YtfhphjloaelgoaaGreatDoorG8
import Derived.Test.YtfhphjloaelgoaaGreatDoorR06B5
import Derived.Test.YtfhphjloaelgoaaGreatDoorR06A8
import Derived.Test.YtfhphjloaelgoaaGreatDoorG20
import Derived.Test.YtfhphjloaelgoaaGreatDoorG20
namespace Go.Dr.T
theorem vL_get2 {L:List (List (Nat × Nat))} {n:Nat} {l:List (Nat × Nat)} (h:L[n]?=some l):cellAt (L.map vL) (n * 1)=some (vL l):=by
 rw [cellAt_eq,Nat.mul_one,List.getElem?_map,h];rfl
def jrV (x y:El) (s:Int) (l:List (Int × Int)):Int × Int:=if l.any (badQ x.l.length y.l.length)=true then (0,2) else jgF x y s l (-1) (-1) 0
theorem jgV_ok {x y:El} {s:Int} {l:List (Int × Int)} (he:openE x y s=0):jgV x y s l = .tup [.int .i64 (jrV x y s l).1,.int .i64 (jrV x y s l).2]:=by
 unfold jgV jrV
 rw [if_neg (fun h=>h he)]
 split <;> rfl
theorem jrV_best {x y:El} {s:Int} {l:List (Nat × Nat)} (ha:shOk x.l) (hb:shOk y.l) (h:l∈als (shA x.l y.l s) (openT x y s) x.l.length y.l.length 0 0 []):jrV x y s (l.map pI)=(openT x y s 0 0,0):=by
 obtain ⟨c,e⟩:=(als_mem ha hb _ 0 0 l rfl (Nat.zero_le _) (Nat.zero_le _)).1 h
 unfold jrV
 rw [if_neg (by rw [ch_good c];decide)]
 have:=jg_ch (w:=0) c
 rw [Int.zero_add,e] at this
 exact this
theorem jrV_any {x y:El} {s:Int} {l:List (Int × Int)} (ha:shOk x.l) (hb:shOk y.l) (h:(jrV x y s l).2=0):∃ l' : List (Nat × Nat),l=l'.map pI∧(jrV x y s l).1≤openT x y s 0 0∧((jrV x y s l).1=openT x y s 0 0→l' ∈ als (shA x.l y.l s) (openT x y s) x.l.length y.l.length 0 0 []):=by
 unfold jrV at h ⊢
 by_cases hg:l.any (badQ x.l.length y.l.length)=true
 ·rw [if_pos hg] at h;exact absurd h (by decide)
 ·rw [if_neg hg] at h ⊢
  have hg' : l.any (badQ x.l.length y.l.length)=false:=by simpa using hg
  obtain ⟨l', r1,r2,r3⟩:=jg_back (i:=0) (j:=0) (w:=0) ha hb hg' h
  have r4:(jgF x y s l (-1) (-1) 0).1=wo (shA x.l y.l s) l' := by rw [Int.zero_add] at r3;exact r3
  refine ⟨l', r1,?_,fun e=>(als_mem ha hb _ 0 0 l' rfl (Nat.zero_le _) (Nat.zero_le _)).2 ⟨r2,?_⟩⟩
  ·rw [r4];exact ch_le ha hb r2
  ·rw [← r4];exact e
structure DA where
 k:Nat
 f:Bool
theorem pI_inj {a b:List (Nat × Nat)} (h:a.map pI=b.map pI):a=b:=by
 induction a generalizing b with
 | nil =>
  cases b with
  | nil=>rfl
  | cons q b=>simp at h
 | cons p a ih =>
  cases b with
  | nil=>simp at h
  | cons q b =>
   rw [List.map_cons,List.map_cons,List.cons.injEq] at h
   have h1:=h.1
   unfold pI at h1
   rw [Prod.mk.injEq] at h1
   rw [ih h.2,show p=q from Prod.ext (by omega) (by omega)]
set_option maxRecDepth 100000 in
set_option maxHeartbeats 20000000 in
theorem law_all {x y:El} {s m:Int} {l:List (Int × Int)} (hl:l.length≤9223372036854775807):Fun FB2 md 6 [.agg (x.v++y.v),.agg [.int .i64 s,.int .i64 m],.sl false l.length (shC l)] (.bool true):=by
 have hAw:=awake
 have h1:=((best_ok (x:=x) (y:=y) (s:=s)).tab sub1).tab sub2
 have h2:=((all_ok (x:=x) (y:=y) (s:=s) (most:=m)).tab sub1).tab sub2
 have h3:=((judge_ok (c:=false) (x:=x) (y:=y) (s:=s) hl).tab sub1).tab sub2
 unfold bestV2 at h1
 unfold allV at h2
 by_cases he:openE x y s=0
 rotate_left
 ·unfold jgV at h3
  rw [if_pos he] at h1 h2 h3
  generalize openE x y s=e at *
  refine fun_of rfl rfl ?_
  repeat' (first
 | (conv=>whnf)
   first
   | refine Br.t ?_
   | (refine Br.decF ?_ ?_;(focus first | assumption | omega))
   | refine Br.not ?_
   | refine call_fun rfl rfl h1 (.inl rfl) ?_
   | refine call_fun rfl rfl h2 (.inl rfl) ?_
   | refine call_fun rfl rfl h3 (.inl rfl) ?_
   | refine call_fun rfl rfl hAw (.inl rfl) ?_
   | (refine Idx.nat ?_ ?_;(focus omega))
   | (refine Idx.int ?_ ?_ ?_;(focus omega);(focus omega))
   | refine Get.mk _ rfl ?_
   | refine Leaves.of ?_
   | refine Vw.bool ?_
   | (refine Req.mk ?_ ?_;(focus first | rfl | decide | exact ⟨rfl,rfl⟩ | exact ⟨rfl,by decide⟩ | exact (fun _=>rfl) | exact (fun h=>nomatch h) | (simp;done) | omega | (simp [big];done) | exact le_big (by omega) | exact lt_big (by omega))))
  all_goals first | rfl | (exfalso;omega;done) | (simp;done)
 rw [if_neg (fun h=>h he)] at h1 h2
 rw [jgV_ok he] at h3
 obtain ⟨ha,hb,hs⟩:=open_good he
 have hC:cAll (shA x.l y.l s) (openT x y s) x.l.length y.l.length (x.l.length+1) zT 0 0=cT x y s 0 0:=rfl
 rw [hC] at h1
 cases hm:outB m 1 200 with
 | true =>
  rw [hm,if_pos rfl] at h2
  generalize cT x y s 0 0=C at h1
  generalize openT x y s 0 0=W at h1
  generalize jrV x y s l=jr at h3
  refine fun_of rfl rfl ?_
  repeat' (first
 | (conv=>whnf)
   first
   | refine Br.t ?_
   | refine Br.f ?_
   | refine call_fun rfl rfl h1 (.inl rfl) ?_
   | refine call_fun rfl rfl h2 (.inl rfl) ?_
   | refine call_fun rfl rfl h3 (.inl rfl) ?_
   | refine call_fun rfl rfl hAw (.inl rfl) ?_
   | (refine Idx.nat ?_ ?_;(focus omega))
   | (refine Idx.int ?_ ?_ ?_;(focus omega);(focus omega))
   | refine Get.mk _ rfl ?_
   | refine Leaves.of ?_
   | refine Vw.bool ?_
   | (refine Req.mk ?_ ?_;(focus first | rfl | decide | exact ⟨rfl,rfl⟩ | exact ⟨rfl,by decide⟩ | exact (fun _=>rfl) | exact (fun h=>nomatch h) | (simp;done) | omega | (simp [big];done) | exact le_big (by omega) | exact lt_big (by omega))))
  all_goals first | rfl | (exfalso;omega;done) | (simp;done)
 | false =>
  rw [hm,if_neg (by decide)] at h2
  have hmr:1≤m∧m≤200:=by
   unfold outB at hm
   simp at hm
   omega
  have hcnt:=als_count (s:=s) ha hb _ 0 0 rfl (Nat.zero_le _) (Nat.zero_le _)
  have hne:=als_ne (s:=s) ha hb (Nat.zero_le x.l.length) (Nat.zero_le y.l.length)
  have hord:=als_order (s:=s) ha hb _ 0 0 rfl
  have hbest:=fun a=>jrV_best (l:=a) (s:=s) ha hb
  have hany:=jrV_any (l:=l) (s:=s) ha hb
  have hA:allL x y s m=(als (shA x.l y.l s) (openT x y s) x.l.length y.l.length 0 0 []).take m.toNat:=rfl
  have hlen40:∀ a∈als (shA x.l y.l s) (openT x y s) x.l.length y.l.length 0 0 [],a.length≤40:=fun a h=>by
   have:=((als_mem ha hb _ 0 0 a rfl (Nat.zero_le _) (Nat.zero_le _)).1 h).1.len (Nat.zero_le _)
   have:=ha.1
   omega
  rw [hA] at h2
  generalize hA0:als (shA x.l y.l s) (openT x y s) x.l.length y.l.length 0 0 []=A0 at *
  have hjo:∀ a∈A0,Fun FB2 md 26 [elA' x,elA' y,.int .i64 s,vL a] (.tup [.int .i64 (openT x y s 0 0),.int .i64 0]):=fun a h=>by
   have h40:=hlen40 a h
   have:=((judge_ok (c:=decide (a=[])) (x:=x) (y:=y) (s:=s) (l:=a.map pI) (by rw [List.length_map];omega)).tab sub1).tab sub2
   rw [jgV_ok he,hbest a h,List.length_map] at this
   exact this
  have hpa:∀ a∈A0,Fun FB2 md 29 [vL a,.sl false l.length (shC l)] (.bool (decide (a.map pI=l))):=fun a h=>by
   have h40:=hlen40 a h
   have:=((pairsB_ok (c:=decide (a=[])) (d:=false) (a:=a.map pI) (b:=l) (by rw [List.length_map];omega)).tab sub1).tab sub2
   rw [List.length_map] at this
   exact this
  have hbf:∀ a∈A0,∀ b∈A0,bfP a b→Fun FB2 md 28 [vL a,vL b] (.bool true):=fun a h1 b h2 h=>by
   have e1:=hlen40 a h1
   have e2:=hlen40 b h2
   exact ((before_ok2 (c:=decide (a=[])) (d:=decide (b=[])) (by omega) (by omega) h).tab sub1).tab sub2
  clear hbest hlen40
  obtain ⟨mo,rfl⟩:∃ mo:Nat,m=(mo:Int):=⟨m.toNat,by omega⟩
  have e0:((mo:Int)).toNat=mo:=by omega
  rw [e0] at h2
  have hAl:(A0.take mo).length=min mo A0.length:=List.length_take ..
  have hsub:∀ a∈A0.take mo,a∈A0:=fun a h=>List.mem_of_mem_take h
  have hordA:(A0.take mo).Pairwise bfP:=hord.sublist (List.take_sublist _ _)
  have hall:cT x y s 0 0≤mo→A0.take mo=A0:=fun h=>List.take_of_length_le (by omega)
  have hmin:min (cT x y s 0 0) (mo:Int)=((A0.take mo).length:Nat):=by rw [hAl];omega
  have hC1:1≤cT x y s 0 0:=by omega
  have hC2:cT x y s 0 0≤1000000:=by omega
  have hA200:(A0.take mo).length≤200:=by omega
  generalize hT:A0.take mo=A at *
  clear hord hne hcnt
  generalize cT x y s 0 0=C at *
  generalize openT x y s 0 0=W at *
  generalize hjr:jrV x y s l=jr at *
  obtain ⟨n,g⟩:=jr
  dsimp only at *
  unfold vLL at h2
  generalize decide (A=[])=ca at h2
  have hnW:g=0→n≤W:=fun h=>by obtain ⟨l', _,h1,_⟩:=hany h;exact h1
  have hin:g=0→n=W→C≤mo→l∈A.map (·.map pI):=fun h1 h2 h3=>by
   obtain ⟨l', r1,_,r3⟩:=hany h1
   rw [hall h3,r1]
   exact List.mem_map.2 ⟨l', r3 h2,rfl⟩
  clear hany
  refine fun_of rfl rfl ?_
  repeat' (first
 | (conv=>whnf)
   first
   | refine Br.f ?_
   | (refine Br.decT ?_ ?_;(focus first | assumption | omega))
   | (refine Br.decF ?_ ?_;(focus first | assumption | omega))
   | refine Br.dec (fun _ => ?_) (fun _ => ?_)
   | refine Br.not ?_
   | refine call_fun rfl rfl h1 (.inl rfl) ?_
   | refine call_fun rfl rfl h2 (.inl rfl) ?_
   | refine call_fun rfl rfl h3 (.inl rfl) ?_
   | refine Bnd.eq hmin ?_
   | (refine Idx.nat ?_ ?_;(focus omega))
   | (refine Idx.int ?_ ?_ ?_;(focus omega);(focus omega))
   | refine Get.mk _ rfl ?_
   | (refine Req.mk ?_ ?_;(focus first | rfl | decide | exact ⟨rfl,rfl⟩ | exact ⟨rfl,by decide⟩ | exact (fun _=>rfl) | exact (fun h=>nomatch h) | (simp;done) | omega | (simp [big];done) | exact le_big (by omega) | exact lt_big (by omega))))
  all_goals try (exfalso;omega;done)
  all_goals refine LoopP.by (fun a:DA=>a.k≤A.length∧a.f=decide (l∈(A.take a.k).map (·.map pI))) (fun a=>[(14,.bool a.f),(15,.int .i64 (a.k:Nat))]) (fun _=>_) (fun a=>A.length - a.k) ⟨0,false⟩ ⟨Nat.zero_le _,by simp⟩ rfl ?_
  all_goals
   rintro ⟨k,f⟩ ⟨w1,w2⟩
   dsimp only at w1 w2 ⊢
   by_cases hk:k<A.length
   rotate_left
   ·rw [List.take_of_length_le (by omega)] at w2
    have hnf:f=false→¬ (g=0∧n=W∧C≤mo):=fun h q=>by
     rw [h] at w2
     exact (of_decide_eq_false w2.symm) (hin q.1 q.2.1 q.2.2)
    cases f
    ·have hnf' := hnf rfl
     repeat' (first
 | (conv=>whnf)
   first
   | refine Br.t ?_
   | (refine Br.decT ?_ ?_;(focus first | assumption | omega))
   | (refine Br.decF ?_ ?_;(focus first | assumption | omega))
   | refine Br.dec (fun _ => ?_) (fun _ => ?_)
   | refine Br.not ?_
   | refine call_fun rfl rfl hAw (.inl rfl) ?_
   | (refine Idx.nat ?_ ?_;(focus omega))
   | refine Get.mk _ rfl ?_
   | refine Leaves.of ?_
   | refine Vw.bool ?_
   | (refine Req.mk ?_ ?_;(focus first | rfl | decide | exact ⟨rfl,rfl⟩ | exact ⟨rfl,by decide⟩ | exact (fun _=>rfl) | exact (fun h=>nomatch h) | (simp;done) | omega | (simp [big];done) | exact le_big (by omega) | exact lt_big (by omega))))
     all_goals first | rfl | (exfalso;omega;done)
    ·repeat' (first
 | (conv=>whnf)
   first
   | refine Br.t ?_
   | (refine Br.decT ?_ ?_;(focus first | assumption | omega))
   | (refine Br.decF ?_ ?_;(focus first | assumption | omega))
   | refine Br.dec (fun _ => ?_) (fun _ => ?_)
   | refine Br.not ?_
   | refine call_fun rfl rfl hAw (.inl rfl) ?_
   | (refine Idx.nat ?_ ?_;(focus omega))
   | refine Get.mk _ rfl ?_
   | refine Leaves.of ?_
   | refine Vw.bool ?_
   | (refine Req.mk ?_ ?_;(focus first | rfl | decide | exact ⟨rfl,rfl⟩ | exact ⟨rfl,by decide⟩ | exact (fun _=>rfl) | exact (fun h=>nomatch h) | (simp;done) | omega | (simp [big];done) | exact le_big (by omega) | exact lt_big (by omega))))
     all_goals first | rfl | (exfalso;omega;done)
   obtain ⟨a,hak⟩:∃ a,A[k]?=some a:=⟨_,List.getElem?_eq_getElem hk⟩
   have haA:a∈A:=List.mem_of_getElem? hak
   have hac:=vL_get2 hak
   have hja:=hjo a (hsub a haA)
   have hpp:=hpa a (hsub a haA)
   have hk1:k≤A.length - 1:=by omega
   have h0l:0<A.length:=by omega
   have hkw:IntKind.i64.wrap ((k:Int)+1)=((k+1:Nat):Int):=by rw [wrap_i64 (by omega) (by omega)];omega
   have hnx:(f || decide (a.map pI=l))=decide (l∈(A.take (k+1)).map (·.map pI)):=by
    obtain ⟨q1,q2⟩:=List.getElem?_eq_some_iff.1 hak
    rw [← List.take_append_getElem q1,q2,w2]
    simp only [List.map_append,List.mem_append,List.map_cons,List.map_nil,List.mem_singleton,Bool.decide_or]
    congr 1
    exact decide_eq_decide.2 ⟨fun h=>h.symm,fun h=>h.symm⟩
   cases k with
   | zero =>
    cases f
    ·rw [Bool.false_or] at hnx
     repeat' (first
 | (conv=>whnf)
   first
   | refine Bnd.eq hkw ?_
   | refine Idx.nat hk1 ?_
   | refine Br.f ?_
   | (refine Br.decT ?_ ?_;(focus first | assumption | omega))
   | refine Br.not ?_
   | refine Req.mk h0l ?_
   | refine Get.mk _ hac ?_
   | refine call_fun rfl rfl hja (.inl rfl) ?_
   | refine call_fun rfl rfl hpp (.inl rfl) ?_
   | (refine Idx.int ?_ ?_ ?_;(focus omega);(focus omega))
   | refine Get.mk _ rfl ?_
   | (refine Req.mk ?_ ?_;(focus first | rfl | decide | exact ⟨rfl,rfl⟩ | exact ⟨rfl,by decide⟩ | exact (fun _=>rfl) | exact (fun h=>nomatch h) | (simp;done) | omega | (simp [big];done) | exact le_big (by omega) | exact lt_big (by omega))))
     all_goals first | (exfalso;omega;done) | exact NextP.mk (⟨0+1,_⟩:DA) ⟨hk,hnx⟩ (by (try dsimp only);omega) rfl
    ·rw [Bool.true_or] at hnx
     repeat' (first
 | (conv=>whnf)
   first
   | refine Bnd.eq hkw ?_
   | refine Idx.nat hk1 ?_
   | refine Br.t ?_
   | refine Br.f ?_
   | (refine Br.decT ?_ ?_;(focus first | assumption | omega))
   | refine Br.not ?_
   | refine Req.mk h0l ?_
   | refine Get.mk _ hac ?_
   | refine call_fun rfl rfl hja (.inl rfl) ?_
   | (refine Idx.int ?_ ?_ ?_;(focus omega);(focus omega))
   | refine Get.mk _ rfl ?_
   | (refine Req.mk ?_ ?_;(focus first | rfl | decide | exact ⟨rfl,rfl⟩ | exact ⟨rfl,by decide⟩ | exact (fun _=>rfl) | exact (fun h=>nomatch h) | (simp;done) | omega | (simp [big];done) | exact le_big (by omega) | exact lt_big (by omega))))
     all_goals first | (exfalso;omega;done) | exact NextP.mk (⟨0+1,true⟩:DA) ⟨hk,hnx⟩ (by (try dsimp only);omega) rfl
   | succ k =>
    obtain ⟨b,hbk⟩:∃ b,A[k]?=some b:=⟨_,List.getElem?_eq_getElem (by omega)⟩
    have hbA:b∈A:=List.mem_of_getElem? hbk
    have hbc:=vL_get2 hbk
    have hba:=hbf b (hsub b hbA) a (hsub a haA) (by
     obtain ⟨q1,q2⟩:=List.getElem?_eq_some_iff.1 hak
     obtain ⟨q3,q4⟩:=List.getElem?_eq_some_iff.1 hbk
     rw [← q2, ← q4]
     exact (List.pairwise_iff_getElem.1 hordA) k (k+1) q3 q1 (Nat.lt_succ_self k))
    have hkm:IntKind.i64.wrap (((k+1:Nat):Int) - 1)=(k:Int):=by rw [wrap_i64 (by omega) (by omega)];omega
    have hk2:k≤A.length - 1:=by omega
    cases f
    ·rw [Bool.false_or] at hnx
     repeat' (first
 | (conv=>whnf)
   first
   | refine Bnd.eq hkw ?_
   | refine Bnd.eq hkm ?_
   | refine Idx.nat hk1 ?_
   | refine Idx.nat hk2 ?_
   | refine Br.f ?_
   | (refine Br.decT ?_ ?_;(focus first | assumption | omega))
   | refine Br.not ?_
   | refine Req.mk h0l ?_
   | refine Get.mk _ hac ?_
   | refine Get.mk _ hbc ?_
   | refine call_fun rfl rfl hja (.inl rfl) ?_
   | refine call_fun rfl rfl hba (.inl rfl) ?_
   | refine call_fun rfl rfl hpp (.inl rfl) ?_
   | (refine Idx.int ?_ ?_ ?_;(focus omega);(focus omega))
   | refine Get.mk _ rfl ?_
   | (refine Req.mk ?_ ?_;(focus first | rfl | decide | exact ⟨rfl,rfl⟩ | exact ⟨rfl,by decide⟩ | exact (fun _=>rfl) | exact (fun h=>nomatch h) | (simp;done) | omega | (simp [big];done) | exact le_big (by omega) | exact lt_big (by omega))))
     all_goals first | (exfalso;omega;done) | exact NextP.mk (⟨k+1+1,_⟩:DA) ⟨hk,hnx⟩ (by (try dsimp only);omega) rfl
    ·rw [Bool.true_or] at hnx
     repeat' (first
 | (conv=>whnf)
   first
   | refine Bnd.eq hkw ?_
   | refine Bnd.eq hkm ?_
   | refine Idx.nat hk1 ?_
   | refine Idx.nat hk2 ?_
   | refine Br.t ?_
   | refine Br.f ?_
   | (refine Br.decT ?_ ?_;(focus first | assumption | omega))
   | refine Br.not ?_
   | refine Req.mk h0l ?_
   | refine Get.mk _ hac ?_
   | refine Get.mk _ hbc ?_
   | refine call_fun rfl rfl hja (.inl rfl) ?_
   | refine call_fun rfl rfl hba (.inl rfl) ?_
   | (refine Idx.int ?_ ?_ ?_;(focus omega);(focus omega))
   | refine Get.mk _ rfl ?_
   | (refine Req.mk ?_ ?_;(focus first | rfl | decide | exact ⟨rfl,rfl⟩ | exact ⟨rfl,by decide⟩ | exact (fun _=>rfl) | exact (fun h=>nomatch h) | (simp;done) | omega | (simp [big];done) | exact le_big (by omega) | exact lt_big (by omega))))
     all_goals first | (exfalso;omega;done) | exact NextP.mk (⟨k+1+1,true⟩:DA) ⟨hk,hnx⟩ (by (try dsimp only);omega) rfl
theorem ints3_val {v:V} (h:(Ty.agg [.int .i64,.int .i64]).val v):∃ a b:Int,v = .agg [.int .i64 a,.int .i64 b]:=by
 simp only [Ty.val,Ty.hasAll,Ty.has] at h
 obtain ⟨l,rfl,a,b,rfl,⟨n,rfl,_⟩,c,d,rfl,⟨m,rfl,_⟩,rfl⟩:=h
 exact ⟨n,m,rfl⟩
end Go.Dr.T
