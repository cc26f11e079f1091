/- Chapter 06: law AlignOnly. -/
import Derived.Test.YtfhphjloaelgoaaGreatDoorG11
import Derived.Test.YtfhphjloaelgoaaGreatDoorG11
import Derived.Test.YtfhphjloaelgoaaGreatDoorG11
import Derived.Test.YtfhphjloaelgoaaGreatDoorG11
import Derived.Test.YtfhphjloaelgoaaGreatDoorR06B5
import Derived.Test.YtfhphjloaelgoaaGreatDoorR06S2
import Derived.Test.YtfhphjloaelgoaaGreatDoorR06A8
import Derived.Test.YtfhphjloaelgoaaGreatDoorG23
import Derived.Test.YtfhphjloaelgoaaGreatDoorG23
namespace Go.Dr.T
theorem vL_get3 {L:List (List (Nat × Nat))} {n:Nat} {l:List (Nat × Nat)} (h:L[n]?=some l):cellAt (L.map vL) (n * 1)=some (vL l):=by
 rw [cellAt_eq,Nat.mul_one,List.getElem?_map,h];rfl
structure SuOk (A0:List (List (Nat × Nat))) (M S:List (Int × Int)):Prop where
 m:∀ p,p∈M ↔ ∃ q:Nat × Nat,p=pI q∧∃ l∈A0,q∈l
 s:∀ p,p∈S ↔ p∈M∧∀ l∈A0,p∈l.map pI
 om:M.Pairwise ltI
 os:S.Pairwise ltI
 lm:M.length≤1600
 ls:S.length≤1600
theorem pI_mem {q:Nat × Nat} {l:List (Nat × Nat)}:pI q∈l.map pI ↔ q∈l:=by
 constructor
 ·intro h
  obtain ⟨r,hr,e⟩:=List.mem_map.1 h
  unfold pI at e
  rw [Prod.mk.injEq] at e
  rw [show q=r from Prod.ext (by omega) (by omega)]
  exact hr
 ·exact fun h=>List.mem_map.2 ⟨q,h,rfl⟩
theorem su_ok {x y:El} {s:Int} (ha:shOk x.l) (hb:shOk y.l):SuOk (alsA x y s) (surelyS x y s).M (surelyS x y s).S:=by
 have hss:=surely_same (s:=s) ha hb
 rw [rSurely_eq,Prod.mk.injEq] at hss
 rw [hss.1,hss.2]
 have hm:∀ p,p∈grid (cM (openT x y s) (vT (shA x.l y.l s)) (shA x.l y.l s)) x.l.length y.l.length ↔ ∃ q:Nat × Nat,p=pI q∧∃ l∈alsA x y s,q∈l:=fun p=>by
  rw [grid_mem]
  constructor
  ·rintro ⟨i,j,hi,hj,hc,rfl⟩
   exact ⟨(i,j),rfl,(may_iff (p:=(i,j)) ha hb hi hj).1 hc⟩
  ·rintro ⟨q,rfl,l,hl,hq⟩
   obtain ⟨c,_⟩:=(alsA_mem ha hb).1 hl
   obtain ⟨l1,l2,rfl⟩:=List.append_of_mem hq
   obtain ⟨_,_,_,h1,h2,_,_⟩:=c.part
   exact ⟨q.1,q.2,h1,h2,(may_iff ha hb h1 h2).2 ⟨_,hl,by simp⟩,rfl⟩
 refine ⟨hm,fun p => ?_,grid_order,grid_order,grid_le ha.1 hb.1,grid_le ha.1 hb.1⟩
 rw [grid_mem,grid_mem]
 constructor
 ·rintro ⟨i,j,hi,hj,hc,rfl⟩
  unfold cS at hc
  rw [Bool.and_eq_true,decide_eq_true_iff] at hc
  exact ⟨⟨i,j,hi,hj,hc.1,rfl⟩,fun l hl=>pI_mem.2 ((sure_iff (p:=(i,j)) ha hb).1 hc.2 l hl)⟩
 ·rintro ⟨⟨i,j,hi,hj,hc,rfl⟩,h⟩
  refine ⟨i,j,hi,hj,?_,rfl⟩
  unfold cS
  rw [Bool.and_eq_true,decide_eq_true_iff]
  exact ⟨hc,(sure_iff (p:=(i,j)) ha hb).2 fun l hl=>(pI_mem (q:=(i,j))).1 (h l hl)⟩
theorem su_one {a:List (Nat × Nat)} {M S:List (Int × Int)} (h:SuOk [a] M S) (ho:(a.map pI).Pairwise ltI):M=a.map pI∧S=a.map pI:=by
 have irr:∀ p:Int × Int,¬ ltI p p:=fun p h=>by unfold ltI at h;omega
 have asy:∀ p q:Int × Int,ltI p q→¬ ltI q p:=fun p q h1 h2=>by unfold ltI at h1 h2;omega
 have hm:∀ p,p∈M ↔ p∈a.map pI:=fun p=>by
  rw [h.m]
  constructor
  ·rintro ⟨q,rfl,l,hl,hq⟩
   rw [List.mem_singleton] at hl
   subst hl
   exact pI_mem.2 hq
  ·intro hp
   obtain ⟨q,hq,rfl⟩:=List.mem_map.1 hp
   exact ⟨q,rfl,a,by simp,hq⟩
 refine ⟨sorted_eq irr asy h.om ho hm,sorted_eq irr asy h.os ho fun p => ?_⟩
 rw [h.s,hm]
 simp
structure EA where
 k:Nat
 f:Bool
 g:Bool
set_option maxRecDepth 100000 in
set_option maxHeartbeats 20000000 in
theorem law_only {x y:El} {s:Int}:Fun FB2 md 15 [.agg (x.v++y.v),.int .i64 s] (.bool true):=by
 have hAw:=awake
 have h1:=((best_ok (x:=x) (y:=y) (s:=s)).tab sub1).tab sub2
 have h2:=((all_ok (x:=x) (y:=y) (s:=s) (most:=200)).tab sub1).tab sub2
 have h3:=((surely_ok (x:=x) (y:=y) (s:=s)).tab sub1).tab sub2
 unfold bestV2 at h1
 unfold allV at h2
 unfold surelyV at h3
 by_cases he:openE x y s=0
 rotate_left
 ·rw [if_pos he] at h1 h2 h3
  generalize openE x y s=e at *
  refine fun_of rfl rfl ?_
  repeat' (first
 | (conv=>whnf)
   first
   | refine Br.t ?_
   | (refine Br.decT ?_ ?_;(focus first | assumption | omega))
   | (refine Br.decF ?_ ?_;(focus first | assumption | omega))
   | refine Br.not ?_
   | refine call_fun rfl rfl h1 (.inl rfl) ?_
   | refine call_fun rfl rfl h2 (.inl rfl) ?_
   | refine call_fun rfl rfl h3 (.inl rfl) ?_
   | refine call_fun rfl rfl hAw (.inl rfl) ?_
   | refine Get.mk _ rfl ?_
   | refine Leaves.of ?_
   | refine Vw.bool ?_
   | (refine Req.mk ?_ ?_;(focus first | rfl | decide | exact ⟨rfl,rfl⟩ | exact ⟨rfl,by decide⟩ | exact (fun _=>rfl) | exact (fun h=>nomatch h) | (simp;done) | omega | (simp [big];done) | exact le_big (by omega) | exact lt_big (by omega))))
  all_goals first | rfl | (exfalso;omega;done) | (simp;done)
 rw [if_neg (fun h=>h he)] at h1 h2 h3
 obtain ⟨ha,hb,hs⟩:=open_good he
 have hm:outB 200 1 200=false:=rfl
 rw [hm,if_neg (c:=false=true) (by decide)] at h2
 have hC:cAll (shA x.l y.l s) (openT x y s) x.l.length y.l.length (x.l.length+1) zT 0 0=cT x y s 0 0:=rfl
 rw [hC] at h1
 have hcnt:cT x y s 0 0=min 1000000 ((alsA x y s).length:Int):=als_count (s:=s) ha hb _ 0 0 rfl (Nat.zero_le _) (Nat.zero_le _)
 have hne:0<(alsA x y s).length:=als_ne (s:=s) ha hb (Nat.zero_le x.l.length) (Nat.zero_le y.l.length)
 have hsu:=su_ok (s:=s) ha hb
 have hA:allL x y s 200=(alsA x y s).take 200:=rfl
 rw [hA] at h2
 have hord:∀ a∈alsA x y s,(a.map pI).Pairwise ltI:=fun a h=>(ch_order ((alsA_mem ha hb).1 h).1).1
 have hlen40:∀ a∈alsA x y s,a.length≤40:=fun a h=>by
  have:=((alsA_mem ha hb).1 h).1.len (Nat.zero_le _)
  have:=ha.1
  omega
 generalize alsA x y s=A0 at *
 generalize (surelyS x y s).M=M at *
 generalize (surelyS x y s).S=Sg at *
 obtain ⟨cM', hcM⟩:=lsP_eq M
 obtain ⟨cS', hcS⟩:=lsP_eq Sg
 rw [hcM,hcS] at h3
 have hlm:=hsu.lm
 have hls:=hsu.ls
 have hsub:∀ a∈A0.take 200,a∈A0:=fun a h=>List.mem_of_mem_take h
 have hasM:=fun a b=>((has_ok (c:=cM') (l:=M) (a:=a) (b:=b) (by omega)).tab sub1).tab sub2
 have hasS:=fun a b=>((has_ok (c:=cS') (l:=Sg) (a:=a) (b:=b) (by omega)).tab sub1).tab sub2
 have hasA:∀ a∈A0,∀ p q,Fun FB2 md 47 [vL a,.agg [.int .i64 p,.int .i64 q]] (.bool (decide ((p,q)∈a.map pI))):=fun a h p q=>by
  have h40:=hlen40 a h
  have:=((has_ok (c:=decide (a=[])) (l:=a.map pI) (a:=p) (b:=q) (by rw [List.length_map];omega)).tab sub1).tab sub2
  rw [List.length_map] at this
  exact this
 have hAl:(A0.take 200).length=min 200 A0.length:=List.length_take ..
 have hall:cT x y s 0 0≤(A0.take 200).length→A0.take 200=A0:=fun h=>List.take_of_length_le (by omega)
 have hone:cT x y s 0 0=1→∃ a,A0=[a]:=fun h=>by
  have:A0.length=1:=by omega
  match A0,this with
  | [a],_=>exact ⟨a,rfl⟩
 have hA200:(A0.take 200).length≤200:=by omega
 have hCA' : cT x y s 0 0≤200→cT x y s 0 0≤(A0.take 200).length:=by omega
 have hC2:1≤cT x y s 0 0∧cT x y s 0 0≤1000000:=by omega
 clear hcnt hne
 generalize hT:A0.take 200=A at *
 generalize cT x y s 0 0=C at *
 generalize openT x y s 0 0=W at *
 unfold vLL at h2
 generalize decide (A=[])=ca at h2
 refine fun_of rfl rfl ?_
 repeat' (first
 | (conv=>whnf)
   first
   | refine Br.f ?_
   | refine call_fun rfl rfl h1 (.inl rfl) ?_
   | refine call_fun rfl rfl h2 (.inl rfl) ?_
   | refine call_fun rfl rfl h3 (.inl rfl) ?_
   | refine Get.mk _ rfl ?_
   | (refine Req.mk ?_ ?_;(focus first | rfl | decide | exact ⟨rfl,rfl⟩ | exact ⟨rfl,by decide⟩ | exact (fun _=>rfl) | exact (fun h=>nomatch h) | (simp;done) | omega | (simp [big];done) | exact le_big (by omega) | exact lt_big (by omega))))
 all_goals try (exfalso;omega;done)
 refine LoopP.by (fun k:Nat=>k≤Sg.length) (fun k=>[(13,.int .i64 (k:Nat))]) (fun _=>_) (fun k=>Sg.length - k) 0 (Nat.zero_le _) rfl ?_
 rintro k w1
 dsimp only
 by_cases hk:k<Sg.length
 ·obtain ⟨p,hp⟩:∃ p,Sg[k]?=some p:=⟨_,List.getElem?_eq_getElem hk⟩
  have hpS:p∈Sg:=List.mem_of_getElem? hp
  have hpM:=((hsu.s p).1 hpS).1
  have hpA:=((hsu.s p).1 hpS).2
  have hpp:=shC_part hp
  have hm1:=hasM p.1 p.2
  rw [decide_eq_true hpM] at hm1
  have hk1:k≤Sg.length - 1:=by omega
  have h0l:0<Sg.length:=by omega
  have hkw:IntKind.i64.wrap ((k:Int)+1)=((k+1:Nat):Int):=by rw [wrap_i64 (by omega) (by omega)];omega
  repeat' (first
 | (conv=>whnf)
   first
   | refine Idx.nat hk1 ?_
   | refine Br.f ?_
   | (refine Br.decT ?_ ?_;(focus first | assumption | omega))
   | refine Req.mk h0l ?_
   | refine Get.mk _ hpp ?_
   | refine call_fun rfl rfl hm1 (.inl rfl) ?_)
  all_goals try (exfalso;omega;done)
  refine LoopP.by (fun n:Nat=>n≤A.length) (fun n=>[(14,.int .i64 (n:Nat))]) (fun _=>_) (fun n=>A.length - n) 0 (Nat.zero_le _) rfl ?_
  rintro n z1
  dsimp only
  by_cases hn:n<A.length
  ·obtain ⟨a,hak⟩:∃ a,A[n]?=some a:=⟨_,List.getElem?_eq_getElem hn⟩
   have haA:=hsub a (List.mem_of_getElem? hak)
   have hac:=vL_get3 hak
   have hm2:=hasA a haA p.1 p.2
   rw [decide_eq_true (hpA a haA)] at hm2
   have hn1:n≤A.length - 1:=by omega
   have h0a:0<A.length:=by omega
   repeat' (first
 | (conv=>whnf)
   first
   | refine Idx.nat hk1 ?_
   | refine Idx.nat hn1 ?_
   | refine Br.f ?_
   | (refine Br.decT ?_ ?_;(focus first | assumption | omega))
   | (refine Bnd.i64 ?_ ?_ ?_;(focus omega);(focus omega))
   | refine Req.mk h0l ?_
   | refine Req.mk h0a ?_
   | refine Get.mk _ hpp ?_
   | refine Get.mk _ hac ?_
   | refine call_fun rfl rfl hm2 (.inl rfl) ?_)
   all_goals first | (exfalso;omega;done) | exact NextP.mk (n+1) hn (by omega) rfl
  ·repeat' (first
 | (conv=>whnf)
   first
   | refine Bnd.eq hkw ?_
   | (refine Br.decF ?_ ?_;(focus first | assumption | omega)))
   all_goals first | (exfalso;omega;done) | exact NextP.mk (k+1) hk (by omega) rfl
 repeat' (first
 | (conv=>whnf)
   first
   | (refine Br.decF ?_ ?_;(focus first | assumption | omega)))
 all_goals try (exfalso;omega;done)
 refine LoopP.by (fun n:Nat=>n≤A.length) (fun n=>[(15,.int .i64 (n:Nat))]) (fun _=>_) (fun n=>A.length - n) 0 (Nat.zero_le _) rfl ?_
 rintro n z1
 dsimp only
 by_cases hn:n<A.length
 ·obtain ⟨a,hak⟩:∃ a,A[n]?=some a:=⟨_,List.getElem?_eq_getElem hn⟩
  have haA:=hsub a (List.mem_of_getElem? hak)
  have hac:=vL_get3 hak
  have h40:=hlen40 a haA
  have hn1:n≤A.length - 1:=by omega
  have h0a:0<A.length:=by omega
  have hnw:IntKind.i64.wrap ((n:Int)+1)=((n+1:Nat):Int):=by rw [wrap_i64 (by omega) (by omega)];omega
  repeat' (first
 | (conv=>whnf)
   first
   | (refine Br.decT ?_ ?_;(focus first | assumption | omega)))
  all_goals try (exfalso;omega;done)
  refine LoopP.by (fun j:Nat=>j≤a.length) (fun j=>[(16,.int .i64 (j:Nat))]) (fun _=>_) (fun j=>a.length - j) 0 (Nat.zero_le _) rfl ?_
  rintro j u1
  dsimp only
  by_cases hj:j<a.length
  ·obtain ⟨q,hq⟩:∃ q,a[j]?=some q:=⟨_,List.getElem?_eq_getElem hj⟩
   have hqm:(a.map pI)[j]?=some (pI q):=by rw [List.getElem?_map,hq];rfl
   have hqp:=shC_part hqm
   have hqM:pI q∈M:=(hsu.m _).2 ⟨q,rfl,a,haA,List.mem_of_getElem? hq⟩
   have hm1:=hasM (pI q).1 (pI q).2
   rw [decide_eq_true hqM] at hm1
   have hj1:j≤a.length - 1:=by omega
   have h0j:0<a.length:=by omega
   repeat' (first
 | (conv=>whnf)
   first
   | refine Idx.nat hn1 ?_
   | refine Idx.nat hj1 ?_
   | refine Br.f ?_
   | (refine Br.decT ?_ ?_;(focus first | assumption | omega))
   | (refine Bnd.i64 ?_ ?_ ?_;(focus omega);(focus omega))
   | refine Req.mk h0a ?_
   | refine Req.mk h0j ?_
   | refine Get.mk _ hac ?_
   | refine Get.mk _ hqp ?_
   | refine call_fun rfl rfl hm1 (.inl rfl) ?_)
   all_goals first | (exfalso;omega;done) | exact NextP.mk (j+1) hj (by omega) rfl
  ·repeat' (first
 | (conv=>whnf)
   first
   | refine Bnd.eq hnw ?_
   | refine Idx.nat hn1 ?_
   | (refine Br.decF ?_ ?_;(focus first | assumption | omega))
   | refine Req.mk h0a ?_
   | refine Get.mk _ hac ?_)
   all_goals first | (exfalso;omega;done) | exact NextP.mk (n+1) hn (by omega) rfl
 by_cases hC1:C=1
 ·obtain ⟨a,rfl⟩:=hone hC1
  have hA1:=hall (hCA' (by omega))
  subst hA1
  obtain ⟨e1,e2⟩:=su_one hsu (hord a (by simp))
  subst e1 e2
  have h40:=hlen40 a (by simp)
  have hva:vL a = .sl (decide (a=[])) (a.map pI).length (shC (a.map pI)):=by unfold vL;rw [List.length_map];rfl
  have hpe:∀ c,Fun FB2 md 29 [.sl c (a.map pI).length (shC (a.map pI)),vL a] (.bool true):=fun c=>by
   rw [hva]
   exact ((pairs_ok (c:=c) (d:=decide (a=[])) (l:=a.map pI) (by rw [List.length_map];omega)).tab sub1).tab sub2
  have hp1:=hpe cS'
  have hp2:=hpe cM'
  have hac:cellAt ([a].map vL) (0 * 1)=some (vL a):=rfl
  repeat' (first
 | (conv=>whnf)
   first
   | refine Br.t ?_
   | (refine Br.decT ?_ ?_;(focus first | assumption | omega))
   | (refine Br.decF ?_ ?_;(focus first | assumption | omega))
   | refine call_fun rfl rfl hp1 (.inl rfl) ?_
   | refine call_fun rfl rfl hp2 (.inl rfl) ?_
   | refine call_fun rfl rfl hAw (.inl rfl) ?_
   | (refine Idx.int ?_ ?_ ?_;(focus omega);(focus omega))
   | refine Get.mk _ rfl ?_
   | refine Leaves.of ?_
   | refine Vw.bool ?_
   | (refine Req.mk ?_ ?_;(focus first | rfl | decide | exact ⟨rfl,rfl⟩ | exact ⟨rfl,by decide⟩ | exact (fun _=>rfl) | exact (fun h=>nomatch h) | (simp;done) | omega | (simp [big];done) | exact le_big (by omega) | exact lt_big (by omega))))
  all_goals first | rfl | (exfalso;omega;done)
 by_cases hCA:(A.length:Int)<C
 ·repeat' (first
 | (conv=>whnf)
   first
   | (refine Br.decT ?_ ?_;(focus first | assumption | omega))
   | (refine Br.decF ?_ ?_;(focus first | assumption | omega))
   | refine call_fun rfl rfl hAw (.inl rfl) ?_
   | refine Get.mk _ rfl ?_
   | refine Leaves.of ?_
   | refine Vw.bool ?_)
  all_goals first | rfl | (exfalso;omega;done)
 have hA1:=hall (by omega)
 subst hA1
 repeat' (first
 | (conv=>whnf)
   first
   | (refine Br.decF ?_ ?_;(focus first | assumption | omega)))
 all_goals try (exfalso;omega;done)
 refine LoopP.by (fun j:Nat=>j≤M.length) (fun j=>[(17,.int .i64 (j:Nat))]) (fun _=>_) (fun j=>M.length - j) 0 (Nat.zero_le _) rfl ?_
 rintro j u1
 dsimp only
 by_cases hj:j<M.length
 rotate_left
 ·repeat' (first
 | (conv=>whnf)
   first
   | (refine Br.decF ?_ ?_;(focus first | assumption | omega))
   | refine call_fun rfl rfl hAw (.inl rfl) ?_
   | refine Get.mk _ rfl ?_
   | refine Leaves.of ?_
   | refine Vw.bool ?_)
  all_goals first | rfl | (exfalso;omega;done)
 obtain ⟨p,hp⟩:∃ p,M[j]?=some p:=⟨_,List.getElem?_eq_getElem hj⟩
 have hpM:p∈M:=List.mem_of_getElem? hp
 have hpp:=shC_part hp
 have hj1:j≤M.length - 1:=by omega
 have h0j:0<M.length:=by omega
 have hjw:IntKind.i64.wrap ((j:Int)+1)=((j+1:Nat):Int):=by rw [wrap_i64 (by omega) (by omega)];omega
 have hS1:=hasS p.1 p.2
 obtain ⟨q,hq,lq,hlq,hqq⟩:=(hsu.m p).1 hpM
 have hin:A.any (fun l=>decide (p∈l.map pI))=true:=List.any_eq_true.2 ⟨lq,hlq,decide_eq_true (by rw [hq];exact pI_mem.2 hqq)⟩
 have hout:A.any (fun l => !decide (p∈l.map pI)) = !decide (p∈Sg):=by
  by_cases h:p∈Sg
  ·rw [decide_eq_true h]
   rw [show (!true)=false from rfl,List.any_eq_false]
   intro a h1
   rw [decide_eq_true (((hsu.s p).1 h).2 a h1)]
   decide
  ·rw [decide_eq_false h,show (!false)=true from rfl,List.any_eq_true]
   by_cases hc:∃ a,a∈A∧p ∉ a.map pI
   ·obtain ⟨a,h1,h2⟩:=hc
    exact ⟨a,h1,by rw [decide_eq_false h2];rfl⟩
   ·refine absurd ((hsu.s p).2 ⟨hpM,fun a h1 => ?_⟩) h
    by_cases h2:p∈a.map pI
    ·exact h2
    ·exact absurd ⟨a,h1,h2⟩ hc
 repeat' (first
 | (conv=>whnf)
   first
   | (refine Br.decT ?_ ?_;(focus first | assumption | omega)))
 all_goals try (exfalso;omega;done)
 refine LoopP.by (fun a:EA=>a.k≤A.length∧a.f=(A.take a.k).any (fun l=>decide (p∈l.map pI))∧a.g=(A.take a.k).any (fun l => !decide (p∈l.map pI))) (fun a=>[(18,.bool a.f),(19,.bool a.g),(20,.int .i64 (a.k:Nat))]) (fun _=>_) (fun a=>A.length - a.k) ⟨0,false,false⟩ ⟨Nat.zero_le _,rfl,rfl⟩ rfl ?_
 rintro ⟨n,f,g⟩ ⟨z1,z2,z3⟩
 dsimp only at z1 z2 z3 ⊢
 by_cases hn:n<A.length
 rotate_left
 ·rw [List.take_of_length_le (by omega)] at z2 z3
  rw [hin] at z2
  rw [hout] at z3
  subst z2
  cases g
  ·have hpS:p∈Sg:=by
    by_cases h:p∈Sg
    ·exact h
    ·rw [decide_eq_false h] at z3;exact absurd z3 (by decide)
   rw [decide_eq_true hpS] at hS1
   repeat' (first
 | (conv=>whnf)
   first
   | refine Bnd.eq hjw ?_
   | refine Idx.nat hj1 ?_
   | refine Br.f ?_
   | (refine Br.decF ?_ ?_;(focus first | assumption | omega))
   | refine Req.mk h0j ?_
   | refine Get.mk _ hpp ?_
   | refine call_fun rfl rfl hS1 (.inl rfl) ?_
   | refine Get.mk _ rfl ?_)
   all_goals first | (exfalso;omega;done) | exact NextP.mk (j+1) hj (by omega) rfl
  ·have hpS:p ∉ Sg:=fun h=>by rw [decide_eq_true h] at z3;exact absurd z3 (by decide)
   rw [decide_eq_false hpS] at hS1
   repeat' (first
 | (conv=>whnf)
   first
   | refine Bnd.eq hjw ?_
   | refine Idx.nat hj1 ?_
   | refine Br.f ?_
   | (refine Br.decF ?_ ?_;(focus first | assumption | omega))
   | refine Req.mk h0j ?_
   | refine Get.mk _ hpp ?_
   | refine call_fun rfl rfl hS1 (.inl rfl) ?_
   | refine Get.mk _ rfl ?_)
   all_goals first | (exfalso;omega;done) | exact NextP.mk (j+1) hj (by omega) rfl
 obtain ⟨a,hak⟩:∃ a,A[n]?=some a:=⟨_,List.getElem?_eq_getElem hn⟩
 have haA:a∈A:=List.mem_of_getElem? hak
 have hac:=vL_get3 hak
 have hm2:=hasA a haA p.1 p.2
 have hn1:n≤A.length - 1:=by omega
 have h0a:0<A.length:=by omega
 have hnw:IntKind.i64.wrap ((n:Int)+1)=((n+1:Nat):Int):=by rw [wrap_i64 (by omega) (by omega)];omega
 have hnf:∀ F:List (Nat × Nat)→Bool,(A.take (n+1)).any F=((A.take n).any F || F a):=fun F=>by
  obtain ⟨q1,q2⟩:=List.getElem?_eq_some_iff.1 hak
  rw [← List.take_append_getElem q1,q2,List.any_append]
  simp
 have hf1:=hnf fun l=>decide (p∈l.map pI)
 have hg1:=hnf fun l => !decide (p∈l.map pI)
 rw [← z2] at hf1
 rw [← z3] at hg1
 clear z2 z3
 (try dsimp only at hf1 hg1)
 generalize decide (p∈a.map pI)=b at hm2 hf1 hg1
 cases f <;> cases g <;> cases b
 all_goals
  repeat' (first
 | (conv=>whnf)
   first
   | refine Bnd.eq hnw ?_
   | refine Idx.nat hj1 ?_
   | refine Idx.nat hn1 ?_
   | refine Br.t ?_
   | refine Br.f ?_
   | (refine Br.decT ?_ ?_;(focus first | assumption | omega))
   | refine Req.mk h0j ?_
   | refine Req.mk h0a ?_
   | refine Get.mk _ hpp ?_
   | refine Get.mk _ hac ?_
   | refine call_fun rfl rfl hm2 (.inl rfl) ?_)
  all_goals first | (exfalso;omega;done) | exact NextP.mk (⟨n+1,_,_⟩:EA) ⟨hn,hf1.symm,hg1.symm⟩ (by (try dsimp only);omega) rfl
end Go.Dr.T
