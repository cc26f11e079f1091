/- Chapter 06: the document's marks that are there. -/
import Derived.Test.YtfhphjloaelgoaaGreatDoorG15
import Derived.Test.YtfhphjloaelgoaaGreatDoorR06X3
namespace Go.Dr.T
def thF (l:List El) (k:Nat):Bool:=decide ((k:Int)∈marksOf l)
def thJ (l:List El) (K:List Int) (k:Nat):Bool:=decide ((k:Int)∈marksOf l∨(k:Int)∈K)
theorem el_known {l:List El} (hv:vldE l=0) {x:El} (hx:x∈l):knP x.l=known x.l∧x.l.length≤40∧(knP x.l).length≤40∧∀ m∈knP x.l,1≤m∧m≤999:=by
 have h:=vld_el hv hx
 have e:=knP_known (l:=x.l) (fun p hp=>(h.2 p hp).1)
 refine ⟨e,h.1,?_,fun m hm => ?_⟩
 ·have:=knP_len (l:=x.l);omega
 ·rw [e] at hm
  exact marks_rng hv (List.mem_flatMap.2 ⟨x,hx,hm⟩)
set_option maxRecDepth 100000 in
set_option maxHeartbeats 20000000 in
theorem there_call {c:Bool} {l:List El} (hv:vldE l=0) {ro:Nat} {K:V→List B→Prop} (hk:K (.ms 1 0 1000 0 1000 true) [.blk (boC 1000 (thF l)) true]) (hr:ro=0):CallP FB md ro (.fn 73 []) [elsV c l] [] K:=by
 have hl8:=(vld_good hv).1
 subst hr
 refine call_one rfl rfl rfl ?_
 repeat' (first
 | (conv=>whnf)
   first
   | (refine Idx.int ?_ ?_ ?_;(focus omega);(focus omega))
   | (refine Idx.int ?_ ?_ ?_;(focus decide);(focus decide))
   | refine Get.mk _ rfl ?_
   | (refine Req.mk ?_ ?_;(focus first | rfl | decide | exact ⟨rfl,rfl⟩ | exact ⟨rfl,by decide⟩ | exact (fun _=>rfl) | exact (fun h=>nomatch h) | (simp;done) | omega | (simp [big];done) | exact le_big (by omega) | exact lt_big (by omega))))
 all_goals try (exfalso;omega;done)
 refine LoopP.by (fun i:Nat=>i≤l.length) (fun i=>[(4,.int .i64 (i:Nat))]) (fun i=>[.blk (boC 1000 (thF (l.take i))) true]) (fun i=>l.length - i) 0 (Nat.zero_le _) (by
  rw [show boC 1000 (thF (l.take 0))=reps 1000 [.bool false] by rw [boC_zero];exact boC_ext fun j _=>by simp [thF,marksOf]]
  rfl) ?_
 rintro i q1
 dsimp only
 by_cases hi:i<l.length
 rotate_left
 ·have e:i=l.length:=by omega
  subst e
  rw [List.take_length]
  repeat' (first
 | (conv=>whnf)
   first
   | (refine Br.decF ?_ ?_;(focus first | assumption | omega))
   | refine Get.mk _ rfl ?_
   | refine Ends.of ?_)
  all_goals first | (exfalso;omega;done) | exact hk
 obtain ⟨x,hx⟩:∃ p,l[i]?=some p:=⟨_,List.getElem?_eq_getElem hi⟩
 have hpart:=elC_part hx
 obtain ⟨k1,k2,k3,k4⟩:=el_known hv (List.mem_of_getElem? hx)
 have hk:Fun FB md 102 [elA x] (lw false (knP x.l)):=known_ok (by omega)
 have hms:∀ k:Nat,thF (l.take (i+1)) k=thJ (l.take i) (knP x.l) k:=fun k=>by
  unfold thF thJ
  rw [marks_snoc hx,k1,decide_eq_decide,List.mem_append]
 generalize knP x.l=K at *
 obtain ⟨d,hd⟩:=lw_sl K
 rw [hd] at hk
 repeat' (first
 | (conv=>whnf)
   first
   | (refine Br.decT ?_ ?_;(focus first | assumption | omega))
   | refine Get.mk _ hpart ?_
   | refine call_fun rfl rfl hk (.inl rfl) ?_
   | (refine Idx.nat ?_ ?_;(focus omega))
   | (refine Req.mk ?_ ?_;(focus first | rfl | decide | exact ⟨rfl,rfl⟩ | exact ⟨rfl,by decide⟩ | exact (fun _=>rfl) | exact (fun h=>nomatch h) | (simp;done) | omega | (simp [big];done) | exact le_big (by omega) | exact lt_big (by omega))))
 all_goals try (exfalso;omega;done)
 refine LoopP.by (fun j:Nat=>j≤K.length) (fun j=>[(6,.int .i64 (j:Nat))]) (fun j=>[.blk (boC 1000 (thJ (l.take i) (K.take j))) true]) (fun j=>K.length - j) 0 (Nat.zero_le _) (by
  rw [show boC 1000 (thJ (l.take i) (K.take 0))=boC 1000 (thF (l.take i)) from boC_ext fun j _=>by simp [thF,thJ]]
  rfl) ?_
 rintro j z1
 dsimp only
 by_cases hj:j<K.length
 rotate_left
 ·have e:j=K.length:=by omega
  subst e
  rw [List.take_length, ← boC_ext (n:=1000) (fun j _=>hms j)]
  repeat' (first
 | (conv=>whnf)
   first
   | (refine Br.decF ?_ ?_;(focus first | assumption | omega))
   | (refine Bnd.i64 ?_ ?_ ?_;(focus omega);(focus omega)))
  all_goals first | (exfalso;omega;done) | exact NextP.mk (i+1) hi (by omega) rfl
 obtain ⟨m,hm,hc⟩:=ofInts_cell hj
 have hmr:=k4 m (List.mem_of_getElem? hm)
 obtain ⟨m', rfl⟩:∃ m' : Nat,m=(m' : Int):=⟨m.toNat,by omega⟩
 have hml:m' < 1000:=by omega
 have hov:over (boC 1000 (thJ (l.take i) (K.take j))) (0+m' * 1) [.bool true]=boC 1000 (thJ (l.take i) (K.take (j+1))):=by
  rw [boC_set hml]
  refine boC_ext fun k _ => ?_
  unfold upB thJ
  rw [List.take_add_one,hm]
  by_cases e:k=m'
  ·subst e;simp
  ·rw [if_neg e,decide_eq_decide]
   have:¬ (k:Int)=(m' : Int):=by omega
   simp [this]
 have hlen:(boC 1000 (thJ (l.take i) (K.take j))).length=1000 * 1∧0+m' * 1+1≤(boC 1000 (thJ (l.take i) (K.take j))).length:=by rw [boC_len];omega
 repeat' (first
 | (conv=>whnf)
   first
   | (refine Br.decT ?_ ?_;(focus first | assumption | omega))
   | (refine Bnd.i64 ?_ ?_ ?_;(focus omega);(focus omega))
   | refine Get.mk _ hc ?_
   | refine Req.mk hlen ?_
   | refine fVg' hov ?_
   | (refine Idx.nat ?_ ?_;(focus omega))
   | refine Get.mk _ rfl ?_
   | (refine Req.mk ?_ ?_;(focus first | rfl | decide | exact ⟨rfl,rfl⟩ | exact ⟨rfl,by decide⟩ | exact (fun _=>rfl) | exact (fun h=>nomatch h) | (simp;done) | omega | (simp [big];done) | exact le_big (by omega) | exact lt_big (by omega))))
 all_goals first | (exfalso;omega;done) | exact NextP.mk (j+1) hj (by omega) rfl
end Go.Dr.T
namespace Go.Dr.T
def dgV (G:List T3):V:=match G with
 | []=>.nilsl
 | _ :: _=>.ms 3 2 (G.length * 3) 0 G.length false
abbrev t3B (x y z:Int):B:=.blk [.int .i64 x,.int .i64 y,.int .i64 z] false
def dgH (T:B) (G:List T3):List B:=match G with
 | []=>[T]
 | t :: _=>[T,t3B t.1 t.2.1 t.2.2,.blk (trC G) true]
theorem dg_ne {G:List T3} (h:G≠[]) (T:B):dgV G = .ms 3 2 (G.length * 3) 0 G.length false∧∃ X:T3,dgH T G=[T,t3B X.1 X.2.1 X.2.2,.blk (trC G) true]∧∀ t,dgH T (G++[t])=[T,t3B X.1 X.2.1 X.2.2,.blk (trC (G++[t])) true]:=by
 cases G with
 | nil=>exact absurd rfl h
 | cons x l=>exact ⟨rfl,x,rfl,fun t=>rfl⟩
theorem dgV_snoc {G:List T3} {t:T3}:dgV (G++[t]) = .ms 3 2 (G.length * 3+3) 0 (G.length+1) false:=by
 have:=(dg_ne (G:=G++[t]) (by simp) (.unborn)).1
 rw [this,List.length_append,List.length_singleton,show (G.length+1) * 3=G.length * 3+3 by omega]
set_option maxRecDepth 100000 in
set_option maxHeartbeats 20000000 in
theorem refLost_ok {c d:Bool} {l:List El} {s:List Int}:Fun FB md 40 [elsV c l,.sl d s.length (ofInts s)] (lostV l s):=by
 have hg:=valid_ok (c:=c) (l:=l)
 unfold lostV
 by_cases hv:vldE l=0
 rotate_left
 ·rw [if_pos hv]
  generalize vldE l=e at *
  refine fun_of rfl rfl ?_
  repeat' (first
 | (conv=>whnf)
   first
   | (refine Br.decF ?_ ?_;(focus first | assumption | omega))
   | refine Br.not ?_
   | refine call_fun rfl rfl hg (.inl rfl) ?_
   | refine Get.mk _ rfl ?_
   | refine Leaves.of ?_
   | refine Vw.int ?_
   | refine Vw.nil
   | refine Vw.tup ?_
   | refine VwL.cons ?_ ?_
   | refine VwL.nil)
  all_goals first | rfl | (exfalso;omega;done)
 rw [if_neg (fun h=>h hv)]
 rw [hv] at hg
 have hc:=refScripted_ok (c:=d) (s:=s)
 by_cases hs:scrE s=0
 rotate_left
 ·rw [if_pos hs]
  generalize scrE s=e at *
  refine fun_of rfl rfl ?_
  repeat' (first
 | (conv=>whnf)
   first
   | refine Br.t ?_
   | (refine Br.decF ?_ ?_;(focus first | assumption | omega))
   | refine Br.not ?_
   | refine call_fun rfl rfl hg (.inl rfl) ?_
   | refine call_fun rfl rfl hc (.inl rfl) ?_
   | refine Get.mk _ rfl ?_
   | refine Leaves.of ?_
   | refine Vw.int ?_
   | refine Vw.nil
   | refine Vw.tup ?_
   | refine VwL.cons ?_ ?_
   | refine VwL.nil)
  all_goals first | rfl | (exfalso;omega;done)
 rw [if_neg (fun h=>h hs), ← docG_all]
 rw [hs] at hc
 obtain ⟨hl60,hrg,hnd⟩:=scr_ok hs
 have hth:∀ {ro:Nat} {K:V→List B→Prop},K (.ms 1 0 1000 0 1000 true) [.blk (boC 1000 (thF l)) true]→ro=0→CallP FB md ro (.fn 73 []) [elsV c l] [] K:=fun h1 h2=>there_call hv h1 h2
 have hti:∀ k:Nat,thF l k=isM l (k:Int):=fun k=>rfl
 generalize thF l=th at *
 generalize isM l=is at *
 have hlr:(boC 1000 th).length=1000 * 1:=by rw [boC_len]
 refine fun_of rfl rfl ?_
 repeat' (first
 | (conv=>whnf)
   first
   | refine Br.t ?_
   | refine Br.f ?_
   | refine call_fun rfl rfl hg (.inl rfl) ?_
   | refine call_fun rfl rfl hc (.inl rfl) ?_
   | refine hth ?_ rfl)
 all_goals try (exfalso;omega;done)
 refine LoopP.by (fun i:Nat=>i≤s.length) (fun i=>[(8,dgV (docG is s i)),(9,.int .i64 (i:Nat))]) (fun i=>dgH (.blk (boC 1000 th) true) (docG is s i)) (fun i=>s.length - i) 0 (Nat.zero_le _) rfl ?_
 rintro i w1
 try dsimp only
 have hgl:=docG_len (is:=is) (s:=s) i
 by_cases hi:i<s.length
 rotate_left
 ·have hie:i=s.length:=by omega
  subst hie
  generalize docG is s s.length=G at *
  by_cases hG:G=[]
  ·subst hG
   dsimp only [dgV,dgH]
   repeat' (first
 | (conv=>whnf)
   first
   | (refine Br.decF ?_ ?_;(focus first | assumption | omega))
   | refine Get.mk _ rfl ?_
   | refine Leaves.of ?_
   | refine Vw.int ?_
   | refine Vw.nil
   | refine Vw.tup ?_
   | refine VwL.cons ?_ ?_
   | refine VwL.nil)
   all_goals first | rfl | (exfalso;omega;done)
  ·obtain ⟨e1,X,e2,_⟩:=dg_ne hG (.blk (boC 1000 th) true)
   rw [e1,e2,gapV_ne hG]
   have hvw:Vw [.blk (boC 1000 th) true,t3B X.1 X.2.1 X.2.2,B.blk (trC G) true] 63 (.ms 3 2 (G.length * 3) 0 G.length false) (.sl false G.length (trC G)):=⟨(VwF.ms (d:=62) rfl (trC_len G) (part_all (trC_len G)) (VwLF.trC G)).1⟩
   repeat' (first
 | (conv=>whnf)
   first
   | refine hvw
   | (refine Br.decF ?_ ?_;(focus first | assumption | omega))
   | refine Get.mk _ rfl ?_
   | refine Leaves.of ?_
   | refine Vw.int ?_
   | refine Vw.tup ?_
   | refine VwL.cons ?_ ?_
   | refine VwL.nil)
   all_goals first | rfl | (exfalso;omega;done)
 obtain ⟨m,hm,gi⟩:=ofInts_cell hi
 have hmr:=hrg m (List.mem_of_getElem? hm)
 obtain ⟨m', rfl⟩:∃ m' : Nat,m=(m' : Int):=⟨m.toNat,by omega⟩
 have gt:=boC_get (f:=th) (show m' < 1000 by omega)
 rw [hti] at gt
 have hdg:docG is s (i+1)=if is (m' : Int) then docG is s i else docG is s i++[((m' : Int),lastI is (s.take i),firstI is (s.drop (i+1)))]:=by rw [docG,hm]
 cases hb:is (m' : Int) with
 | true =>
  rw [hb,if_pos rfl] at hdg
  rw [hb] at gt
  generalize docG is s i=G at *
  by_cases hG:G=[]
  ·subst hG
   dsimp only [dgV,dgH]
   repeat' (first
 | (conv=>whnf)
   first
   | refine Br.t ?_
   | (refine Br.decT ?_ ?_;(focus first | assumption | omega))
   | (refine Bnd.i64 ?_ ?_ ?_;(focus omega);(focus omega))
   | refine Get.mk _ gi ?_
   | refine Get.mk _ gt ?_
   | refine Req.mk hlr ?_
   | (refine Idx.nat ?_ ?_;(focus omega))
   | refine Get.mk _ rfl ?_
   | (refine Req.mk ?_ ?_;(focus first | rfl | decide | exact ⟨rfl,rfl⟩ | exact ⟨rfl,by decide⟩ | exact (fun _=>rfl) | exact (fun h=>nomatch h) | (simp;done) | omega | (simp [big];done) | exact le_big (by omega) | exact lt_big (by omega))))
   all_goals first | (exfalso;omega;done) | exact NextP.mk (i+1) hi (by omega) (by rw [hdg];rfl)
  ·obtain ⟨e1,X,e2,_⟩:=dg_ne hG (.blk (boC 1000 th) true)
   rw [e1,e2]
   repeat' (first
 | (conv=>whnf)
   first
   | refine Br.t ?_
   | (refine Br.decT ?_ ?_;(focus first | assumption | omega))
   | (refine Bnd.i64 ?_ ?_ ?_;(focus omega);(focus omega))
   | refine Get.mk _ gi ?_
   | refine Get.mk _ gt ?_
   | refine Req.mk hlr ?_
   | (refine Idx.nat ?_ ?_;(focus omega))
   | refine Get.mk _ rfl ?_
   | (refine Req.mk ?_ ?_;(focus first | rfl | decide | exact ⟨rfl,rfl⟩ | exact ⟨rfl,by decide⟩ | exact (fun _=>rfl) | exact (fun h=>nomatch h) | (simp;done) | omega | (simp [big];done) | exact le_big (by omega) | exact lt_big (by omega))))
   all_goals first | (exfalso;omega;done) | exact NextP.mk (i+1) hi (by omega) (by rw [hdg,e1,e2];rfl)
 | false =>
  rw [hb,if_neg (by simp)] at hdg
  rw [hb] at gt
  generalize docG is s i=G at *
  by_cases hG:G=[]
  ·subst hG
   dsimp only [dgV,dgH]
   repeat' (first
 | (conv=>whnf)
   first
   | refine Br.f ?_
   | (refine Br.decT ?_ ?_;(focus first | assumption | omega))
   | refine Get.mk _ gi ?_
   | refine Get.mk _ gt ?_
   | refine Req.mk hlr ?_
   | (refine Idx.nat ?_ ?_;(focus omega))
   | refine Get.mk _ rfl ?_
   | (refine Req.mk ?_ ?_;(focus first | rfl | decide | exact ⟨rfl,rfl⟩ | exact ⟨rfl,by decide⟩ | exact (fun _=>rfl) | exact (fun h=>nomatch h) | (simp;done) | omega | (simp [big];done) | exact le_big (by omega) | exact lt_big (by omega))))
   all_goals try (exfalso;omega;done)
   refine LoopP.by (fun k:Nat=>k≤i) (fun k=>[(11,.int .i64 (k:Nat))]) (fun k=>[B.blk (boC 1000 th) true,t3B (m' : Int) (lastI is (s.take k)) 0]) (fun k=>i - k) 0 (Nat.zero_le _) rfl ?_
   rintro k y1
   try dsimp only
   by_cases hk:k<i
   ·obtain ⟨n,hn,gk⟩:=ofInts_cell (l:=s) (i:=k) (by omega)
    have hnr:=hrg n (List.mem_of_getElem? hn)
    obtain ⟨n', rfl⟩:∃ n' : Nat,n=(n' : Int):=⟨n.toNat,by omega⟩
    have gn:=boC_get (f:=th) (show n' < 1000 by omega)
    rw [hti] at gn
    have hla:=lastI_snoc (is:=is) hn
    cases hb2:is (n' : Int) with
    | true =>
     rw [hb2] at gn
     rw [hb2,if_pos rfl] at hla
     repeat' (first
 | (conv=>whnf)
   first
   | refine Br.t ?_
   | (refine Br.decT ?_ ?_;(focus first | assumption | omega))
   | (refine Bnd.i64 ?_ ?_ ?_;(focus omega);(focus omega))
   | refine Get.mk _ gk ?_
   | refine Get.mk _ gn ?_
   | refine Req.mk hlr ?_
   | (refine Idx.nat ?_ ?_;(focus omega))
   | refine Get.mk _ rfl ?_
   | (refine Req.mk ?_ ?_;(focus first | rfl | decide | exact ⟨rfl,rfl⟩ | exact ⟨rfl,by decide⟩ | exact (fun _=>rfl) | exact (fun h=>nomatch h) | (simp;done) | omega | (simp [big];done) | exact le_big (by omega) | exact lt_big (by omega))))
     all_goals first | (exfalso;omega;done) | exact NextP.mk (k+1) hk (by omega) (by rw [hla];rfl)
    | false =>
     rw [hb2] at gn
     rw [hb2,if_neg (by simp)] at hla
     repeat' (first
 | (conv=>whnf)
   first
   | refine Br.f ?_
   | (refine Br.decT ?_ ?_;(focus first | assumption | omega))
   | (refine Bnd.i64 ?_ ?_ ?_;(focus omega);(focus omega))
   | refine Get.mk _ gk ?_
   | refine Get.mk _ gn ?_
   | refine Req.mk hlr ?_
   | (refine Idx.nat ?_ ?_;(focus omega))
   | refine Get.mk _ rfl ?_
   | (refine Req.mk ?_ ?_;(focus first | rfl | decide | exact ⟨rfl,rfl⟩ | exact ⟨rfl,by decide⟩ | exact (fun _=>rfl) | exact (fun h=>nomatch h) | (simp;done) | omega | (simp [big];done) | exact le_big (by omega) | exact lt_big (by omega))))
     all_goals first | (exfalso;omega;done) | exact NextP.mk (k+1) hk (by omega) (by rw [hla];rfl)
   have hki:k=i:=by omega
   subst hki
   have hwr:IntKind.i64.wrap ((s.length:Int) - 1)=((s.length - 1:Nat):Int):=by rw [wrap_i64 (by omega) (by omega)];omega
   repeat' (first
 | (conv=>whnf)
   first
   | refine Bnd.eq hwr ?_
   | (refine Br.decF ?_ ?_;(focus first | assumption | omega)))
   all_goals try (exfalso;omega;done)
   clear hwr
   refine LoopP.by (fun j:Nat=>k≤j∧j+1≤s.length) (fun j=>[(12,.int .i64 (j:Nat))]) (fun j=>[B.blk (boC 1000 th) true,t3B (m' : Int) (lastI is (s.take k)) (firstI is (s.drop (j+1)))]) (fun j=>j - k) (s.length - 1) (by omega) (by
    have e0:firstI is (s.drop (s.length - 1+1))=0:=by
     rw [List.drop_eq_nil_of_le (by omega)]
     rfl
    rw [e0]
    rfl) ?_
   rintro j ⟨z1,z2⟩
   try dsimp only
   by_cases hj:k<j
   ·obtain ⟨n,hn,gk⟩:=ofInts_cell (l:=s) (i:=j) (by omega)
    have hnr:=hrg n (List.mem_of_getElem? hn)
    obtain ⟨n', rfl⟩:∃ n' : Nat,n=(n' : Int):=⟨n.toNat,by omega⟩
    have gn:=boC_get (f:=th) (show n' < 1000 by omega)
    rw [hti] at gn
    have hfi:=firstI_drop (is:=is) hn
    have hwr:IntKind.i64.wrap ((j:Int) - 1)=((j - 1:Nat):Int):=by rw [wrap_i64 (by omega) (by omega)];omega
    cases hb2:is (n' : Int) with
    | true =>
     rw [hb2] at gn
     rw [hb2,if_pos rfl] at hfi
     repeat' (first
 | (conv=>whnf)
   first
   | refine Bnd.eq hwr ?_
   | refine Br.t ?_
   | (refine Br.decT ?_ ?_;(focus first | assumption | omega))
   | refine Get.mk _ gk ?_
   | refine Get.mk _ gn ?_
   | refine Req.mk hlr ?_
   | (refine Idx.nat ?_ ?_;(focus omega))
   | refine Get.mk _ rfl ?_
   | (refine Req.mk ?_ ?_;(focus first | rfl | decide | exact ⟨rfl,rfl⟩ | exact ⟨rfl,by decide⟩ | exact (fun _=>rfl) | exact (fun h=>nomatch h) | (simp;done) | omega | (simp [big];done) | exact le_big (by omega) | exact lt_big (by omega))))
     all_goals first | (exfalso;omega;done) | exact NextP.mk (j - 1) (by omega) (by omega) (by rw [show j - 1+1=j by omega,hfi];rfl)
    | false =>
     rw [hb2] at gn
     rw [hb2,if_neg (by simp)] at hfi
     repeat' (first
 | (conv=>whnf)
   first
   | refine Bnd.eq hwr ?_
   | refine Br.f ?_
   | (refine Br.decT ?_ ?_;(focus first | assumption | omega))
   | refine Get.mk _ gk ?_
   | refine Get.mk _ gn ?_
   | refine Req.mk hlr ?_
   | (refine Idx.nat ?_ ?_;(focus omega))
   | refine Get.mk _ rfl ?_
   | (refine Req.mk ?_ ?_;(focus first | rfl | decide | exact ⟨rfl,rfl⟩ | exact ⟨rfl,by decide⟩ | exact (fun _=>rfl) | exact (fun h=>nomatch h) | (simp;done) | omega | (simp [big];done) | exact le_big (by omega) | exact lt_big (by omega))))
     all_goals first | (exfalso;omega;done) | exact NextP.mk (j - 1) (by omega) (by omega) (by rw [show j - 1+1=j by omega,hfi];rfl)
   have hjk:j=k:=by omega
   subst hjk
   repeat' (first
 | (conv=>whnf)
   first
   | (refine Br.decF ?_ ?_;(focus first | assumption | omega))
   | (refine Bnd.i64 ?_ ?_ ?_;(focus omega);(focus omega))
   | (refine Ifz.pos ?_ ?_;(focus omega))
   | refine Get.mk _ rfl ?_
   | (refine Req.mk ?_ ?_;(focus first | rfl | decide | exact ⟨rfl,rfl⟩ | exact ⟨rfl,by decide⟩ | exact (fun _=>rfl) | exact (fun h=>nomatch h) | (simp;done) | omega | (simp [big];done) | exact le_big (by omega) | exact lt_big (by omega))))
   all_goals first | (exfalso;omega;done) | exact NextP.mk (j+1) hi (by omega) (by rw [hdg];rfl)
  ·obtain ⟨e1,X,e2,e3⟩:=dg_ne hG (.blk (boC 1000 th) true)
   rw [e1,e2]
   have hlc:=trC_len G
   have hap:∀ x y z:Int,0+G.length * 3=G.length * 3∧((trC G).length+[V.int .i64 x,.int .i64 y,.int .i64 z].length) * (24+1)<big:=fun x y z=>⟨by omega,by rw [hlc];exact lt_big (by simp;omega)⟩
   repeat' (first
 | (conv=>whnf)
   first
   | refine Br.f ?_
   | (refine Br.decT ?_ ?_;(focus first | assumption | omega))
   | refine Get.mk _ gi ?_
   | refine Get.mk _ gt ?_
   | refine Req.mk hlr ?_
   | (refine Idx.nat ?_ ?_;(focus omega))
   | refine Get.mk _ rfl ?_
   | (refine Req.mk ?_ ?_;(focus first | rfl | decide | exact ⟨rfl,rfl⟩ | exact ⟨rfl,by decide⟩ | exact (fun _=>rfl) | exact (fun h=>nomatch h) | (simp;done) | omega | (simp [big];done) | exact le_big (by omega) | exact lt_big (by omega))))
   all_goals try (exfalso;omega;done)
   refine LoopP.by (fun k:Nat=>k≤i) (fun k=>[(11,.int .i64 (k:Nat))]) (fun k=>[B.blk (boC 1000 th) true,t3B X.1 X.2.1 X.2.2,.blk (trC G) true,t3B (m' : Int) (lastI is (s.take k)) 0]) (fun k=>i - k) 0 (Nat.zero_le _) rfl ?_
   rintro k y1
   try dsimp only
   by_cases hk:k<i
   ·obtain ⟨n,hn,gk⟩:=ofInts_cell (l:=s) (i:=k) (by omega)
    have hnr:=hrg n (List.mem_of_getElem? hn)
    obtain ⟨n', rfl⟩:∃ n' : Nat,n=(n' : Int):=⟨n.toNat,by omega⟩
    have gn:=boC_get (f:=th) (show n' < 1000 by omega)
    rw [hti] at gn
    have hla:=lastI_snoc (is:=is) hn
    cases hb2:is (n' : Int) with
    | true =>
     rw [hb2] at gn
     rw [hb2,if_pos rfl] at hla
     repeat' (first
 | (conv=>whnf)
   first
   | refine Br.t ?_
   | (refine Br.decT ?_ ?_;(focus first | assumption | omega))
   | (refine Bnd.i64 ?_ ?_ ?_;(focus omega);(focus omega))
   | refine Get.mk _ gk ?_
   | refine Get.mk _ gn ?_
   | refine Req.mk hlr ?_
   | (refine Idx.nat ?_ ?_;(focus omega))
   | refine Get.mk _ rfl ?_
   | (refine Req.mk ?_ ?_;(focus first | rfl | decide | exact ⟨rfl,rfl⟩ | exact ⟨rfl,by decide⟩ | exact (fun _=>rfl) | exact (fun h=>nomatch h) | (simp;done) | omega | (simp [big];done) | exact le_big (by omega) | exact lt_big (by omega))))
     all_goals first | (exfalso;omega;done) | exact NextP.mk (k+1) hk (by omega) (by rw [hla];rfl)
    | false =>
     rw [hb2] at gn
     rw [hb2,if_neg (by simp)] at hla
     repeat' (first
 | (conv=>whnf)
   first
   | refine Br.f ?_
   | (refine Br.decT ?_ ?_;(focus first | assumption | omega))
   | (refine Bnd.i64 ?_ ?_ ?_;(focus omega);(focus omega))
   | refine Get.mk _ gk ?_
   | refine Get.mk _ gn ?_
   | refine Req.mk hlr ?_
   | (refine Idx.nat ?_ ?_;(focus omega))
   | refine Get.mk _ rfl ?_
   | (refine Req.mk ?_ ?_;(focus first | rfl | decide | exact ⟨rfl,rfl⟩ | exact ⟨rfl,by decide⟩ | exact (fun _=>rfl) | exact (fun h=>nomatch h) | (simp;done) | omega | (simp [big];done) | exact le_big (by omega) | exact lt_big (by omega))))
     all_goals first | (exfalso;omega;done) | exact NextP.mk (k+1) hk (by omega) (by rw [hla];rfl)
   have hki:k=i:=by omega
   subst hki
   have hwr:IntKind.i64.wrap ((s.length:Int) - 1)=((s.length - 1:Nat):Int):=by rw [wrap_i64 (by omega) (by omega)];omega
   repeat' (first
 | (conv=>whnf)
   first
   | refine Bnd.eq hwr ?_
   | (refine Br.decF ?_ ?_;(focus first | assumption | omega)))
   all_goals try (exfalso;omega;done)
   clear hwr
   refine LoopP.by (fun j:Nat=>k≤j∧j+1≤s.length) (fun j=>[(12,.int .i64 (j:Nat))]) (fun j=>[B.blk (boC 1000 th) true,t3B X.1 X.2.1 X.2.2,.blk (trC G) true,t3B (m' : Int) (lastI is (s.take k)) (firstI is (s.drop (j+1)))]) (fun j=>j - k) (s.length - 1) (by omega) (by
    have e0:firstI is (s.drop (s.length - 1+1))=0:=by
     rw [List.drop_eq_nil_of_le (by omega)]
     rfl
    rw [e0]
    rfl) ?_
   rintro j ⟨z1,z2⟩
   try dsimp only
   by_cases hj:k<j
   ·obtain ⟨n,hn,gk⟩:=ofInts_cell (l:=s) (i:=j) (by omega)
    have hnr:=hrg n (List.mem_of_getElem? hn)
    obtain ⟨n', rfl⟩:∃ n' : Nat,n=(n' : Int):=⟨n.toNat,by omega⟩
    have gn:=boC_get (f:=th) (show n' < 1000 by omega)
    rw [hti] at gn
    have hfi:=firstI_drop (is:=is) hn
    have hwr:IntKind.i64.wrap ((j:Int) - 1)=((j - 1:Nat):Int):=by rw [wrap_i64 (by omega) (by omega)];omega
    cases hb2:is (n' : Int) with
    | true =>
     rw [hb2] at gn
     rw [hb2,if_pos rfl] at hfi
     repeat' (first
 | (conv=>whnf)
   first
   | refine Bnd.eq hwr ?_
   | refine Br.t ?_
   | (refine Br.decT ?_ ?_;(focus first | assumption | omega))
   | refine Get.mk _ gk ?_
   | refine Get.mk _ gn ?_
   | refine Req.mk hlr ?_
   | (refine Idx.nat ?_ ?_;(focus omega))
   | refine Get.mk _ rfl ?_
   | (refine Req.mk ?_ ?_;(focus first | rfl | decide | exact ⟨rfl,rfl⟩ | exact ⟨rfl,by decide⟩ | exact (fun _=>rfl) | exact (fun h=>nomatch h) | (simp;done) | omega | (simp [big];done) | exact le_big (by omega) | exact lt_big (by omega))))
     all_goals first | (exfalso;omega;done) | exact NextP.mk (j - 1) (by omega) (by omega) (by rw [show j - 1+1=j by omega,hfi];rfl)
    | false =>
     rw [hb2] at gn
     rw [hb2,if_neg (by simp)] at hfi
     repeat' (first
 | (conv=>whnf)
   first
   | refine Bnd.eq hwr ?_
   | refine Br.f ?_
   | (refine Br.decT ?_ ?_;(focus first | assumption | omega))
   | refine Get.mk _ gk ?_
   | refine Get.mk _ gn ?_
   | refine Req.mk hlr ?_
   | (refine Idx.nat ?_ ?_;(focus omega))
   | refine Get.mk _ rfl ?_
   | (refine Req.mk ?_ ?_;(focus first | rfl | decide | exact ⟨rfl,rfl⟩ | exact ⟨rfl,by decide⟩ | exact (fun _=>rfl) | exact (fun h=>nomatch h) | (simp;done) | omega | (simp [big];done) | exact le_big (by omega) | exact lt_big (by omega))))
     all_goals first | (exfalso;omega;done) | exact NextP.mk (j - 1) (by omega) (by omega) (by rw [show j - 1+1=j by omega,hfi];rfl)
   have hjk:j=k:=by omega
   subst hjk
   have hap:=hap (m' : Int) (lastI is (s.take j)) (firstI is (s.drop (j+1)))
   repeat' (first
 | (conv=>whnf)
   first
   | (refine Br.decF ?_ ?_;(focus first | assumption | omega))
   | (refine Bnd.i64 ?_ ?_ ?_;(focus omega);(focus omega))
   | refine Req.mk hlc ?_
   | refine Req.mk hap ?_
   | (refine Ifz.pos ?_ ?_;(focus omega))
   | refine Get.mk _ rfl ?_
   | (refine Req.mk ?_ ?_;(focus first | rfl | decide | exact ⟨rfl,rfl⟩ | exact ⟨rfl,by decide⟩ | exact (fun _=>rfl) | exact (fun h=>nomatch h) | (simp;done) | omega | (simp [big];done) | exact le_big (by omega) | exact lt_big (by omega))))
   all_goals first | (exfalso;omega;done) | exact NextP.mk (j+1) hi (by omega) (by rw [hdg,dgV_snoc,e3, ← trC_snoc];rfl)
end Go.Dr.T
