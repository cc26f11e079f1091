/- Chapter 06: the law AlignVersions. -/
import Derived.Test.YtfhphjloaelgoaaGreatDoorR06X7
import Derived.Test.YtfhphjloaelgoaaGreatDoorG22
import Derived.Test.YtfhphjloaelgoaaGreatDoorG13
namespace Go.Dr.T
set_option maxRecDepth 100000 in
set_option maxHeartbeats 20000000 in
theorem gapsE_ok {c d:Bool} {l:List T3} (hl:l.length≤1000000):Fun FB md 41 [.sl c l.length (trC l),.sl d l.length (trC l)] (.bool true):=by
 refine fun_of rfl rfl ?_
 repeat' (first
 | (conv=>whnf)
   first
   | (refine Br.decT ?_ ?_;(focus first | assumption | omega))
   | refine Br.not ?_)
 all_goals try (exfalso;omega;done)
 refine LoopP.by (fun i:Nat=>i≤l.length) (fun i=>[(5,.int .i64 (i:Nat))]) (fun _=>[]) (fun i=>l.length - i) 0 (Nat.zero_le _) rfl ?_
 rintro i hi'
 dsimp only
 by_cases hi:i<l.length
 rotate_left
 ·repeat' (first
 | (conv=>whnf)
   first
   | (refine Br.decF ?_ ?_;(focus first | assumption | omega))
   | refine Get.mk _ rfl ?_
   | refine Leaves.of ?_
   | refine Vw.bool ?_)
  all_goals first | rfl | (exfalso;omega)
 obtain ⟨t,ht⟩:∃ t,l[i]?=some t:=⟨_,List.getElem?_eq_getElem hi⟩
 have hp:=trC_part ht
 repeat' (first
 | (conv=>whnf)
   first
   | refine Br.t ?_
   | (refine Br.decT ?_ ?_;(focus first | assumption | omega))
   | refine Br.not ?_
   | refine Br.and ?_
   | (refine Bnd.i64 ?_ ?_ ?_;(focus omega);(focus omega))
   | refine Get.mk _ hp ?_
   | (refine Idx.nat ?_ ?_;(focus omega))
   | refine Get.mk _ rfl ?_
   | (refine Req.mk ?_ ?_;(focus first | rfl | decide | exact ⟨rfl,rfl⟩ | exact ⟨rfl,by decide⟩ | exact (fun _=>rfl) | exact (fun h=>nomatch h) | (simp;done) | omega | (simp [big];done) | exact le_big (by omega) | exact lt_big (by omega))))
 all_goals first | (exfalso;omega;done) | exact NextP.mk (i+1) hi (by omega) rfl
set_option maxRecDepth 100000 in
set_option maxHeartbeats 20000000 in
theorem picksE_ok {c d:Bool} {l:List T3} (hl:l.length≤1000000):Fun FB md 44 [.sl c l.length (trC l),.sl d l.length (trC l)] (.bool true):=by
 refine fun_of rfl rfl ?_
 repeat' (first
 | (conv=>whnf)
   first
   | (refine Br.decT ?_ ?_;(focus first | assumption | omega))
   | refine Br.not ?_)
 all_goals try (exfalso;omega;done)
 refine LoopP.by (fun i:Nat=>i≤l.length) (fun i=>[(5,.int .i64 (i:Nat))]) (fun _=>[]) (fun i=>l.length - i) 0 (Nat.zero_le _) rfl ?_
 rintro i hi'
 dsimp only
 by_cases hi:i<l.length
 rotate_left
 ·repeat' (first
 | (conv=>whnf)
   first
   | (refine Br.decF ?_ ?_;(focus first | assumption | omega))
   | refine Get.mk _ rfl ?_
   | refine Leaves.of ?_
   | refine Vw.bool ?_)
  all_goals first | rfl | (exfalso;omega)
 obtain ⟨t,ht⟩:∃ t,l[i]?=some t:=⟨_,List.getElem?_eq_getElem hi⟩
 have hp:=trC_part ht
 repeat' (first
 | (conv=>whnf)
   first
   | refine Br.t ?_
   | (refine Br.decT ?_ ?_;(focus first | assumption | omega))
   | refine Br.not ?_
   | refine Br.and ?_
   | (refine Bnd.i64 ?_ ?_ ?_;(focus omega);(focus omega))
   | refine Get.mk _ hp ?_
   | (refine Idx.nat ?_ ?_;(focus omega))
   | refine Get.mk _ rfl ?_
   | (refine Req.mk ?_ ?_;(focus first | rfl | decide | exact ⟨rfl,rfl⟩ | exact ⟨rfl,by decide⟩ | exact (fun _=>rfl) | exact (fun h=>nomatch h) | (simp;done) | omega | (simp [big];done) | exact le_big (by omega) | exact lt_big (by omega))))
 all_goals first | (exfalso;omega;done) | exact NextP.mk (i+1) hi (by omega) rfl
set_option maxRecDepth 100000 in
theorem law_versions {c d:Bool} {l:List El} {s:List Int} (hsh:s.length≤9223372036854775807):Fun FB2 md 12 [elsV c l,.sl d s.length (ofInts s)] (.bool true):=by
 have h1:=(lost_ok (c:=c) (d:=d) (l:=l) hsh).tab sub2
 have h2:=((refLost_ok (c:=c) (d:=d) (l:=l) (s:=s)).tab sub1).tab sub2
 have h3:=(version_ok (c:=c) (d:=d) (l:=l) hsh).tab sub2
 have h4:=((refVersion_ok (c:=c) (d:=d) (l:=l) (s:=s)).tab sub1).tab sub2
 have h5:=awake
 obtain ⟨G,e,e1,l1⟩:=lostV_eq (l:=l) (s:=s)
 obtain ⟨P,n,f,e2,l2⟩:=verV_eq (l:=l) (s:=s)
 obtain ⟨a,ha⟩:=gapV_sl G
 obtain ⟨b,hb⟩:=gapV_sl P
 rw [e1,ha] at h1 h2
 rw [e2,hb] at h3 h4
 have i1:=((gapsE_ok (c:=a) (d:=a) (l:=G) (by omega)).tab sub1).tab sub2
 have i2:=((picksE_ok (c:=b) (d:=b) (l:=P) (by omega)).tab sub1).tab sub2
 refine fun_of rfl rfl ?_
 repeat' (first
 | (conv=>whnf)
   first
   | refine Br.t ?_
   | refine Br.f ?_
   | (refine Br.decT ?_ ?_;(focus first | assumption | omega))
   | refine Br.not ?_
   | refine call_fresh rfl rfl h1 ?_
   | refine call_fun rfl rfl h2 (.inl rfl) ?_
   | refine call_fresh rfl rfl h3 ?_
   | refine call_fun rfl rfl h4 (.inl rfl) ?_
   | refine call_fun rfl rfl i1 (.inl rfl) ?_
   | refine call_fun rfl rfl i2 (.inl rfl) ?_
   | refine call_fun rfl rfl h5 (.inl rfl) ?_
   | refine Get.mk _ rfl ?_
   | refine Leaves.of ?_
   | refine Vw.bool ?_)
 all_goals first | rfl | (exact absurd rfl (by assumption)) | simp
end Go.Dr.T
namespace Go.Dr.T
theorem ints_cells:∀ {xs:List (List V)},(∀ x∈xs,x.length=1∧(Ty.int .i64).has x)→∃ l:List Int,xs.flatten=ofInts l∧xs.length=l.length
 | [],_=>⟨[],rfl,rfl⟩
 | x :: xs,h=>by
  obtain ⟨l,h1,h2⟩:=ints_cells (xs:=xs) fun y hy=>h y (by simp [hy])
  obtain ⟨_,hx⟩:=h x (by simp)
  obtain ⟨a,rfl⟩:=hasInt hx
  exact ⟨a :: l,by simp only [List.flatten_cons,h1];rfl,by simp [h2]⟩
abbrev TyInts:Ty:=.slice 1 (.int .i64)
theorem ints_val {v:V} (h:TyInts.val v):∃ l:List Int,v = .sl false l.length (ofInts l):=by
 rw [TyInts] at h
 simp only [Ty.val] at h
 rw [Ty.has] at h
 obtain ⟨xs,e,hx⟩:=h
 simp only [List.cons.injEq,and_true] at e
 subst e
 obtain ⟨l,h1,h2⟩:=ints_cells (xs:=xs) hx
 exact ⟨l,by rw [h1,h2]⟩
end Go.Dr.T
