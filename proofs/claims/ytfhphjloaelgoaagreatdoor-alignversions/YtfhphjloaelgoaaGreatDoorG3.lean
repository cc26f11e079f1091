/- Chapter 06: the error of a script, walked: the program's and the document's. -/
import Derived.Test.YtfhphjloaelgoaaGreatDoorG2
import Derived.Test.YtfhphjloaelgoaaGreatDoorDrG
namespace Go.Dr.T
def dedS (ks:List Int) (m:Int):List Int:=if m∈ks then ks else ks++[m]
def dedF (ks s:List Int):List Int:=s.foldl dedS ks
theorem dedF_same:∀ {s ks:List Int},(ks++s).Nodup→dedF ks s=ks++s
 | [],ks,_=>by simp [dedF]
 | m :: s,ks,h=>by
  have hm:m ∉ ks:=fun hm=>by
   rw [List.nodup_append] at h
   exact h.2.2 m hm m (by simp) rfl
  have:=dedF_same (s:=s) (ks:=ks++[m]) (by simpa using h)
  show dedF (dedS ks m) s=_
  unfold dedS
  rw [if_neg hm,this]
  simp
theorem dedF_le:∀ {s ks:List Int},(dedF ks s).length≤ks.length+s.length
 | [],ks=>by simp [dedF]
 | m :: s,ks=>by
  have:=dedF_le (s:=s) (ks:=dedS ks m)
  show (dedF (dedS ks m) s).length≤_
  have h2:(dedS ks m).length≤ks.length+1:=by
   unfold dedS
   split
   ·omega
   ·simp
  simp only [List.length_cons]
  omega
theorem dedF_lt:∀ {s ks:List Int},ks.Nodup→¬ (ks++s).Nodup→(dedF ks s).length<ks.length+s.length
 | [],ks,nd,h=>by rw [List.append_nil] at h;exact absurd nd h
 | m :: s,ks,nd,h=>by
  show (dedF (dedS ks m) s).length<_
  by_cases hm:m∈ks
  ·have e:dedS ks m=ks:=by unfold dedS;rw [if_pos hm]
   rw [e]
   have:=dedF_le (s:=s) (ks:=ks)
   simp only [List.length_cons]
   omega
  ·have e:dedS ks m=ks++[m]:=by unfold dedS;rw [if_neg hm]
   rw [e]
   have:=dedF_lt (s:=s) (ks:=ks++[m]) (by
    rw [List.nodup_append]
    exact ⟨nd,by simp,fun x hx y hy=>by rw [List.mem_singleton] at hy;subst hy;rintro rfl;exact hm hx⟩) (by simpa using h)
   have e2:(ks++[m]).length=ks.length+1:=by simp
   have e3:(m :: s).length=s.length+1:=rfl
   omega
theorem dedF_snoc {s:List Int} {i:Nat} {m:Int} (h:s[i]?=some m):dedF [] (s.take (i+1))=dedS (dedF [] (s.take i)) m:=by
 have:s.take (i+1)=s.take i++[m]:=by rw [List.take_add_one,h];rfl
 rw [this,dedF,List.foldl_append]
 rfl
def anyO (s:List Int):Bool:=s.any fun m=>outB m 1 999
def scrE (s:List Int):Int:=if 60<s.length then 3 else if anyO s=true then 7 else if s.Nodup then 0 else 5
set_option maxRecDepth 100000 in
set_option maxHeartbeats 20000000 in
theorem outs_ok {c:Bool} {s:List Int} (hs:s.length≤60):Fun FB md 103 [.sl c s.length (ofInts s),.fn 104 []] (.bool (anyO s)):=by
 have hi:Fun FB md 117 [.sl c s.length (ofInts s),.fn 104 []] (.int .i64 (match s.findIdx? fun m=>outB m 1 999 with
   | some i=>(i:Int)
   | none => -1)):=by
  refine fun_of rfl rfl ?_
  skip
  all_goals try (exfalso;omega;done)
  refine LoopP.by (fun i:Nat=>i≤s.length∧∀ m∈s.take i,outB m 1 999=false) (fun i=>[(8,.int .i64 (i:Nat))]) (fun _=>[]) (fun i=>s.length - i) 0 ⟨Nat.zero_le _,by simp⟩ rfl ?_
  rintro i ⟨w1,w2⟩
  dsimp only
  by_cases hi:i<s.length
  rotate_left
  ·rw [List.take_of_length_le (by omega)] at w2
   have:(s.findIdx? fun m=>outB m 1 999)=none:=by rw [List.findIdx?_eq_none_iff];exact w2
   rw [this]
   repeat' (first
 | (conv=>whnf)
   first
   | (refine Br.decF ?_ ?_;(focus first | assumption | omega))
   | refine Get.mk _ rfl ?_
   | refine Leaves.of ?_
   | refine Vw.int ?_)
   all_goals first | rfl | (exfalso;omega;done)
  obtain ⟨m,hm,hc⟩:=ofInts_cell hi
  have h1:Fun FB md 104 [.int .i64 m] (.bool (outB m 1 999)):=by
   have h0:=out_ok (n:=m) (lo:=1) (hi:=999)
   generalize outB m 1 999=b at *
   refine fun_of rfl rfl ?_
   repeat' (first
 | (conv=>whnf)
   first
   | refine call_fun rfl rfl h0 (.inl rfl) ?_
   | refine Get.mk _ rfl ?_
   | refine Leaves.of ?_
   | refine Vw.bool ?_)
   all_goals first | rfl | (exfalso;omega;done)
  cases hb:outB m 1 999 with
  | true =>
   have:(s.findIdx? fun m=>outB m 1 999)=some i:=by
    rw [List.findIdx?_eq_some_iff_getElem]
    obtain ⟨g1,g2⟩:=List.getElem?_eq_some_iff.1 hm
    refine ⟨g1,by rw [g2];exact hb,fun j hj => ?_⟩
    rw [w2 s[j] (by
     rw [List.mem_take_iff_getElem]
     exact ⟨j,by omega,rfl⟩)]
    simp
   rw [this]
   rw [hb] at h1
   repeat' (first
 | (conv=>whnf)
   first
   | refine Br.t ?_
   | (refine Br.decT ?_ ?_;(focus first | assumption | omega))
   | refine Get.mk _ hc ?_
   | refine call_fun rfl rfl h1 (.inl rfl) ?_
   | (refine Idx.nat ?_ ?_;(focus omega))
   | refine Get.mk _ rfl ?_
   | refine Leaves.of ?_
   | refine Vw.int ?_
   | (refine Req.mk ?_ ?_;(focus first | rfl | decide | exact ⟨rfl,rfl⟩ | exact ⟨rfl,by decide⟩ | exact (fun _=>rfl) | exact (fun h=>nomatch h) | (simp;done) | omega | (simp [big];done) | exact le_big (by omega) | exact lt_big (by omega))))
   all_goals first | rfl | (exfalso;omega;done)
  | false =>
   rw [hb] at h1
   have hn:∀ x∈s.take (i+1),outB x 1 999=false:=fun x hx=>by
    rw [List.take_add_one,hm] at hx
    rcases List.mem_append.1 hx with hx | hx
    ·exact w2 x hx
    ·rw [show (some m).toList=[m] from rfl,List.mem_singleton] at hx
     subst hx;exact hb
   repeat' (first
 | (conv=>whnf)
   first
   | refine Br.f ?_
   | (refine Br.decT ?_ ?_;(focus first | assumption | omega))
   | (refine Bnd.i64 ?_ ?_ ?_;(focus omega);(focus omega))
   | refine Get.mk _ hc ?_
   | refine call_fun rfl rfl h1 (.inl rfl) ?_
   | (refine Idx.nat ?_ ?_;(focus omega))
   | (refine Req.mk ?_ ?_;(focus first | rfl | decide | exact ⟨rfl,rfl⟩ | exact ⟨rfl,by decide⟩ | exact (fun _=>rfl) | exact (fun h=>nomatch h) | (simp;done) | omega | (simp [big];done) | exact le_big (by omega) | exact lt_big (by omega))))
   all_goals first | (exfalso;omega;done) | exact NextP.mk (i+1) ⟨hi,hn⟩ (by omega) rfl
 cases hf:s.findIdx? fun m=>outB m 1 999 with
 | none =>
  rw [hf] at hi
  have:anyO s=false:=by
   rw [List.findIdx?_eq_none_iff] at hf
   unfold anyO
   rw [List.any_eq_false]
   exact fun m hm=>by rw [hf m hm];simp
  rw [this]
  refine fun_of rfl rfl ?_
  repeat' (first
 | (conv=>whnf)
   first
   | refine call_fun rfl rfl hi (.inl rfl) ?_
   | refine Get.mk _ rfl ?_
   | refine Leaves.of ?_
   | refine Vw.bool ?_)
  all_goals first | rfl | (exfalso;omega;done)
 | some i =>
  rw [hf] at hi
  have:anyO s=true:=by
   rw [List.findIdx?_eq_some_iff_getElem] at hf
   obtain ⟨h1,h2,_⟩:=hf
   unfold anyO
   rw [List.any_eq_true]
   exact ⟨s[i],List.getElem_mem _,h2⟩
  rw [this]
  have h0:0≤(i:Int):=by omega
  dsimp only at hi
  refine fun_of rfl rfl ?_
  repeat' (first
 | (conv=>whnf)
   first
   | refine call_fun rfl rfl hi (.inl rfl) ?_
   | refine Get.mk _ rfl ?_
   | refine Leaves.of ?_
   | refine Vw.bool ?_)
  all_goals first | rfl | (exfalso;omega;done) | simp
set_option maxRecDepth 100000 in
set_option maxHeartbeats 20000000 in
theorem scripted_ok {c:Bool} {s:List Int} (hsh:s.length≤9223372036854775807):Fun FB md 75 [.sl c s.length (ofInts s)] (.int .i64 (scrE s)):=by
 refine fun_of rfl rfl ?_
 repeat' (first
 | (conv=>whnf)
   first
   | refine Get.mk _ rfl ?_)
 all_goals try (exfalso;omega;done)
 refine LoopP.by (fun i:Nat=>i≤s.length) (fun i=>[(9,.int .i64 (i:Nat))]) (fun i=>[mqB (dedF [] (s.take i))]) (fun i=>s.length - i) 0 (Nat.zero_le _) rfl ?_
 rintro i w1
 dsimp only
 by_cases hi:i<s.length
 ·obtain ⟨m,hm,hc⟩:=ofInts_cell hi
  have hsn:=dedF_snoc hm
  unfold dedS at hsn
  generalize dedF [] (s.take i)=ks at *
  by_cases hmk:m∈ks
  ·rw [if_pos hmk] at hsn
   obtain ⟨j,j1,j2,j3⟩:=mfind_mem (i:=0) hmk
   rw [Nat.zero_add] at j3
   have j5:=tset_true j1
   repeat' (first
 | (conv=>whnf)
   first
   | (refine Br.decT ?_ ?_;(focus first | assumption | omega))
   | (refine Bnd.i64 ?_ ?_ ?_;(focus omega);(focus omega))
   | refine Get.mk _ hc ?_
   | refine Get.mk _ j3 ?_
   | refine fVf j5 ?_
   | (refine Idx.nat ?_ ?_;(focus omega))
   | refine Get.mk _ rfl ?_
   | (refine Req.mk ?_ ?_;(focus first | rfl | decide | exact ⟨rfl,rfl⟩ | exact ⟨rfl,by decide⟩ | exact (fun _=>rfl) | exact (fun h=>nomatch h) | (simp;done) | omega | (simp [big];done) | exact le_big (by omega) | exact lt_big (by omega))))
   all_goals first | (exfalso;omega;done) | exact NextP.mk (i+1) hi (by omega) (by rw [hsn];rfl)
  ·rw [if_neg hmk] at hsn
   have j3:=mfind_not (i:=0) hmk
   have k1:ofInts ks++[V.int .i64 m]=ofInts (ks++[m]):=by simp [ofInts]
   have k2:List.replicate ks.length (V.bool true)++[V.bool true]=List.replicate (ks.length+1) (.bool true):=(List.replicate_succ' ..).symm
   repeat' (first
 | (conv=>whnf)
   first
   | (refine Br.decT ?_ ?_;(focus first | assumption | omega))
   | (refine Bnd.i64 ?_ ?_ ?_;(focus omega);(focus omega))
   | refine Get.mk _ hc ?_
   | refine Get.mk _ j3 ?_
   | refine fVf k1 ?_
   | refine fVf k2 ?_
   | (refine Idx.nat ?_ ?_;(focus omega))
   | refine Get.mk _ rfl ?_
   | (refine Req.mk ?_ ?_;(focus first | rfl | decide | exact ⟨rfl,rfl⟩ | exact ⟨rfl,by decide⟩ | exact (fun _=>rfl) | exact (fun h=>nomatch h) | (simp;done) | omega | (simp [big];done) | exact le_big (by omega) | exact lt_big (by omega))))
   all_goals first | (exfalso;omega;done) | exact NextP.mk (i+1) hi (by omega) (by rw [hsn,mqB_snoc];rfl)
 rw [List.take_of_length_le (by omega)]
 unfold scrE
 by_cases hl:60<s.length
 ·rw [if_pos hl]
  repeat' (first
 | (conv=>whnf)
   first
   | (refine Br.decT ?_ ?_;(focus first | assumption | omega))
   | (refine Br.decF ?_ ?_;(focus first | assumption | omega))
   | refine Get.mk _ rfl ?_
   | refine Leaves.of ?_
   | refine Vw.int ?_)
  all_goals first | rfl | (exfalso;omega;done)
 rw [if_neg hl]
 have ho:=outs_ok (c:=c) (s:=s) (by omega)
 cases hany:anyO s with
 | true =>
  rw [hany] at ho
  rw [if_pos rfl]
  repeat' (first
 | (conv=>whnf)
   first
   | refine Br.t ?_
   | (refine Br.decF ?_ ?_;(focus first | assumption | omega))
   | refine call_fun rfl rfl ho (.inl rfl) ?_
   | refine Get.mk _ rfl ?_
   | refine Leaves.of ?_
   | refine Vw.int ?_)
  all_goals first | rfl | (exfalso;omega;done)
 | false =>
  rw [hany] at ho
  rw [if_neg (by simp)]
  by_cases nd:s.Nodup
  ·rw [if_pos nd]
   have e:=dedF_same (ks:=[]) (s:=s) nd
   rw [List.nil_append] at e
   rw [e]
   have hol:((ofInts s).length:Int)=s.length:=by simp [ofInts]
   repeat' (first
 | (conv=>whnf)
   first
   | refine Br.f ?_
   | (refine Br.decF ?_ ?_;(focus first | assumption | omega))
   | refine call_fun rfl rfl ho (.inl rfl) ?_
   | refine Get.mk _ rfl ?_
   | refine Leaves.of ?_
   | refine Vw.int ?_)
   all_goals first | rfl | (exfalso;omega;done)
  ·rw [if_neg nd]
   have e:=dedF_lt (ks:=[]) (s:=s) .nil nd
   have hol:((ofInts (dedF [] s)).length:Int)=(dedF [] s).length:=by simp [ofInts]
   simp only [List.length_nil,Nat.zero_add] at e
   repeat' (first
 | (conv=>whnf)
   first
   | refine Br.f ?_
   | (refine Br.decT ?_ ?_;(focus first | assumption | omega))
   | (refine Br.decF ?_ ?_;(focus first | assumption | omega))
   | refine call_fun rfl rfl ho (.inl rfl) ?_
   | refine Get.mk _ rfl ?_
   | refine Leaves.of ?_
   | refine Vw.int ?_)
   all_goals first | rfl | (exfalso;omega;done)
theorem anyO_take {s:List Int} {i:Nat} {m:Int} (h:s[i]?=some m) (hb:outB m 1 999=true):anyO s=true:=by
 unfold anyO
 rw [List.any_eq_true]
 exact ⟨m,List.mem_of_getElem? h,hb⟩
theorem nodup_not {s:List Int} {i k:Nat} {m:Int} (h1:s[k]?=some m) (h2:s[i]?=some m) (h:k<i):¬ s.Nodup:=fun nd=>by
 have hk:=(List.getElem?_eq_some_iff.1 h1).1
 have:=(List.getElem?_inj (i:=k) (j:=i) hk nd).1 (by rw [h1,h2])
 omega
set_option maxRecDepth 100000 in
set_option maxHeartbeats 20000000 in
theorem refScripted_ok {c:Bool} {s:List Int}:Fun FB md 76 [.sl c s.length (ofInts s)] (.int .i64 (scrE s)):=by
 unfold scrE
 by_cases hl:60<s.length
 ·rw [if_pos hl]
  refine fun_of rfl rfl ?_
  repeat' (first
 | (conv=>whnf)
   first
   | (refine Br.decT ?_ ?_;(focus first | assumption | omega))
   | refine Get.mk _ rfl ?_
   | refine Leaves.of ?_
   | refine Vw.int ?_)
  all_goals first | rfl | (exfalso;omega;done)
 rw [if_neg hl]
 refine fun_of rfl rfl ?_
 repeat' (first
 | (conv=>whnf)
   first
   | (refine Br.decF ?_ ?_;(focus first | assumption | omega)))
 all_goals try (exfalso;omega;done)
 refine LoopP.by (fun i:Nat=>i≤s.length∧∀ (j:Nat) (m:Int),j<i→s[j]?=some m→outB m 1 999=false) (fun i=>[(3,.int .i64 (i:Nat))]) (fun _=>[]) (fun i=>s.length - i) 0 ⟨Nat.zero_le _,fun j m h=>absurd h (Nat.not_lt_zero j)⟩ rfl ?_
 rintro i ⟨w1,w2⟩
 dsimp only
 by_cases hi:i<s.length
 ·obtain ⟨m,hm,hc⟩:=ofInts_cell hi
  have h1:=in_ok (n:=m) (lo:=1) (hi:=999)
  cases hb:outB m 1 999 with
  | true =>
   rw [if_pos (anyO_take hm hb)]
   rw [hb] at h1
   repeat' (first
 | (conv=>whnf)
   first
   | refine Br.t ?_
   | (refine Br.decT ?_ ?_;(focus first | assumption | omega))
   | refine Get.mk _ hc ?_
   | refine call_fun rfl rfl h1 (.inl rfl) ?_
   | (refine Idx.nat ?_ ?_;(focus omega))
   | refine Get.mk _ rfl ?_
   | refine Leaves.of ?_
   | refine Vw.int ?_
   | (refine Req.mk ?_ ?_;(focus first | rfl | decide | exact ⟨rfl,rfl⟩ | exact ⟨rfl,by decide⟩ | exact (fun _=>rfl) | exact (fun h=>nomatch h) | (simp;done) | omega | (simp [big];done) | exact le_big (by omega) | exact lt_big (by omega))))
   all_goals first | rfl | (exfalso;omega;done)
  | false =>
   rw [hb] at h1
   have hn:∀ (j:Nat) (x:Int),j<i+1→s[j]?=some x→outB x 1 999=false:=fun j x hj hx=>by
    by_cases e:j=i
    ·subst e
     rw [hm] at hx
     cases hx
     exact hb
    ·exact w2 j x (by omega) hx
   repeat' (first
 | (conv=>whnf)
   first
   | refine Br.f ?_
   | (refine Br.decT ?_ ?_;(focus first | assumption | omega))
   | (refine Bnd.i64 ?_ ?_ ?_;(focus omega);(focus omega))
   | refine Get.mk _ hc ?_
   | refine call_fun rfl rfl h1 (.inl rfl) ?_
   | (refine Idx.nat ?_ ?_;(focus omega))
   | (refine Req.mk ?_ ?_;(focus first | rfl | decide | exact ⟨rfl,rfl⟩ | exact ⟨rfl,by decide⟩ | exact (fun _=>rfl) | exact (fun h=>nomatch h) | (simp;done) | omega | (simp [big];done) | exact le_big (by omega) | exact lt_big (by omega))))
   all_goals first | (exfalso;omega;done) | exact NextP.mk (i+1) ⟨hi,hn⟩ (by omega) rfl
 have hany:anyO s=false:=by
  unfold anyO
  rw [List.any_eq_false]
  intro m hm
  obtain ⟨j,hj⟩:=List.getElem?_of_mem hm
  rw [w2 j m (by have:=(List.getElem?_eq_some_iff.1 hj).1;omega) hj]
  simp
 rw [hany,if_neg (by simp)]
 repeat' (first
 | (conv=>whnf)
   first
   | (refine Br.decF ?_ ?_;(focus first | assumption | omega)))
 all_goals try (exfalso;omega;done)
 refine LoopP.by (fun i:Nat=>i≤s.length∧(s.take i).Nodup) (fun i=>[(4,.int .i64 (i:Nat))]) (fun _=>[]) (fun i=>s.length - i) 0 ⟨Nat.zero_le _,by simp⟩ rfl ?_
 rintro i ⟨v1,v2⟩
 dsimp only
 by_cases hi2:i<s.length
 ·obtain ⟨m,hm,hc⟩:=ofInts_cell hi2
  repeat' (first
 | (conv=>whnf)
   first
   | (refine Br.decT ?_ ?_;(focus first | assumption | omega)))
  all_goals try (exfalso;omega;done)
  refine LoopP.by (fun k:Nat=>k≤i∧∀ (j:Nat),j<k→s[j]?≠some m) (fun k=>[(5,.int .i64 (k:Nat))]) (fun _=>[]) (fun k=>i - k) 0 ⟨Nat.zero_le _,fun j h=>absurd h (Nat.not_lt_zero j)⟩ rfl ?_
  rintro k ⟨y1,y2⟩
  dsimp only
  by_cases hk:k<i
  ·obtain ⟨n,hn,hcn⟩:=ofInts_cell (l:=s) (i:=k) (by omega)
   by_cases e:n=m
   ·subst e
    rw [if_neg (nodup_not hn hm hk)]
    repeat' (first
 | (conv=>whnf)
   first
   | (refine Br.decT ?_ ?_;(focus first | assumption | omega))
   | refine Get.mk _ hcn ?_
   | refine Get.mk _ hc ?_
   | (refine Idx.nat ?_ ?_;(focus omega))
   | refine Get.mk _ rfl ?_
   | refine Leaves.of ?_
   | refine Vw.int ?_
   | (refine Req.mk ?_ ?_;(focus first | rfl | decide | exact ⟨rfl,rfl⟩ | exact ⟨rfl,by decide⟩ | exact (fun _=>rfl) | exact (fun h=>nomatch h) | (simp;done) | omega | (simp [big];done) | exact le_big (by omega) | exact lt_big (by omega))))
    all_goals first | rfl | (exfalso;omega;done)
   ·have hnn:∀ (j:Nat),j<k+1→s[j]?≠some m:=fun j hj h=>by
     by_cases ej:j=k
     ·subst ej
      rw [hn] at h
      cases h
      exact e rfl
     ·exact y2 j (by omega) h
    repeat' (first
 | (conv=>whnf)
   first
   | (refine Br.decT ?_ ?_;(focus first | assumption | omega))
   | (refine Br.decF ?_ ?_;(focus first | assumption | omega))
   | (refine Bnd.i64 ?_ ?_ ?_;(focus omega);(focus omega))
   | refine Get.mk _ hcn ?_
   | refine Get.mk _ hc ?_
   | (refine Idx.nat ?_ ?_;(focus omega))
   | (refine Req.mk ?_ ?_;(focus first | rfl | decide | exact ⟨rfl,rfl⟩ | exact ⟨rfl,by decide⟩ | exact (fun _=>rfl) | exact (fun h=>nomatch h) | (simp;done) | omega | (simp [big];done) | exact le_big (by omega) | exact lt_big (by omega))))
    all_goals first | (exfalso;omega;done) | exact NextP.mk (k+1) ⟨hk,hnn⟩ (by omega) rfl
  ·have hki:k=i:=by omega
   subst hki
   have hnn:(s.take (k+1)).Nodup:=by
    rw [List.take_add_one,hm]
    show (s.take k++[m]).Nodup
    rw [List.nodup_append]
    refine ⟨v2,by simp,fun x hx y hy => ?_⟩
    rw [List.mem_singleton] at hy
    subst hy
    rintro rfl
    rw [List.mem_take_iff_getElem] at hx
    obtain ⟨j,hj,he⟩:=hx
    exact y2 j (by omega) (by rw [← he];exact List.getElem?_eq_getElem _)
   repeat' (first
 | (conv=>whnf)
   first
   | (refine Br.decF ?_ ?_;(focus first | assumption | omega))
   | (refine Bnd.i64 ?_ ?_ ?_;(focus omega);(focus omega)))
   all_goals first | (exfalso;omega;done) | exact NextP.mk (k+1) ⟨hi2,hnn⟩ (by omega) rfl
 rw [List.take_of_length_le (by omega)] at v2
 rw [if_pos v2]
 repeat' (first
 | (conv=>whnf)
   first
   | (refine Br.decF ?_ ?_;(focus first | assumption | omega))
   | refine Get.mk _ rfl ?_
   | refine Leaves.of ?_
   | refine Vw.int ?_)
 all_goals first | rfl | (exfalso;omega;done)
end Go.Dr.T
namespace Go.Dr.T
theorem fB.i2 {h g:List B} {K:List B→Prop} (hk:fB g fun r=>K (h++r)):fB (if 2=0 then h else h++g) K:=by rw [if_neg (by decide)];exact fB.tail hk
theorem fB.i1 {h g:List B} {K:List B→Prop} (hk:fB g fun r=>K (h++r)):fB (if 1=0 then h else h++g) K:=by rw [if_neg (by decide)];exact fB.tail hk
theorem fB.i0 {h g:List B} {K:List B→Prop} (hk:K h):fB (if 0=0 then h else g) K:=fB.mk (by rw [if_pos rfl];exact hk)
theorem trunc_two {n:Nat} {tm:List V} {L:List B} {c1 c2:B} (hL:L.length=n) (h0:blos n tm=true) (h1:blos (n+1) tm=true) (h2:hbelow (n+1) (L++[c1])=true) (h3:hbelow n L=true):trunc n tm (L++[c1,c2])=L:=by
 subst hL
 have e1:(L++[c1,c2]).take (L.length+1)=L++[c1]:=by rw [List.take_length_add_append];rfl
 have e2:(L++[c1]).take L.length=L:=by simp
 unfold trunc
 rw [show (L++[c1,c2]).length - L.length=2 by simp]
 unfold strip
 simp only [e1,h1,h2,Bool.and_self,if_true]
 unfold strip
 simp only [Nat.add_zero,e2,h0,h3,Bool.and_self,if_true,strip]
theorem hbelow_snoc {n:Nat} {c:B}:∀ {L:List B},hbelow n L=true→c.blo n=true→hbelow n (L++[c])=true
 | [],_,h=>by simp [hbelow,h]
 | x :: L,h,hc=>by
  simp only [hbelow,Bool.and_eq_true,List.cons_append] at h ⊢
  exact ⟨h.1,hbelow_snoc h.2 hc⟩
theorem fBtr {n:Nat} {k:IntKind} {z:Int} {L G:List B} {c1 c2:B} {K:List B→Prop} (hL:L.length=n) (hG:G=L++[c1,c2]) (h2:hbelow (n+1) (L++[c1])=true) (h3:hbelow n L=true) (hk:K L):fB (trunc n [.int k z] G) K :=
 fB.mk (by subst hG;rw [trunc_two hL rfl rfl h2 h3];exact hk)
theorem fVg' {l l' : List V} {K:List V→Prop} (e:l=l') (h:K l'):fV l K:=fV.mk (e ▸ h)
inductive Hid (p:Prop):Prop where
 | mk:p→Hid p
theorem trunc_one {n:Nat} {tm:List V} {L:List B} {c:B} (hL:L.length=n) (h0:blos n tm=true) (h1:hbelow n L=true):trunc n tm (L++[c])=L:=by
 subst hL
 have e2:(L++[c]).take L.length=L:=by simp
 unfold trunc
 rw [show (L++[c]).length - L.length=1 by simp]
 unfold strip
 simp only [Nat.add_zero,e2,h0,h1,Bool.and_self,if_true,strip]
theorem fBtr1 {n:Nat} {k:IntKind} {z:Int} {L G:List B} {c:B} {K:List B→Prop} (hL:L.length=n) (hG:G=L++[c]) (h:hbelow n L=true) (hk:K L):fB (trunc n [.int k z] G) K :=
 fB.mk (by subst hG;rw [trunc_one hL rfl h];exact hk)
theorem blos_tg {n:Nat}:∀ {tm:List V} {i:Nat},blos n tm=true→(tg tm i).blo n=true
 | [],_,_=>by simp [tg,V.blo]
 | v :: l,0,h=>by simp only [blos,Bool.and_eq_true] at h;exact h.1
 | v :: l,i+1,h=>by simp only [blos,Bool.and_eq_true] at h;exact blos_tg (tm:=l) (i:=i) h.2
theorem strip_keep {n i id:Nat} {tm:List V} {b:B} (hv:∀ k,(tg tm i).blo k=true→id<k):∀ {j:Nat} {h:List B},h.length=n+j→bget h id=some b→bget (strip n tm j h) id=some b
 | 0,h,_,e=>e
 | j+1,h,hl,e=>by
  unfold strip
  split
  ·rename_i hc
   rw [Bool.and_eq_true] at hc
   have hid:=hv _ (blos_tg (i:=i) hc.1)
   exact strip_keep hv (by rw [List.length_take];omega) (by rw [bget_take hid];exact e)
  ·exact e
theorem strip_len {n:Nat} {tm:List V}:∀ {j:Nat} {h:List B},h.length=n+j→n≤(strip n tm j h).length
 | 0,h,hl=>by unfold strip;omega
 | j+1,h,hl=>by
  unfold strip
  split
  ·exact strip_len (by rw [List.length_take];omega)
  ·omega
theorem norm_keep {m:List Bool} {n i id:Nat} {s:St} {b:B} (hn:n≤s.h.length) (hv:∀ k,(tg (masked m s.tm) i).blo k=true→id<k) (e:bget s.h id=some b):bget (norm m n s).h id=some b :=
 strip_keep (i:=i) hv (by omega) e
theorem norm_len {m:List Bool} {n:Nat} {s:St} (hn:n≤s.h.length):n≤(norm m n s).h.length:=strip_len (by omega)
theorem NextP.of {α:Type} {P:α→Prop} {I:α→St} {μ:α→Nat} {a:α} {s:St} (f:List B→α) (h1:P (f s.h)) (h2:μ (f s.h)<μ a) (h3:s=I (f s.h)):NextP P I μ a s:=⟨f s.h,h1,h2,h3⟩
theorem CallP.heap {F:Nat→Option Fc} {md ro f a h h' K} (e:h=h') (hc:CallP F md ro f a h' K):CallP F md ro f a h K:=by subst e;exact hc
theorem bget_lop {hh:List B} {L:B} {n:Nat} (e:hh.length=n):bget (hh++[L]) (n+0)=some L:=by subst e;exact bget_new (i:=0)
theorem bset_lop {hh:List B} {L L' : B} {n:Nat} (e:hh.length=n):bset (hh++[L]) (n+0) L' = hh++[L']:=by subst e;rw [bset_new];rfl
theorem fB.lop {hh g:List B} {L L' : B} {n:Nat} {K:List B→Prop} (e:hh.length=n) (hk:K ((hh++[L'])++g)):fB (bset ((hh++[L])++g) (n+0) L') K:=fB.mk (by rw [bset_app (by rw [List.length_append,e];exact Nat.lt_succ_self n),bset_lop e];exact hk)
theorem fLen.as {h:List B} {n:Nat} {K:Nat→Prop} (e:h.length=n) (hk:K (n+0)):fLen h 0 K:=by subst e;exact fLen.mk hk
theorem bset_two {h:List B} {n:Nat} {a b:B}:bset (bset h n a) n b=bset h n b:=by rw [bset_eq,bset_eq,bset_eq,List.set_set]
def Cl (h:List B):Prop:=hbelow h.length h=true
theorem Bblo_mono {n m:Nat} (h:n≤m):∀ (b:B),b.blo n=true→b.blo m=true
 | .blk c dat,e=>by
  simp only [B.blo,Bool.or_eq_true] at e ⊢
  rcases e with e | e
  ·exact .inl e
  ·exact .inr (blos_mono h _ e)
 | .unborn,_=>rfl
 | .lop _ _ tm _ _ _,e=>blos_mono h tm e
 | .mp ks vs,e=>by simp only [B.blo,Bool.and_eq_true] at e ⊢; exact ⟨blos_mono h _ e.1,blos_mono h _ e.2⟩
 | .mq _ _ ks vs,e=>by simp only [B.blo,Bool.and_eq_true] at e ⊢; exact ⟨blos_mono h _ e.1,blos_mono h _ e.2⟩
 | .it a _ _ _,e=>by simp only [B.blo,decide_eq_true_eq] at e ⊢; omega
 | .ir _ _ _,_=>rfl
theorem hbelow_mono {n m:Nat} (h:n≤m):∀ (l:List B),hbelow n l=true→hbelow m l=true
 | [],_=>rfl
 | b :: l,e=>by simp only [hbelow,Bool.and_eq_true] at e ⊢; exact ⟨Bblo_mono h b e.1,hbelow_mono h l e.2⟩
theorem Cl.app {h:List B} {b:B} (c:Cl h) (e:b.blo h.length=true):Cl (h++[b]):=by
 unfold Cl
 rw [List.length_append]
 exact hbelow_mono (Nat.le_add_right _ _) _ (hbelow_snoc c e)
theorem hbelow_set {m:Nat} {b:B} (e:b.blo m=true):∀ {h:List B} {n:Nat},hbelow m h=true→hbelow m (bset h n b)=true
 | [],n,_=>by cases n <;> rfl
 | a :: l,0,c=>by simp only [bset,hbelow,Bool.and_eq_true] at c ⊢; exact ⟨e,c.2⟩
 | a :: l,n+1,c=>by simp only [bset,hbelow,Bool.and_eq_true] at c ⊢; exact ⟨c.1,hbelow_set e c.2⟩
theorem Cl.set {h:List B} {n:Nat} {b:B} (c:Cl h) (e:b.blo h.length=true):Cl (bset h n b):=by
 unfold Cl;rw [bset_len];exact hbelow_set e c
theorem strip_cl {n:Nat} {tm:List V}:∀ {j:Nat} {h:List B},h.length=n+j→Cl h→Cl (strip n tm j h)
 | 0,h,_,c=>c
 | j+1,h,hl,c=>by
  unfold strip
  split
  ·rename_i hc
   rw [Bool.and_eq_true] at hc
   have hl' : (h.take (n+j)).length=n+j:=by rw [List.length_take];omega
   exact strip_cl hl' (by unfold Cl;rw [hl'];exact hc.2)
  ·exact c
theorem norm_cl {m:List Bool} {n:Nat} {s:St} (hn:n≤s.h.length) (c:Cl s.h):Cl (norm m n s).h:=strip_cl (by omega) c
theorem fB.two {hh:List B} {n:Nat} {L bx b:B} {K:List B→Prop} (hn:n<hh.length) (hk:K ((bset hh n b++[L])++[bx])):fB (bset ((hh++[L])++[bx]) n b) K :=
 fB.mk (by rw [bset_app (by rw [List.length_append];omega),bset_app hn];exact hk)
theorem end_eq {hh:List B} {v:V} {L L' bx:B} {m n:Nat} {K:V→List B→Prop} (hk:K v (hh++[L])) (e:hh.length=n) (hm:m=n+1) (c:Cl hh) (hb:L'.blo n=true):K v (bset (trunc m [] ((hh++[L'])++[bx])) (n+0) L):=by
 have hl:(hh++[L']).length=m:=by rw [List.length_append,e,hm];rfl
 have c2:Cl (hh++[L']):=c.app (by rw [e];exact hb)
 rw [trunc_one hl rfl (by have:=c2;unfold Cl at this;rw [hl] at this;exact this),bset_lop e]
 exact hk
theorem fB.lop1 {hh:List B} {L L' : B} {n:Nat} {K:List B→Prop} (e:hh.length=n) (hk:∀ h3,h3=hh++[L']→K h3):fB (bset (hh++[L]) (n+0) L') K:=fB.mk (by rw [bset_lop e];exact hk _ rfl)
theorem fB.as {l l' : List B} {K:List B→Prop} (e:l=l') (h:K l'):fB l K:=fB.mk (e ▸ h)
theorem fV.as {l l' : List V} {K:List V→Prop} (e:l=l') (h:K l'):fV l K:=fV.mk (e ▸ h)
theorem fB.gen {h:List B} {n:Nat} {b:B} {K:List B→Prop} (hn:n<h.length) (hc:Cl h) (hb:b.blo h.length=true) (hk:∀ h', Cl h' → h'.length=h.length→bget h' n=some b→(∀ m,n≠m→bget h' m=bget h m)→K h'):fB (bset h n b) K :=
 fB.mk (hk _ (hc.set hb) (bset_len ..) (bget_same hn) fun m hm=>bset_other hm)
theorem fBtr1c {n:Nat} {k:IntKind} {z:Int} {L:List B} {c:B} {K:List B→Prop} (hL:L.length=n) (hc:Cl L) (hk:K L):fB (trunc n [.int k z] (L++[c])) K:=by
 subst hL
 exact fBtr1 (L:=L) rfl rfl hc hk
end Go.Dr.T
