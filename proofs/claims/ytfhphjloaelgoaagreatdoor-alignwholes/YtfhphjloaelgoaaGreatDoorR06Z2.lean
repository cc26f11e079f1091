/- Chapter 06: the document's Whole: plain, and walked. -/
import Derived.Test.YtfhphjloaelgoaaGreatDoorR06Z1
namespace Go.Dr.T
def frN (T:Nat→Nat→Bool) (R:Nat→Bool) (m:Nat):Nat→Bool
 | 0=>R m
 | k+1=>frN T R m k && !(R (k+1) && T (k+1) m)
def fdN (P:Nat→Bool):Nat→Nat
 | 0=>0
 | n+1=>if fdN P n≠0 then fdN P n else if P (n+1) then n+1 else 0
theorem fdN_le {P:Nat→Bool}:∀ n,fdN P n≤n
 | 0=>Nat.le_refl _
 | n+1=>by
  have:=fdN_le (P:=P) n
  unfold fdN
  split
  ·omega
  ·split <;> omega
theorem fdN_keep {P:Nat→Bool} {n:Nat} (h:fdN P n≠0):∀ {m},n≤m→fdN P m=fdN P n
 | 0,hm=>by rw [show n=0 by omega]
 | m+1,hm=>by
  by_cases e:n=m+1
  ·rw [e]
  ·have:=fdN_keep h (m:=m) (by omega)
   rw [fdN,if_pos (by omega),this]
theorem frN_no {T:Nat→Nat→Bool} {R:Nat→Bool} {m n:Nat} (h:frN T R m n=false):∀ {k},n≤k→frN T R m k=false
 | 0,hk=>by rw [← show n=0 by omega];exact h
 | k+1,hk=>by
  by_cases e:n=k+1
  ·rw [← e];exact h
  ·rw [frN,frN_no h (k:=k) (by omega)];rfl
def fdT (T:Nat→Nat→Bool) (R:Nat→Bool):Nat:=fdN (fun m=>frN T R m 999) 999
theorem fdT_eq {T:Nat→Nat→Bool} {R:Nat→Bool}:fdT T R=fdN (fun m=>frN T R m 999) 999:=rfl
attribute [irreducible] fdT
def whN (T:Nat→Nat→Bool):Nat→(Nat→Bool)→List Nat→Option (List Nat)
 | 0,_,_=>none
 | n+1,R,out=>if fdT T R=0 then some out else whN T n (upB R (fdT T R) false) (out++[fdT T R])
theorem fdT_le {T:Nat→Nat→Bool} {R:Nat→Bool}:fdT T R≤999:=by rw [fdT_eq];exact fdN_le 999
def nthN (A:List Nat) (i:Nat):Nat:=A.getD i 0
def onN (c:Nat→Nat→Bool) (A:List Nat):Nat→Bool
 | 0=>true
 | i+1=>onN c A i && c (nthN A i) (nthN A (i+1))
def ovV (out:List Nat):V:=match out with
 | []=>.nilsl
 | _ :: _=>.ms 1 1 out.length 0 out.length false
def ovH (R:Nat→Bool) (out:List Nat):List B:=match out with
 | []=>[.blk (boC 1000 R) true]
 | _ :: _=>[.blk (boC 1000 R) true,.blk (ofInts (nI out)) true]
theorem ov_ne {out:List Nat} (h:out≠[]) {R:Nat→Bool}:ovV out = .ms 1 1 out.length 0 out.length false∧ovH R out=[.blk (boC 1000 R) true,.blk (ofInts (nI out)) true]:=by
 cases out with
 | nil=>exact absurd rfl h
 | cons x l=>exact ⟨rfl,rfl⟩
theorem nthN_cell {A:List Nat} {i:Nat} (h:i<A.length):cellAt (ofInts (nI A)) (0+i * 1)=some (.int .i64 (nthN A i:Nat)):=by
 rw [Nat.zero_add,Nat.mul_one]
 refine ofnI_cell ?_
 simp [nthN,List.getD,h]
structure WA where
 n:Nat
 R:Nat→Bool
 out:List Nat
structure WF where
 f:Nat
 m:Nat
def whoNV (A:List Nat) (o:Bool):V:=.tup [lw false (nI A),.bool o,.int .i64 0]
def wNb (T:Nat→Nat→Bool) (R:Nat→Bool) (m:Nat):Bool:=frN T R m 999
theorem whN_len {T:Nat→Nat→Bool}:∀ {n:Nat} {R:Nat→Bool} {out A:List Nat},whN T n R out=some A→A.length+1≤out.length+n
 | 0,R,out,A,h=>by rw [whN] at h;cases h
 | n+1,R,out,A,h=>by
  rw [whN] at h
  split at h
  ·cases h;omega
  ·have:=whN_len h
   rw [List.length_append] at this
   simp at this
   omega
theorem whN_rng {T:Nat→Nat→Bool}:∀ {n:Nat} {R:Nat→Bool} {out A:List Nat},(∀ k∈out,1≤k∧k<1000)→whN T n R out=some A→∀ k∈A,1≤k∧k<1000
 | 0,R,out,A,_,h=>by rw [whN] at h;cases h
 | n+1,R,out,A,ho,h=>by
  rw [whN] at h
  split at h
  ·cases h;exact ho
  ·rename_i hf
   refine whN_rng (fun k hk => ?_) h
   rcases List.mem_append.1 hk with hk | hk
   ·exact ho k hk
   ·rw [List.mem_singleton] at hk
    have:=fdT_le (T:=T) (R:=R)
    omega
theorem lwI_ne {A:List Nat} (h:A≠[]):lw false (nI A) = .sl false A.length (ofInts (nI A)):=by
 cases A with
 | nil=>exact absurd rfl h
 | cons x l=>simp [nI,lw]
set_option maxRecDepth 100000 in
set_option maxHeartbeats 20000000 in
theorem refWhole_ok {cc:Bool} {l:List El} (hv:vldE l=0) (hr:rndN l=none) {n0:Nat} {A:List Nat} {c:Nat→Nat→Bool} (hn0:n0≤1001) (hA:whN (dirT l) n0 (thF l) []=some A) (hc:∀ i,i+1<A.length→Fun FB md 74 [tabB 1000 (dirT l),.int .i64 (nthN A i:Nat),.int .i64 (nthN A (i+1):Nat)] (.bool (c (nthN A i) (nthN A (i+1))))):Fun FB md 34 [elsV cc l] (whoNV A (onN c A (A.length - 1))):=by
 have hva:=valid_ok (c:=cc) (l:=l)
 have hnm:=named_ok (c:=cc) hv
 have hd:=direct_ok (c:=cc) hv
 rw [hv] at hva
 rw [hr] at hnm
 have hth:∀ {ro:Nat} {K:V→List B→Prop},K (.ms 1 0 1000 0 1000 true) [.blk (boC 1000 (thF l)) true]→ro=0→CallP FB md ro (.fn 73 []) [elsV cc l] [] K:=fun h1 h2=>there_call hv h1 h2
 generalize thF l=R0 at *
 generalize dirT l=T at *
 refine fun_of rfl rfl ?_
 repeat' (first
 | (conv=>whnf)
   first
   | refine Br.t ?_
   | refine Br.f ?_
   | refine call_fun rfl rfl hva (.inl rfl) ?_
   | refine call_fun rfl rfl hnm (.inl rfl) ?_
   | refine call_fresh rfl rfl hd ?_
   | refine hth ?_ rfl)
 all_goals try (exfalso;omega;done)
 refine LoopP.by (fun a:WA=>whN T a.n a.R a.out=some A∧a.out.length+a.n≤n0) (fun a=>[(8,ovV a.out)]) (fun a=>ovH a.R a.out) (fun a=>a.n) ⟨n0,R0,[]⟩ ⟨hA,by simp⟩ rfl ?_
 clear hA
 rintro ⟨n,R,out⟩ ⟨w1,w2⟩
 dsimp only at w1 w2 ⊢
 cases n with
 | zero=>rw [whN] at w1;cases w1
 | succ n =>
 rw [whN] at w1
 obtain ⟨P,hPe⟩:∃ P:Nat→Bool,(fun m=>frN T R m 999)=P:=⟨_,rfl⟩
 rw [fdT_eq,hPe] at w1
 by_cases ho:out=[]
 ·subst ho
  dsimp only [ovV,ovH]
  skip
  all_goals try (exfalso;omega;done)
  refine LoopP.by (fun s:WF=>1≤s.m∧s.m≤1000∧s.f=fdN P (s.m - 1)) (fun s=>[(9,.int .i64 (s.f:Nat)),(10,.int .i64 (s.m:Nat))]) (fun _=>[B.blk (boC 1000 R) true]) (fun s=>1000 - s.m) ⟨0,1⟩ ⟨Nat.le_refl _,by decide,rfl⟩ rfl ?_
  rintro ⟨f,m⟩ ⟨z1,z2,z3⟩
  dsimp only at z1 z2 z3 ⊢
  by_cases hmf:m<1000∧f=0
  ·obtain ⟨hm,hf0⟩:=hmf
   subst hf0
   have gm:=boC_get (f:=R) hm
   repeat' (first
 | (conv=>whnf)
   first
   | refine Br.t ?_
   | (refine Br.decT ?_ ?_;(focus first | assumption | omega))
   | refine Get.mk _ gm ?_
   | (refine Idx.nat ?_ ?_;(focus omega))
   | refine Get.mk _ rfl ?_
   | (refine Req.mk ?_ ?_;(focus first | rfl | decide | exact ⟨rfl,rfl⟩ | exact ⟨rfl,by decide⟩ | exact (fun _=>rfl) | exact (fun h=>nomatch h) | (simp;done) | omega | (simp [big];done) | exact le_big (by omega) | exact lt_big (by omega))))
   all_goals try (exfalso;omega;done)
   refine LoopP.by (fun k:Nat=>1≤k∧k≤1000) (fun k=>[(11,.bool (frN T R m (k - 1))),(12,.int .i64 (k:Nat))]) (fun _=>[B.blk (boC 1000 R) true]) (fun k=>1000 - k) 1 (by decide) rfl ?_
   rintro k ⟨y1,y2⟩
   dsimp only
   by_cases hk:k<1000∧frN T R m (k - 1)=true
   ·obtain ⟨hk,hfr⟩:=hk
    obtain ⟨j,rfl⟩:∃ j,k=j+1:=⟨k - 1,by omega⟩
    have hup:frN T R m (j+1+1 - 1) = !(R (j+1) && T (j+1) m):=by rw [Nat.add_sub_cancel,frN,show frN T R m j=true from hfr];rfl
    rw [hfr]
    have gk:=boC_get (f:=R) hk
    have gr:=tabB_get (T:=T) hk
    have gt:=boC_get' (f:=T (j+1)) hm
    cases hR:R (j+1) with
    | false =>
     rw [hR] at gk hup
     repeat' (first
 | (conv=>whnf)
   first
   | refine Br.t ?_
   | refine Br.f ?_
   | (refine Br.decT ?_ ?_;(focus first | assumption | omega))
   | (refine Bnd.i64 ?_ ?_ ?_;(focus omega);(focus omega))
   | refine Get.mk _ gk ?_
   | (refine Idx.nat ?_ ?_;(focus omega))
   | refine Get.mk _ rfl ?_
   | (refine Req.mk ?_ ?_;(focus first | rfl | decide | exact ⟨rfl,rfl⟩ | exact ⟨rfl,by decide⟩ | exact (fun _=>rfl) | exact (fun h=>nomatch h) | (simp;done) | omega | (simp [big];done) | exact le_big (by omega) | exact lt_big (by omega))))
     all_goals first | (exfalso;omega;done) | exact NextP.mk (j+1+1) (by omega) (by omega) (by rw [hup];rfl)
    | true =>
     rw [hR] at gk hup
     cases hT:T (j+1) m with
     | false =>
      rw [hT] at gt hup
      repeat' (first
 | (conv=>whnf)
   first
   | refine Br.t ?_
   | (refine Br.decT ?_ ?_;(focus first | assumption | omega))
   | (refine Bnd.i64 ?_ ?_ ?_;(focus omega);(focus omega))
   | refine Get.mk _ gk ?_
   | refine Get.mk _ gr ?_
   | refine Get.mk _ gt ?_
   | (refine Idx.nat ?_ ?_;(focus omega))
   | refine Get.mk _ rfl ?_
   | (refine Req.mk ?_ ?_;(focus first | rfl | decide | exact ⟨rfl,rfl⟩ | exact ⟨rfl,by decide⟩ | exact (fun _=>rfl) | exact (fun h=>nomatch h) | (simp;done) | omega | (simp [big];done) | exact le_big (by omega) | exact lt_big (by omega))))
      all_goals first | (exfalso;omega;done) | exact NextP.mk (j+1+1) (by omega) (by omega) (by rw [hup];rfl)
     | true =>
      rw [hT] at gt hup
      repeat' (first
 | (conv=>whnf)
   first
   | refine Br.t ?_
   | (refine Br.decT ?_ ?_;(focus first | assumption | omega))
   | (refine Bnd.i64 ?_ ?_ ?_;(focus omega);(focus omega))
   | refine Get.mk _ gk ?_
   | refine Get.mk _ gr ?_
   | refine Get.mk _ gt ?_
   | (refine Idx.nat ?_ ?_;(focus omega))
   | refine Get.mk _ rfl ?_
   | (refine Req.mk ?_ ?_;(focus first | rfl | decide | exact ⟨rfl,rfl⟩ | exact ⟨rfl,by decide⟩ | exact (fun _=>rfl) | exact (fun h=>nomatch h) | (simp;done) | omega | (simp [big];done) | exact le_big (by omega) | exact lt_big (by omega))))
      all_goals first | (exfalso;omega;done) | exact NextP.mk (j+1+1) (by omega) (by omega) (by rw [hup];rfl)
   ·have hP:fdN P m=if frN T R m 999=true then m else 0:=by
     obtain ⟨m', rfl⟩:∃ m', m=m' + 1:=⟨m - 1,by omega⟩
     rw [Nat.add_sub_cancel] at z3
     rw [fdN, ← z3,if_neg (fun h=>h rfl), ← hPe]
    cases hfr:frN T R m (k - 1) with
    | false =>
     have h9:frN T R m 999=false:=frN_no hfr (by omega)
     rw [h9,if_neg (by decide)] at hP
     by_cases hk' : k<1000
     ·repeat' (first
 | (conv=>whnf)
   first
   | refine Br.f ?_
   | (refine Br.decT ?_ ?_;(focus first | assumption | omega))
   | (refine Bnd.i64 ?_ ?_ ?_;(focus omega);(focus omega)))
      all_goals first | (exfalso;omega;done) | exact NextP.mk ⟨0,m+1⟩ ⟨by (try dsimp only);omega,by (try dsimp only);omega,hP.symm⟩ (by (try dsimp only);omega) rfl
     ·repeat' (first
 | (conv=>whnf)
   first
   | refine Br.f ?_
   | (refine Br.decF ?_ ?_;(focus first | assumption | omega))
   | (refine Bnd.i64 ?_ ?_ ?_;(focus omega);(focus omega)))
      all_goals first | (exfalso;omega;done) | exact NextP.mk ⟨0,m+1⟩ ⟨by (try dsimp only);omega,by (try dsimp only);omega,hP.symm⟩ (by (try dsimp only);omega) rfl
    | true =>
     have hk' : k=1000:=by
      by_cases h:k<1000
      ·exact absurd ⟨h,hfr⟩ hk
      ·omega
     subst hk'
     have h9:frN T R m 999=true:=hfr
     rw [h9,if_pos rfl] at hP
     repeat' (first
 | (conv=>whnf)
   first
   | refine Br.t ?_
   | refine Br.f ?_
   | (refine Bnd.i64 ?_ ?_ ?_;(focus omega);(focus omega)))
     all_goals first | (exfalso;omega;done) | exact NextP.mk ⟨m,m+1⟩ ⟨by (try dsimp only);omega,by (try dsimp only);omega,hP.symm⟩ (by (try dsimp only);omega) rfl
  ·have hF:f=fdN P 999:=by
    by_cases hf0:f=0
    ·rw [z3,show m=1000 by omega]
    ·rw [z3]
     exact (fdN_keep (by omega) (by omega)).symm
   by_cases hf0:f=0
   ·have hm:m=1000:=by omega
    subst hm
    rw [← hF,if_pos hf0,Option.some.injEq] at w1
    subst w1
    subst hf0
    repeat' (first
 | (conv=>whnf)
   first
   | refine Br.t ?_
   | refine Br.f ?_)
    all_goals try (exfalso;omega;done)
    refine LoopP.by (fun i:Nat=>i=1) (fun i=>[(13,.bool true),(14,.int .i64 (i:Nat))]) (fun _=>[B.blk (boC 1000 R) true]) (fun i=>1 - i) 1 rfl rfl ?_
    rintro i rfl
    dsimp only
    repeat' (first
 | (conv=>whnf)
   first
   | refine Br.f ?_
   | refine Get.mk _ rfl ?_
   | refine Leaves.of ?_
   | refine Vw.bool ?_
   | refine Vw.int ?_
   | refine Vw.nil
   | refine Vw.tup ?_
   | refine VwL.cons ?_ ?_
   | refine VwL.nil)
    all_goals first | rfl | (exfalso;omega;done)
   ·rw [← hF,if_neg hf0] at w1
    have hfl:f<1000:=by have:=fdN_le (P:=P) 999;omega
    have hov:over (boC 1000 R) (0+f * 1) [.bool false]=boC 1000 (upB R f false):=boC_set hfl
    have hln:(boC 1000 R).length=1000 * 1∧0+f * 1+1≤(boC 1000 R).length:=by rw [boC_len];omega
    by_cases hm:m<1000
    ·repeat' (first
 | (conv=>whnf)
   first
   | (refine Br.decT ?_ ?_;(focus first | assumption | omega))
   | (refine Br.decF ?_ ?_;(focus first | assumption | omega))
   | refine Req.mk hln ?_
   | refine fVg' hov ?_
   | (refine Idx.nat ?_ ?_;(focus omega))
   | (refine Ifz.pos ?_ ?_;(focus omega))
   | refine Get.mk _ rfl ?_
   | (refine Req.mk ?_ ?_;(focus first | rfl | decide | exact ⟨rfl,rfl⟩ | exact ⟨rfl,by decide⟩ | exact (fun _=>rfl) | exact (fun h=>nomatch h) | (simp;done) | omega | (simp [big];done) | exact le_big (by omega) | exact lt_big (by omega))))
     all_goals first | (exfalso;omega;done) | (refine NextP.mk ⟨n,upB R f false,[]++[f]⟩ ⟨w1,by simp;omega⟩ (by (try dsimp only);omega) ?_;rfl)
    ·repeat' (first
 | (conv=>whnf)
   first
   | refine Br.f ?_
   | (refine Br.decF ?_ ?_;(focus first | assumption | omega))
   | refine Req.mk hln ?_
   | refine fVg' hov ?_
   | (refine Idx.nat ?_ ?_;(focus omega))
   | (refine Ifz.pos ?_ ?_;(focus omega))
   | refine Get.mk _ rfl ?_
   | (refine Req.mk ?_ ?_;(focus first | rfl | decide | exact ⟨rfl,rfl⟩ | exact ⟨rfl,by decide⟩ | exact (fun _=>rfl) | exact (fun h=>nomatch h) | (simp;done) | omega | (simp [big];done) | exact le_big (by omega) | exact lt_big (by omega))))
     all_goals first | (exfalso;omega;done) | (refine NextP.mk ⟨n,upB R f false,[]++[f]⟩ ⟨w1,by simp;omega⟩ (by (try dsimp only);omega) ?_;rfl)
 ·obtain ⟨e1,e2⟩:=ov_ne ho (R:=R)
  rw [e1,e2]
  have hol2:out.length≤1000:=by omega
  have hlc:(ofInts (nI out)).length=out.length:=ofnI_len out
  have hap:0+out.length * 1=out.length∧∀ f:Nat,((ofInts (nI out)).length+[V.int .i64 (f:Nat)].length) * (8+1)<big:=⟨by omega,fun f=>by rw [hlc];exact lt_big (by simp;omega)⟩
  skip
  all_goals try (exfalso;omega;done)
  refine LoopP.by (fun s:WF=>1≤s.m∧s.m≤1000∧s.f=fdN P (s.m - 1)) (fun s=>[(9,.int .i64 (s.f:Nat)),(10,.int .i64 (s.m:Nat))]) (fun _=>[B.blk (boC 1000 R) true,.blk (ofInts (nI out)) true]) (fun s=>1000 - s.m) ⟨0,1⟩ ⟨Nat.le_refl _,by decide,rfl⟩ rfl ?_
  rintro ⟨f,m⟩ ⟨z1,z2,z3⟩
  dsimp only at z1 z2 z3 ⊢
  by_cases hmf:m<1000∧f=0
  ·obtain ⟨hm,hf0⟩:=hmf
   subst hf0
   have gm:=boC_get (f:=R) hm
   repeat' (first
 | (conv=>whnf)
   first
   | refine Br.t ?_
   | (refine Br.decT ?_ ?_;(focus first | assumption | omega))
   | refine Get.mk _ gm ?_
   | (refine Idx.nat ?_ ?_;(focus omega))
   | refine Get.mk _ rfl ?_
   | (refine Req.mk ?_ ?_;(focus first | rfl | decide | exact ⟨rfl,rfl⟩ | exact ⟨rfl,by decide⟩ | exact (fun _=>rfl) | exact (fun h=>nomatch h) | (simp;done) | omega | (simp [big];done) | exact le_big (by omega) | exact lt_big (by omega))))
   all_goals try (exfalso;omega;done)
   refine LoopP.by (fun k:Nat=>1≤k∧k≤1000) (fun k=>[(11,.bool (frN T R m (k - 1))),(12,.int .i64 (k:Nat))]) (fun _=>[B.blk (boC 1000 R) true,.blk (ofInts (nI out)) true]) (fun k=>1000 - k) 1 (by decide) rfl ?_
   rintro k ⟨y1,y2⟩
   dsimp only
   by_cases hk:k<1000∧frN T R m (k - 1)=true
   ·obtain ⟨hk,hfr⟩:=hk
    obtain ⟨j,rfl⟩:∃ j,k=j+1:=⟨k - 1,by omega⟩
    have hup:frN T R m (j+1+1 - 1) = !(R (j+1) && T (j+1) m):=by rw [Nat.add_sub_cancel,frN,show frN T R m j=true from hfr];rfl
    rw [hfr]
    have gk:=boC_get (f:=R) hk
    have gr:=tabB_get (T:=T) hk
    have gt:=boC_get' (f:=T (j+1)) hm
    cases hR:R (j+1) with
    | false =>
     rw [hR] at gk hup
     repeat' (first
 | (conv=>whnf)
   first
   | refine Br.t ?_
   | refine Br.f ?_
   | (refine Br.decT ?_ ?_;(focus first | assumption | omega))
   | (refine Bnd.i64 ?_ ?_ ?_;(focus omega);(focus omega))
   | refine Get.mk _ gk ?_
   | (refine Idx.nat ?_ ?_;(focus omega))
   | refine Get.mk _ rfl ?_
   | (refine Req.mk ?_ ?_;(focus first | rfl | decide | exact ⟨rfl,rfl⟩ | exact ⟨rfl,by decide⟩ | exact (fun _=>rfl) | exact (fun h=>nomatch h) | (simp;done) | omega | (simp [big];done) | exact le_big (by omega) | exact lt_big (by omega))))
     all_goals first | (exfalso;omega;done) | exact NextP.mk (j+1+1) (by omega) (by omega) (by rw [hup];rfl)
    | true =>
     rw [hR] at gk hup
     cases hT:T (j+1) m with
     | false =>
      rw [hT] at gt hup
      repeat' (first
 | (conv=>whnf)
   first
   | refine Br.t ?_
   | (refine Br.decT ?_ ?_;(focus first | assumption | omega))
   | (refine Bnd.i64 ?_ ?_ ?_;(focus omega);(focus omega))
   | refine Get.mk _ gk ?_
   | refine Get.mk _ gr ?_
   | refine Get.mk _ gt ?_
   | (refine Idx.nat ?_ ?_;(focus omega))
   | refine Get.mk _ rfl ?_
   | (refine Req.mk ?_ ?_;(focus first | rfl | decide | exact ⟨rfl,rfl⟩ | exact ⟨rfl,by decide⟩ | exact (fun _=>rfl) | exact (fun h=>nomatch h) | (simp;done) | omega | (simp [big];done) | exact le_big (by omega) | exact lt_big (by omega))))
      all_goals first | (exfalso;omega;done) | exact NextP.mk (j+1+1) (by omega) (by omega) (by rw [hup];rfl)
     | true =>
      rw [hT] at gt hup
      repeat' (first
 | (conv=>whnf)
   first
   | refine Br.t ?_
   | (refine Br.decT ?_ ?_;(focus first | assumption | omega))
   | (refine Bnd.i64 ?_ ?_ ?_;(focus omega);(focus omega))
   | refine Get.mk _ gk ?_
   | refine Get.mk _ gr ?_
   | refine Get.mk _ gt ?_
   | (refine Idx.nat ?_ ?_;(focus omega))
   | refine Get.mk _ rfl ?_
   | (refine Req.mk ?_ ?_;(focus first | rfl | decide | exact ⟨rfl,rfl⟩ | exact ⟨rfl,by decide⟩ | exact (fun _=>rfl) | exact (fun h=>nomatch h) | (simp;done) | omega | (simp [big];done) | exact le_big (by omega) | exact lt_big (by omega))))
      all_goals first | (exfalso;omega;done) | exact NextP.mk (j+1+1) (by omega) (by omega) (by rw [hup];rfl)
   ·have hP:fdN P m=if frN T R m 999=true then m else 0:=by
     obtain ⟨m', rfl⟩:∃ m', m=m' + 1:=⟨m - 1,by omega⟩
     rw [Nat.add_sub_cancel] at z3
     rw [fdN, ← z3,if_neg (fun h=>h rfl), ← hPe]
    cases hfr:frN T R m (k - 1) with
    | false =>
     have h9:frN T R m 999=false:=frN_no hfr (by omega)
     rw [h9,if_neg (by decide)] at hP
     by_cases hk' : k<1000
     ·repeat' (first
 | (conv=>whnf)
   first
   | refine Br.f ?_
   | (refine Br.decT ?_ ?_;(focus first | assumption | omega))
   | (refine Bnd.i64 ?_ ?_ ?_;(focus omega);(focus omega)))
      all_goals first | (exfalso;omega;done) | exact NextP.mk ⟨0,m+1⟩ ⟨by (try dsimp only);omega,by (try dsimp only);omega,hP.symm⟩ (by (try dsimp only);omega) rfl
     ·repeat' (first
 | (conv=>whnf)
   first
   | refine Br.f ?_
   | (refine Br.decF ?_ ?_;(focus first | assumption | omega))
   | (refine Bnd.i64 ?_ ?_ ?_;(focus omega);(focus omega)))
      all_goals first | (exfalso;omega;done) | exact NextP.mk ⟨0,m+1⟩ ⟨by (try dsimp only);omega,by (try dsimp only);omega,hP.symm⟩ (by (try dsimp only);omega) rfl
    | true =>
     have hk' : k=1000:=by
      by_cases h:k<1000
      ·exact absurd ⟨h,hfr⟩ hk
      ·omega
     subst hk'
     have h9:frN T R m 999=true:=hfr
     rw [h9,if_pos rfl] at hP
     repeat' (first
 | (conv=>whnf)
   first
   | refine Br.t ?_
   | refine Br.f ?_
   | (refine Bnd.i64 ?_ ?_ ?_;(focus omega);(focus omega)))
     all_goals first | (exfalso;omega;done) | exact NextP.mk ⟨m,m+1⟩ ⟨by (try dsimp only);omega,by (try dsimp only);omega,hP.symm⟩ (by (try dsimp only);omega) rfl
  ·have hF:f=fdN P 999:=by
    by_cases hf0:f=0
    ·rw [z3,show m=1000 by omega]
    ·rw [z3]
     exact (fdN_keep (by omega) (by omega)).symm
   by_cases hf0:f=0
   ·have hm:m=1000:=by omega
    subst hm
    rw [← hF,if_pos hf0,Option.some.injEq] at w1
    subst w1
    subst hf0
    repeat' (first
 | (conv=>whnf)
   first
   | refine Br.t ?_
   | refine Br.f ?_)
    all_goals try (exfalso;omega;done)
    have hcell:=fun i (h:i<out.length)=>nthN_cell (A:=out) h
    have hol:0<out.length:=List.length_pos_iff.2 ho
    refine LoopP.by (fun i:Nat=>1≤i∧i≤out.length) (fun i=>[(13,.bool (onN c out (i - 1))),(14,.int .i64 (i:Nat))]) (fun _=>[B.blk (boC 1000 R) true,.blk (ofInts (nI out)) true]) (fun i=>out.length - i) 1 ⟨Nat.le_refl _,hol⟩ rfl ?_
    rintro i ⟨i1,i2⟩
    dsimp only
    by_cases hi:i<out.length
    rotate_left
    ·have e:i=out.length:=by omega
     subst e
     have hvw:Vw [B.blk (boC 1000 R) true,.blk (ofInts (nI out)) true] 63 (.ms 1 1 out.length 0 out.length false) (lw false (nI out)):=by
      rw [lwI_ne ho]
      exact Vw.ms (d:=62) rfl (ofnI_len out) (part_all (by rw [ofnI_len,Nat.mul_one])) ⟨views_ints _⟩
     repeat' (first
 | (conv=>whnf)
   first
   | (refine Br.decF ?_ ?_;(focus first | assumption | omega))
   | exact hvw
   | refine Get.mk _ rfl ?_
   | refine Leaves.of ?_
   | refine Vw.bool ?_
   | refine Vw.int ?_
   | refine Vw.tup ?_
   | refine VwL.cons ?_ ?_
   | refine VwL.nil)
     all_goals first | rfl | (exfalso;omega;done)
    obtain ⟨j,rfl⟩:∃ j,i=j+1:=⟨i - 1,by omega⟩
    have hup:onN c out (j+1+1 - 1)=(onN c out j && c (nthN out j) (nthN out (j+1))):=rfl
    have hwr:IntKind.i64.wrap (((j+1:Nat):Int) - 1)=(j:Nat):=by rw [wrap_i64 (by omega) (by omega)];omega
    have ga:=hcell j (by omega)
    have gb:=hcell (j+1) hi
    have hcm:=hc j hi
    rw [Nat.add_sub_cancel]
    cases hon:onN c out j with
    | false =>
     rw [hon] at hup
     repeat' (first
 | (conv=>whnf)
   first
   | refine Br.f ?_
   | (refine Br.decT ?_ ?_;(focus first | assumption | omega))
   | (refine Bnd.i64 ?_ ?_ ?_;(focus omega);(focus omega)))
     all_goals first | (exfalso;omega;done) | exact NextP.mk (j+1+1) ⟨by omega,hi⟩ (by omega) (by rw [hup];rfl)
    | true =>
     rw [hon,Bool.true_and] at hup
     repeat' (first
 | (conv=>whnf)
   first
   | refine Bnd.eq hwr ?_
   | refine Br.t ?_
   | (refine Br.decT ?_ ?_;(focus first | assumption | omega))
   | (refine Bnd.i64 ?_ ?_ ?_;(focus omega);(focus omega))
   | refine Get.mk _ ga ?_
   | refine Get.mk _ gb ?_
   | refine call_fun rfl rfl hcm (.inl rfl) ?_
   | (refine Idx.nat ?_ ?_;(focus omega))
   | refine Get.mk _ rfl ?_
   | (refine Req.mk ?_ ?_;(focus first | rfl | decide | exact ⟨rfl,rfl⟩ | exact ⟨rfl,by decide⟩ | exact (fun _=>rfl) | exact (fun h=>nomatch h) | (simp;done) | omega | (simp [big];done) | exact le_big (by omega) | exact lt_big (by omega))))
     all_goals first | (exfalso;omega;done) | exact NextP.mk (j+1+1) ⟨by omega,hi⟩ (by omega) (by rw [hup];rfl)
   ·rw [← hF,if_neg hf0] at w1
    have hfl:f<1000:=by have:=fdN_le (P:=P) 999;omega
    have hov:over (boC 1000 R) (0+f * 1) [.bool false]=boC 1000 (upB R f false):=boC_set hfl
    have hln:(boC 1000 R).length=1000 * 1∧0+f * 1+1≤(boC 1000 R).length:=by rw [boC_len];omega
    have hap:=(⟨hap.1,hap.2 f⟩:_∧_)
    have hla:=hlc
    by_cases hm:m<1000
    ·repeat' (first
 | (conv=>whnf)
   first
   | (refine Br.decT ?_ ?_;(focus first | assumption | omega))
   | (refine Br.decF ?_ ?_;(focus first | assumption | omega))
   | refine Req.mk hln ?_
   | refine Req.mk hla ?_
   | refine Req.mk hap ?_
   | refine fVg' hov ?_
   | (refine Idx.nat ?_ ?_;(focus omega))
   | (refine Ifz.pos ?_ ?_;(focus omega))
   | refine Get.mk _ rfl ?_
   | (refine Req.mk ?_ ?_;(focus first | rfl | decide | exact ⟨rfl,rfl⟩ | exact ⟨rfl,by decide⟩ | exact (fun _=>rfl) | exact (fun h=>nomatch h) | (simp;done) | omega | (simp [big];done) | exact le_big (by omega) | exact lt_big (by omega))))
     all_goals first | (exfalso;omega;done) | (refine NextP.mk ⟨n,upB R f false,out++[f]⟩ ⟨w1,by simp;omega⟩ (by (try dsimp only);omega) ?_;(obtain ⟨e3,e4⟩:=ov_ne (out:=out++[f]) (by simp) (R:=upB R f false));rw [e3,e4, ← ofnI_snoc];simp only [List.length_append,List.length_singleton];rfl)
    ·repeat' (first
 | (conv=>whnf)
   first
   | refine Br.f ?_
   | (refine Br.decF ?_ ?_;(focus first | assumption | omega))
   | refine Req.mk hln ?_
   | refine Req.mk hla ?_
   | refine Req.mk hap ?_
   | refine fVg' hov ?_
   | (refine Idx.nat ?_ ?_;(focus omega))
   | (refine Ifz.pos ?_ ?_;(focus omega))
   | refine Get.mk _ rfl ?_
   | (refine Req.mk ?_ ?_;(focus first | rfl | decide | exact ⟨rfl,rfl⟩ | exact ⟨rfl,by decide⟩ | exact (fun _=>rfl) | exact (fun h=>nomatch h) | (simp;done) | omega | (simp [big];done) | exact le_big (by omega) | exact lt_big (by omega))))
     all_goals first | (exfalso;omega;done) | (refine NextP.mk ⟨n,upB R f false,out++[f]⟩ ⟨w1,by simp;omega⟩ (by (try dsimp only);omega) ?_;(obtain ⟨e3,e4⟩:=ov_ne (out:=out++[f]) (by simp) (R:=upB R f false));rw [e3,e4, ← ofnI_snoc];simp only [List.length_append,List.length_singleton];rfl)
end Go.Dr.T
