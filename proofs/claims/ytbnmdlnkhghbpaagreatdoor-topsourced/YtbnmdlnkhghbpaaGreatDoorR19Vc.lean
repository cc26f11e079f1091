/- Top, of chapter 08: Voted, walked (the second part). -/
import Derived.Test.YtbnmdlnkhghbpaaGreatDoorG1
namespace Go.Dr.T
set_option maxRecDepth 100000 in
set_option maxHeartbeats 20000000 in
theorem Qi5 {c:Bool} {n need:Int} {l:List Vt} (fc:Fc) (hfc:F 21=some fc):wpm FB md 0 fc.body ⟨[.int .i64 n,.sl c l.length (vtC l),.int .i64 need]++Q1a (fc.ntm-fc.np),[]⟩ (VEnds fc.res (votA n l need) (votE n l need)):=by
 cases hfc
 have h1:=Q0z (n:=n) (lo:=0) (hi:=20)
 have h2:=Q0z (n:=need) (lo:=1) (hi:=200)
 unfold votA
 by_cases hr:outB n 0 20=true∨outB need 1 200=true
 ·have hv:votE n l need=7:=by unfold votE;rw [if_pos hr]
  rw [hv,if_pos (by decide)]
  refine (Q23 (K:=fun tm=>wpm FB md 0 _ ⟨tm,[]⟩ _)).1 ?_
  cases e1:outB n 0 20<;>rw [e1] at h1
  ·have e2:outB need 1 200=true:=by simpa [e1] using hr
   rw [e2] at h2
   repeat' ((conv=>whnf);first|refine Br.t ?_|refine Br.f ?_|refine zC h1 ?_|refine zC h2 ?_)
   all_goals first|exact ⟨.inr rfl,.inl ⟨rfl,rfl⟩⟩|(exfalso;omega)
  ·repeat' ((conv=>whnf);first|refine Br.t ?_|refine zC h1 ?_)
   all_goals first|exact ⟨.inr rfl,.inl ⟨rfl,rfl⟩⟩|(exfalso;omega)
 have e1:outB n 0 20=false:=by simpa using fun h=>hr (.inl h)
 have e2:outB need 1 200=false:=by simpa using fun h=>hr (.inr h)
 rw [e1] at h1
 rw [e2] at h2
 by_cases hl:200<l.length
 ·have hv:votE n l need=3:=by unfold votE;rw [if_neg hr,if_pos hl]
  rw [hv,if_pos (by decide)]
  refine (Q23 (K:=fun tm=>wpm FB md 0 _ ⟨tm,[]⟩ _)).1 ?_
  repeat' ((conv=>whnf);first|refine Br.f ?_|refine zT ?_|refine zC h1 ?_|refine zC h2 ?_)
  all_goals first|exact ⟨.inr rfl,.inl ⟨rfl,rfl⟩⟩|(exfalso;omega)
 have hv:votE n l need=vtF n l:=by unfold votE;rw [if_neg hr,if_neg hl]
 rw [hv]
 clear hv hr
 have hn:0≤n∧n≤20:=by simp only [outB,jL,jI] at e1;omega
 have hlc:=Q9h l
 refine (Q23 (K:=fun tm=>wpm FB md 0 _ ⟨tm,[]⟩ _)).1 ?_
 repeat' ((conv=>whnf);first|refine Br.f ?_|refine zF ?_|refine zC h1 ?_|refine zC h2 ?_|refine Get.mk _ rfl ?_)
 all_goals try (exfalso;omega)
 refine LoopP.by (fun i:Nat=>i≤l.length∧∀ j v,j<i→l[j]?=some v→vtE n v=0) (fun i=>[(30,.int .i64 (i:Nat))]) (fun i=>[mapB (lasE (l.take i))]) (fun i=>l.length-i) 0 ⟨Nat.zero_le _,fun j v h=>absurd h (Nat.not_lt_zero _)⟩ rfl ?_
 rintro i ⟨w1,w2⟩
 dsimp only
 by_cases hi:i<l.length
 ·obtain ⟨v,hvi⟩:∃ v,l[i]?=some v:=⟨_,jC hi⟩
  have hp:=Qof hvi
  have htk:l.take (i+1)=l.take i++[v]:=by rw [List.take_add_one,hvi];rfl
  have hv0:nmOk v.who=true→outB v.step 0 (n-1)=false→vtE n v=0:=fun a b=>by unfold vtE;rw [a,b,if_neg (by decide),if_neg (by decide)]
  have hnx:vtE n v=0→∀ j u,j<i+1→l[j]?=some u→vtE n u=0:=fun h j u hj hu=>by
   by_cases e:j=i
   ·subst e;rw [hvi] at hu;cases hu;exact h
   ·exact w2 j u (by omega) hu
  have hres:vtE n v≠0→vtF n l=vtE n v:=fun h=>by
   rw [Qaf w2,List.drop_eq_getElem_cons hi]
   have:l[i]=v:=by rw [jC hi] at hvi;exact Option.some.inj hvi
   rw [this,vtF,if_pos h]
  have h3:=Qlm (s:=v.who)
  have h4:=Q0z (n:=v.step) (lo:=0) (hi:=n-1)
  have hw:IntKind.i64.wrap (n-1)=n-1:=wrap_i64 (by omega) (by omega)
  have hiw:IntKind.i64.wrap ((i:Int)+1)=((i+1:Nat):Int):=by rw [wrap_i64 (by omega) (by omega)];omega
  have hlc':i*3+3≤(vtC l).length:=by omega
  unfold vtE at hres
  generalize hE:lasE (l.take i)=E
  cases b3:nmOk v.who<;>rw [b3] at h3 hres hv0
  ·rw [if_pos rfl] at hres
   rw [hres (by decide),if_pos (by decide)]
   repeat' ((conv=>whnf);first|refine Br.t ?_|refine zT ?_|refine Get.mk _ hp ?_|refine zC h3 ?_|refine zN ?_|refine Get.mk _ rfl ?_|refine zR ?_)
   all_goals first|exact ⟨.inr rfl,.inl ⟨rfl,rfl⟩⟩|(exfalso;omega)
  ·rw [if_neg (by decide)] at hres
   cases b4:outB v.step 0 (n-1)<;>rw [b4] at h4 hres hv0
   ·have hnx:=hnx (hv0 rfl rfl)
    by_cases hk:∀ e∈E,e.1≠(v.who,v.step)
    ·have j3:=Qcq (i:=0) hk
     have j4:=Qpn (b:=v.yes) hk
     repeat' ((conv=>whnf);first|refine Bnd.eq hw ?_|refine Bnd.eq hiw ?_|refine Br.f ?_|refine zT ?_|refine Get.mk _ hp ?_|refine zC h3 ?_|refine zC h4 ?_|refine Get.mk _ j3 ?_|refine fV.mk ?_|refine zN ?_|refine Get.mk _ rfl ?_|refine zR ?_)
     all_goals try (exfalso;omega)
     refine NextP.mk (i+1) ⟨hi,hnx⟩ (by omega) (Q3p rfl rfl (by rw [htk,Qcu,hE,← j4];rfl) rfl ?_)
     simp only [Q0a,Q7d];rfl
    ·obtain ⟨j,e,q1,q2,q3,j3⟩:=Q89 (i:=0) hk
     rw [Nat.zero_add] at j3
     have j4:=Qti (b:=v.yes) q1 q2 q3
     repeat' ((conv=>whnf);first|refine Bnd.eq hw ?_|refine Bnd.eq hiw ?_|refine Br.f ?_|refine zT ?_|refine Get.mk _ hp ?_|refine zC h3 ?_|refine zC h4 ?_|refine Get.mk _ j3 ?_|refine fV.mk ?_|refine zN ?_|refine Get.mk _ rfl ?_|refine zR ?_)
     all_goals try (exfalso;omega)
     refine NextP.mk (i+1) ⟨hi,hnx⟩ (by omega) (Q3p rfl rfl (by rw [htk,Qcu,hE,← j4];rfl) rfl ?_)
     simp only [Q0a,Q7d];rfl
   ·rw [if_pos rfl] at hres
    rw [hres (by decide),if_pos (by decide)]
    repeat' ((conv=>whnf);first|refine Bnd.eq hw ?_|refine Br.t ?_|refine Br.f ?_|refine zT ?_|refine Get.mk _ hp ?_|refine zC h3 ?_|refine zC h4 ?_|refine zN ?_|refine Get.mk _ rfl ?_|refine zR ?_)
    all_goals first|exact ⟨.inr rfl,.inl ⟨rfl,rfl⟩⟩|(exfalso;omega)
 obtain rfl:i=l.length:=by omega
 have hz:vtF n l=0:=by rw [Qaf w2,List.drop_length];rfl
 rw [hz,if_neg (fun h=>h rfl)]
 rw [List.take_length]
 have hEl:∀ m:List Vt,(lasE m).length≤m.length:=fun m=>by
  suffices h:∀ (m:List Vt) (A:List En),(m.foldl (fun E v=>updE (v.who,v.step) v.yes E) A).length≤A.length+m.length by simpa [lasE] using h m []
  intro m
  induction m with
  | nil=>intro A;simp
  | cons v m ih=>intro A;have h1:=ih (updE (v.who,v.step) v.yes A);have h2:=Qg6 (k:=(v.who,v.step)) (b:=v.yes) (E:=A);simp only [List.foldl_cons,List.length_cons];omega
 have hEm:∀ e∈lasE l,∃ m:Nat,m<20∧e.1.2=(m:Int):=by
  suffices h:∀ (m:List Vt) (A:List En),(∀ v∈m,0≤v.step∧v.step<20)→(∀ e∈A,0≤e.1.2∧e.1.2<20)→∀ e∈m.foldl (fun E v=>updE (v.who,v.step) v.yes E) A,0≤e.1.2∧e.1.2<20 by
   intro e he
   have:=h l [] (fun v hv=>by
    obtain ⟨i,hi⟩:=List.getElem?_of_mem hv
    have:=w2 i v (jB.1 hi).1 hi
    unfold vtE at this
    split at this
    ·exact absurd this (by decide)
    ·split at this
     ·exact absurd this (by decide)
     ·rename_i h5
      simp only [outB,Bool.or_eq_true,jG] at h5
      omega) (fun e he=>nomatch he) e he
   exact ⟨e.1.2.toNat,by omega,by omega⟩
  intro m
  induction m with
  | nil=>intro A _ hA;exact hA
  | cons v m ih =>
   intro A hm hA
   exact ih _ (fun u hu=>hm u (by simp [hu])) fun e he=>by
    rcases Qg5 he with rfl|he
    ·exact hm v (by simp)
    ·exact hA e he
 have hEl':=hEl l
 generalize lasE l=E at *
 repeat' ((conv=>whnf);first|refine zF ?_|refine Get.mk _ rfl ?_|refine zR ?_)
 all_goals try (exfalso;omega)
 refine LoopP.by (fun sn:List Nat=>sn.Nodup∧∀ s∈sn,s<E.length) (fun _=>[]) (fun sn=>[mapB E,.blk (yesC (metE E sn)) false,.blk (noC (metE E sn)) false,.it 0 E.length E.length sn]) (fun sn=>E.length-sn.length) [] ⟨.nil,by simp⟩ rfl ?_
 rintro sn ⟨z1,z2⟩
 dsimp only
 have hle:=Q1z z1 z2
 have hst:(∀ s∈List.range E.length,s<E.length)∧E.length≤E.length:=⟨fun s hs=>List.mem_range.1 hs,Nat.le_refl _⟩
 repeat' ((conv=>whnf);first|refine Req.mk hst ?_|refine Get.mk _ rfl ?_|refine zR ?_)
 all_goals try (exfalso;omega)
 refine NextQ.mk (fun hall=>?_) (fun a s ha hns=>?_)
 rotate_left
 ·dsimp only at ha
  obtain ⟨ha1,ha2⟩:=jB.1 ha
  rw [List.getElem_range] at ha2
  subst ha2
  rw [List.length_range] at ha1
  obtain ⟨e,he⟩:∃ e,E[a]?=some e:=⟨_,jC ha1⟩
  have hcur:=Quo (sn:=sn) he
  obtain ⟨m,hm,hme⟩:=hEm e (jE he)
  have hms:=Qlt (seen:=sn) he
  have hm19:m≤20-1:=by omega
  have hnd:(sn++[a]).Nodup:=by
   rw [List.nodup_append]
   exact ⟨z1,by simp,fun x hx y hy=>by rw [jJ] at hy;subst hy;rintro rfl;exact hns hx⟩
  have hsb:∀ t∈sn++[a],t<E.length:=fun t ht=>by
   rcases jK.1 ht with ht|ht
   ·exact z2 t ht
   ·rw [jJ] at ht;subst ht;exact ha1
  have hlen:=Q1z hnd hsb
  rw [jD] at hlen
  simp only [List.length_cons,List.length_nil] at hlen
  have hyl:=Qs6 (metE E sn) m
  have hml:(metE E sn).length≤sn.length:=List.length_filterMap_le ..
  have hyw:IntKind.i64.wrap ((yesN (metE E sn) m:Nat)+1)=(yesN (metE E sn) m:Nat)+1:=wrap_i64 (by omega) (by omega)
  have hy1:=Qjf (S:=metE E sn) hm
  have hn1:=Qrg (S:=metE E sn) hm
  have hyl2:=Qft (metE E sn)
  have hnl2:=Qlh (metE E sn)
  have hyq:(yesC (metE E sn)).length=20∧0+m*1+1≤(yesC (metE E sn)).length:=⟨hyl2,by omega⟩
  have hnq:(noC (metE E sn)).length=20∧0+m*1+1≤(noC (metE E sn)).length:=⟨hnl2,by omega⟩
  have hbel:∀ S sn',Q0a 4 [mapB E,.blk (yesC S) false,.blk (noC S) false,.it 0 E.length E.length sn']=true:=fun S sn'=>by
   show ((mapB E).blo 4&&_)=true
   rw [Q7d,Bool.true_and]
   simp only [Q0a,B.blo,Qfu,Qli]
   rfl
  rw [hme] at hcur
  cases hb:e.2 with
  | true =>
   rw [hb] at hcur
   obtain ⟨o1,o2⟩:=Qob (S:=metE E sn) hm hb hme
   repeat' ((conv=>whnf);first|refine Bnd.eq hyw ?_|refine Br.t ?_|refine Get.mk _ hcur ?_|refine Idx.nat hm19 ?_|refine Get.mk _ hy1 ?_|refine Req.mk hyl2 ?_|refine Req.mk hyq ?_|refine fVf o1 ?_|refine Get.mk _ rfl ?_|refine zR ?_)
   all_goals try (exfalso;omega)
   refine NextP.mk (sn++[a]) ⟨hnd,hsb⟩ (by rw [jD];simp only [List.length_cons,List.length_nil];omega) (Q3p (h:=[mapB E,.blk (yesC (metE E (sn++[a]))) false,.blk (noC (metE E (sn++[a]))) false,.it 0 E.length E.length (sn++[a])]) rfl rfl (by rw [hms,← o2];rfl) rfl (hbel _ _))
  | false =>
   rw [hb] at hcur
   obtain ⟨o1,o2⟩:=noC_no (S:=metE E sn) hm hb hme
   repeat' ((conv=>whnf);first|refine Br.t ?_|refine Br.f ?_|refine Get.mk _ hcur ?_|refine Idx.nat hm19 ?_|refine Req.mk hnq ?_|refine fVf o1 ?_|refine Get.mk _ rfl ?_|refine zR ?_)
   all_goals try (exfalso;omega)
   refine NextP.mk (sn++[a]) ⟨hnd,hsb⟩ (by rw [jD];simp only [List.length_cons,List.length_nil];omega) (Q3p (h:=[mapB E,.blk (yesC (metE E (sn++[a]))) false,.blk (noC (metE E (sn++[a]))) false,.it 0 E.length E.length (sn++[a])]) rfl rfl (by rw [hms,← o2];rfl) rfl (hbel _ _))
 ·dsimp only at hall
  have hpm:=Qlu z1 z2 fun s hs=>hall s (List.mem_range.2 hs)
  obtain ⟨N,rfl⟩:∃ N:Nat,n=(N:Int):=⟨n.toNat,by omega⟩
  rw [Int.toNat_natCast,← Qr3 hpm]
  generalize metE E sn=S at *
  repeat' ((conv=>whnf);first|refine Br.f ?_|refine Get.mk _ rfl ?_)
  all_goals try (exfalso;omega)
  refine LoopP.by (fun i:Nat=>i≤N) (fun i=>[(6,lvI 4 (acc S need i)),(74,.int .i64 (i:Nat))]) (fun i=>[mapB E,.blk (yesC S) false,.blk (noC S) false,.it 0 E.length E.length sn]++acB (acc S need i)) (fun i=>N-i) 0 (Nat.zero_le _) rfl ?_
  rintro i hi'
  dsimp only
  have hal:=Qv1 S need i
  by_cases hi:i<N
  ·have hm:i<20:=by omega
   have hm19:i≤20-1:=by omega
   have hiw:IntKind.i64.wrap ((i:Int)+1)=((i+1:Nat):Int):=by rw [wrap_i64 (by omega) (by omega)];omega
   have hy1:=Qjf (S:=S) hm
   have hn1:=Qrg (S:=S) hm
   have hyl2:=Qft S
   have hnl2:=Qlh S
   have hat:=acc_t (S:=S) (need:=need) (n:=i)
   have haf:=acc_f (S:=S) (need:=need) (n:=i)
   cases hL:acc S need i with
   | nil =>
    rw [hL] at hat haf
    cases hno:noN S i<;>rw [hno] at hn1 hat haf
    all_goals
     repeat' ((conv=>whnf);first|refine Bnd.eq hiw ?_|refine Br.t ?_|refine Br.f ?_|refine zT ?_|refine zF ?_|refine Br.dec (fun _=>?_) (fun _=>?_)|refine Idx.nat hm19 ?_|refine Get.mk _ hy1 ?_|refine Get.mk _ hn1 ?_|refine Req.mk hyl2 ?_|refine zZ ?_|refine Get.mk _ rfl ?_|refine zR ?_)
     all_goals try (exfalso;omega)
    ·rename_i hd
     refine NextP.mk (i+1) hi (by omega) ?_
     rw [hat (by omega) rfl]
     rfl
    ·rename_i hd
     refine NextP.mk (i+1) hi (by omega) ?_
     rw [haf (fun h=>by omega)]
     rfl
    ·refine NextP.mk (i+1) hi (by omega) ?_
     rw [haf (fun h=>by cases h.2)]
     rfl
    ·refine NextP.mk (i+1) hi (by omega) ?_
     rw [haf (fun h=>by cases h.2)]
     rfl
   | cons x r =>
    rw [hL] at hat haf
    have hol:(Q00 (x::r)).length=r.length+1:=by simp [Q00]
    have hrl:r.length+1≤i:=by rw [hL] at hal;simpa using hal
    have hap:Q00 (x::r)++[V.int .i64 (i:Nat)]=Q00 (x::(r++[(i:Int)])):=by simp [Q00]
    have hln:(r++[(i:Int)]).length=r.length+1:=by simp
    cases hno:noN S i<;>rw [hno] at hn1 hat haf
    all_goals
     repeat' ((conv=>whnf);first|refine Bnd.eq hiw ?_|refine Br.t ?_|refine Br.f ?_|refine zT ?_|refine zF ?_|refine Br.dec (fun _=>?_) (fun _=>?_)|refine Idx.nat hm19 ?_|refine Get.mk _ hy1 ?_|refine Get.mk _ hn1 ?_|refine Req.mk hyl2 ?_|refine Req.mk hol ?_|refine Req.mk ⟨by omega,by rw [hol];exact Q46 (by simp;omega)⟩ ?_|refine zZ ?_|refine Get.mk _ rfl ?_|refine zR ?_)
     all_goals try (exfalso;omega)
    ·rename_i hd
     refine NextP.mk (i+1) hi (by omega) ?_
     rw [hat (by omega) rfl,List.cons_append,hap]
     simp only [lvI,hln,acB,hol]
     refine (Qlf (h:=[mapB E,.blk (yesC S) false,.blk (noC S) false,.it 0 E.length E.length sn,.blk (Q00 (x::(r++[(i:Int)]))) true]) rfl rfl rfl rfl ?_ rfl).trans rfl
     show ((mapB E).blo 5&&_)=true
     rw [Q7d,Bool.true_and]
     simp only [Q0a,B.blo,Qfu,Qli]
     rfl
    ·rename_i hd
     refine NextP.mk (i+1) hi (by omega) ?_
     rw [haf (fun h=>by omega)]
     rfl
    ·refine NextP.mk (i+1) hi (by omega) ?_
     rw [haf (fun h=>by cases h.2)]
     rfl
    ·refine NextP.mk (i+1) hi (by omega) ?_
     rw [haf (fun h=>by cases h.2)]
     rfl
  obtain rfl:i=N:=by omega
  cases hL:acc S need i with
  | nil =>
   repeat' ((conv=>whnf);first|refine zF ?_)
   all_goals first|exact ⟨.inr rfl,.inl ⟨rfl,rfl⟩⟩|(exfalso;omega)
  | cons x r =>
   repeat' ((conv=>whnf);first|refine zF ?_)
   all_goals first|exact ⟨.inr rfl,.inr ⟨by simp,4,rfl,rfl⟩⟩|(exfalso;omega)
end Go.Dr.T
