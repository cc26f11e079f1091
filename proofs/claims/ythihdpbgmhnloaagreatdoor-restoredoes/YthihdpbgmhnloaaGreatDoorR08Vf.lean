/- Chapter 08: Voted of the document, walked. -/
import Derived.Test.YthihdpbgmhnloaaGreatDoorG4
namespace Go.Dr.T
theorem vt_c {l:List Vt} {i:Nat} {v:Vt} (h:l[i]?=some v):cellAt (vtC l) (i * 3+0)=some (.str v.who)∧cellAt (vtC l) (i * 3+1)=some (.int .i64 v.step)∧cellAt (vtC l) (i * 3+2)=some (.bool v.yes):=by
 have hd:=vtC_drop h
 have key:∀ j,cellAt (vtC l) (i * 3+j)=(V.str v.who :: .int .i64 v.step :: .bool v.yes :: vtC (l.drop (i+1)))[j]?:=fun j=>by rw [cellAt_eq, ← hd,List.getElem?_drop]
 exact ⟨key 0,key 1,key 2⟩
theorem cY_cons (v:Vt) (T:List Vt):cY (v :: T)=cY T+if v.yes then 1 else 0:=by
 unfold cY
 rw [List.filter_cons]
 split <;> simp
theorem cN_cons (v:Vt) (T:List Vt):cN (v :: T)=cN T+if v.yes then 0 else 1:=by
 unfold cN
 rw [List.filter_cons]
 cases v.yes <;> simp
theorem L2_drop {s:Int} {l:List Vt} {i:Nat} {v:Vt} (h:l[i]?=some v):L2 s (l.drop i)=if isL s v (l.drop (i+1))=true then v :: L2 s (l.drop (i+1)) else L2 s (l.drop (i+1)):=by
 have hi:=(List.getElem?_eq_some_iff.1 h).1
 rw [List.drop_eq_getElem_cons hi]
 have:l[i]=v:=(List.getElem?_eq_some_iff.1 h).2
 rw [this]
 rfl
theorem dropk {l:List Vt} {k:Nat} {u:Vt} (h:l[k]?=some u):l.drop k=u :: l.drop (k+1):=by
 rw [List.drop_eq_getElem_cons (List.getElem?_eq_some_iff.1 h).1,(List.getElem?_eq_some_iff.1 h).2]
structure CI where
 i:Nat
 y:Nat
 n:Nat
set_option maxRecDepth 100000 in
set_option maxHeartbeats 20000000 in
theorem votedR_ok {c:Bool} {n need:Int} {l:List Vt}:Fun FB md 28 [.int .i64 n,.sl c l.length (vtC l),.int .i64 need] (.tup [liV (votA n l need),.int .i64 (votE n l need)]):=by
 have h1:=in_ok (n:=n) (lo:=0) (hi:=20)
 have h2:=in_ok (n:=need) (lo:=1) (hi:=200)
 unfold votA
 by_cases hr:outB n 0 20=true∨outB need 1 200=true
 ·have hv:votE n l need=7:=by unfold votE;rw [if_pos hr]
  rw [hv,if_pos (by decide)]
  refine fun_of rfl rfl ?_
  cases e1:outB n 0 20 <;> rw [e1] at h1
  ·have e2:outB need 1 200=true:=by simpa [e1] using hr
   rw [e2] at h2
   repeat' (first
 | (conv=>whnf)
   first
   | refine Br.t ?_
   | refine Br.f ?_
   | refine call_fun rfl rfl h1 (.inl rfl) ?_
   | refine call_fun rfl rfl h2 (.inl rfl) ?_
   | refine Get.mk _ rfl ?_
   | refine Leaves.of ?_
   | refine Vw.int ?_
   | refine Vw.nil
   | refine Vw.tup ?_
   | refine VwL.cons ?_ ?_
   | refine VwL.nil)
   all_goals first | rfl | (exfalso;omega;done)
  ·repeat' (first
 | (conv=>whnf)
   first
   | refine Br.t ?_
   | refine call_fun rfl rfl h1 (.inl rfl) ?_
   | refine Get.mk _ rfl ?_
   | refine Leaves.of ?_
   | refine Vw.int ?_
   | refine Vw.nil
   | refine Vw.tup ?_
   | refine VwL.cons ?_ ?_
   | refine VwL.nil)
   all_goals first | rfl | (exfalso;omega;done)
 have e1:outB n 0 20=false:=by simpa using fun h=>hr (.inl h)
 have e2:outB need 1 200=false:=by simpa using fun h=>hr (.inr h)
 rw [e1] at h1
 rw [e2] at h2
 by_cases hl:200<l.length
 ·have hv:votE n l need=3:=by unfold votE;rw [if_neg hr,if_pos hl]
  rw [hv,if_pos (by decide)]
  refine fun_of rfl rfl ?_
  repeat' (first
 | (conv=>whnf)
   first
   | refine Br.f ?_
   | (refine Br.decT ?_ ?_;(focus first | assumption | omega))
   | refine call_fun rfl rfl h1 (.inl rfl) ?_
   | refine call_fun rfl rfl h2 (.inl rfl) ?_
   | refine Get.mk _ rfl ?_
   | refine Leaves.of ?_
   | refine Vw.int ?_
   | refine Vw.nil
   | refine Vw.tup ?_
   | refine VwL.cons ?_ ?_
   | refine VwL.nil)
  all_goals first | rfl | (exfalso;omega;done)
 have hv:votE n l need=vtF n l:=by unfold votE;rw [if_neg hr,if_neg hl]
 rw [hv]
 clear hv hr
 have hn:0≤n∧n≤20:=by simp only [outB,Bool.or_eq_false_iff,decide_eq_false_iff_not] at e1;omega
 have hlc:=vtC_length l
 refine fun_of rfl rfl ?_
 repeat' (first
 | (conv=>whnf)
   first
   | refine Br.f ?_
   | (refine Br.decF ?_ ?_;(focus first | assumption | omega))
   | refine call_fun rfl rfl h1 (.inl rfl) ?_
   | refine call_fun rfl rfl h2 (.inl rfl) ?_)
 all_goals try (exfalso;omega;done)
 refine LoopP.by (fun i:Nat=>i≤l.length∧∀ j v,j<i→l[j]?=some v→vtE n v=0) (fun i=>[(8,.int .i64 (i:Nat))]) (fun i=>[]) (fun i=>l.length - i) 0 ⟨Nat.zero_le _,fun j v h=>absurd h (Nat.not_lt_zero _)⟩ rfl ?_
 rintro i ⟨w1,w2⟩
 dsimp only
 by_cases hi:i<l.length
 ·obtain ⟨v,hvi⟩:∃ v,l[i]?=some v:=⟨_,List.getElem?_eq_getElem hi⟩
  obtain ⟨hc0,hc1,hc2⟩:=vt_c hvi
  have hv0:nmOk v.who=true→outB v.step 0 (n - 1)=false→vtE n v=0:=fun a b=>by unfold vtE;rw [a,b,if_neg (by decide),if_neg (by decide)]
  have hnx:vtE n v=0→∀ j u,j<i+1→l[j]?=some u→vtE n u=0:=fun h j u hj hu=>by
   by_cases e:j=i
   ·subst e;rw [hvi] at hu;cases hu;exact h
   ·exact w2 j u (by omega) hu
  have hres:vtE n v≠0→vtF n l=vtE n v:=fun h=>by
   rw [vtF_drop w2,List.drop_eq_getElem_cons hi]
   have:l[i]=v:=by rw [List.getElem?_eq_getElem hi] at hvi;exact Option.some.inj hvi
   rw [this,vtF,if_pos h]
  have h3:=refName_ok (s:=v.who)
  have h4:=in_ok (n:=v.step) (lo:=0) (hi:=n - 1)
  have hw:IntKind.i64.wrap (n - 1)=n - 1:=wrap_i64 (by omega) (by omega)
  have hiw:IntKind.i64.wrap ((i:Int)+1)=((i+1:Nat):Int):=by rw [wrap_i64 (by omega) (by omega)];omega
  have hil:i≤l.length - 1:=by omega
  have h0l:0<l.length:=by omega
  unfold vtE at hres
  cases b3:nmOk v.who <;> rw [b3] at h3 hres hv0
  ·rw [if_pos rfl] at hres
   rw [hres (by decide),if_pos (by decide)]
   repeat' (first
 | (conv=>whnf)
   first
   | refine Br.t ?_
   | (refine Br.decT ?_ ?_;(focus first | assumption | omega))
   | refine Idx.nat hil ?_
   | refine Req.mk h0l ?_
   | refine Get.mk _ hc0 ?_
   | refine call_fun rfl rfl h3 (.inl rfl) ?_
   | refine Get.mk _ rfl ?_
   | refine Leaves.of ?_
   | refine Vw.int ?_
   | refine Vw.nil
   | refine Vw.tup ?_
   | refine VwL.cons ?_ ?_
   | refine VwL.nil)
   all_goals first | rfl | (exfalso;omega;done)
  ·rw [if_neg (by decide)] at hres
   cases b4:outB v.step 0 (n - 1) <;> rw [b4] at h4 hres hv0
   ·have hnx:=hnx (hv0 rfl rfl)
    repeat' (first
 | (conv=>whnf)
   first
   | refine Bnd.eq hw ?_
   | refine Bnd.eq hiw ?_
   | refine Br.f ?_
   | (refine Br.decT ?_ ?_;(focus first | assumption | omega))
   | refine Idx.nat hil ?_
   | refine Req.mk h0l ?_
   | refine Get.mk _ hc0 ?_
   | refine Get.mk _ hc1 ?_
   | refine call_fun rfl rfl h3 (.inl rfl) ?_
   | refine call_fun rfl rfl h4 (.inl rfl) ?_)
    all_goals first | (exfalso;omega;done) | exact NextP.mk (i+1) ⟨hi,hnx⟩ (by omega) rfl
   ·rw [if_pos rfl] at hres
    rw [hres (by decide),if_pos (by decide)]
    repeat' (first
 | (conv=>whnf)
   first
   | refine Bnd.eq hw ?_
   | refine Br.t ?_
   | refine Br.f ?_
   | (refine Br.decT ?_ ?_;(focus first | assumption | omega))
   | refine Idx.nat hil ?_
   | refine Req.mk h0l ?_
   | refine Get.mk _ hc0 ?_
   | refine Get.mk _ hc1 ?_
   | refine call_fun rfl rfl h3 (.inl rfl) ?_
   | refine call_fun rfl rfl h4 (.inl rfl) ?_
   | refine Get.mk _ rfl ?_
   | refine Leaves.of ?_
   | refine Vw.int ?_
   | refine Vw.nil
   | refine Vw.tup ?_
   | refine VwL.cons ?_ ?_
   | refine VwL.nil)
    all_goals first | rfl | (exfalso;omega;done)
 obtain rfl:i=l.length:=by omega
 have hz:vtF n l=0:=by rw [vtF_drop w2,List.drop_length];rfl
 rw [hz,if_neg (fun h=>h rfl)]
 clear w1 w2 hi hz
 obtain ⟨N,rfl⟩:∃ N:Nat,n=(N:Int):=⟨n.toNat,by omega⟩
 rw [Int.toNat_natCast]
 repeat' (first
 | (conv=>whnf)
   first
   | (refine Br.decF ?_ ?_;(focus first | assumption | omega)))
 all_goals try (exfalso;omega;done)
 refine LoopP.by (fun s:Nat=>s≤N) (fun s=>[(9,lvI 0 (acc (lasE l) need s)),(10,.int .i64 (s:Nat))]) (fun s=>acB (acc (lasE l) need s)) (fun s=>N - s) 0 (Nat.zero_le _) rfl ?_
 rintro s hs'
 dsimp only
 have hal:=acc_len (lasE l) need s
 by_cases hs:s<N
 rotate_left
 ·obtain rfl:s=N:=by omega
  cases hL:acc (lasE l) need s with
  | nil =>
   repeat' (first
 | (conv=>whnf)
   first
   | (refine Br.decF ?_ ?_;(focus first | assumption | omega))
   | refine Get.mk _ rfl ?_
   | refine Leaves.of ?_
   | refine Vw.int ?_
   | refine Vw.nil
   | refine Vw.tup ?_
   | refine VwL.cons ?_ ?_
   | refine VwL.nil)
   all_goals first | rfl | (exfalso;omega;done)
  | cons x r =>
   have hol:(ofInts (x :: r)).length=r.length+1:=by simp [ofInts]
   have hvw:Vw [B.blk (ofInts (x :: r)) true] 63 (.ms 1 0 (r.length+1) 0 (r.length+1) false) (liV (x :: r)):=by
    have hi:∀ {d:Nat} (L:List Int),VwL [B.blk (ofInts (x :: r)) true] (d+1) (ofInts L) (ofInts L):=fun {d} L=>by
     induction L with
     | nil=>exact VwL.nil
     | cons y L ih=>exact VwL.cons (Vw.int rfl) ih
    exact Vw.ms (d:=62) rfl hol (part_all (by rw [hol,Nat.mul_one])) (hi _)
   repeat' (first
 | (conv=>whnf)
   first
   | (refine Br.decF ?_ ?_;(focus first | assumption | omega))
   | refine Get.mk _ rfl ?_
   | refine Leaves.of ?_
   | refine Vw.int ?_
   | refine Vw.tup ?_
   | refine VwL.cons ?_ ?_
   | refine VwL.nil)
   all_goals first | exact hvw | rfl | (exfalso;omega;done)
 have hsw:IntKind.i64.wrap ((s:Int)+1)=((s+1:Nat):Int):=by rw [wrap_i64 (by omega) (by omega)];omega
 obtain ⟨hy,hno⟩:=yes_is l s
 have hll:=L2_len (s:Int) l
 have hcl:cY (L2 (s:Int) l)≤(L2 (s:Int) l).length∧cN (L2 (s:Int) l)≤(L2 (s:Int) l).length:=⟨List.length_filter_le .., List.length_filter_le ..⟩
 have hat:=acc_t (S:=lasE l) (need:=need) (n:=s)
 have haf:=acc_f (S:=lasE l) (need:=need) (n:=s)
 cases hL:acc (lasE l) need s with
 | nil =>
  rw [hL] at hat haf hal
  repeat' (first
 | (conv=>whnf)
   first
   | (refine Br.decT ?_ ?_;(focus first | assumption | omega)))
  all_goals try (exfalso;omega;done)
  refine LoopP.by (fun a:CI=>a.i≤l.length∧a.y+cY (L2 (s:Int) (l.drop a.i))=cY (L2 (s:Int) l)∧a.n+cN (L2 (s:Int) (l.drop a.i))=cN (L2 (s:Int) l)) (fun a=>[(11,.int .i64 (a.y:Nat)),(12,.int .i64 (a.n:Nat)),(13,.int .i64 (a.i:Nat))]) (fun _=>([]:List B)) (fun a=>l.length - a.i) ⟨0,0,0⟩ ⟨Nat.zero_le _,by simp,by simp⟩ rfl ?_
  rintro ⟨i,y,m⟩ ⟨w1,w2,w3⟩
  dsimp only at w1 w2 w3 ⊢
  by_cases hi:i<l.length
  ·obtain ⟨v,hvi⟩:∃ v,l[i]?=some v:=⟨_,List.getElem?_eq_getElem hi⟩
   obtain ⟨hc0,hc1,hc2⟩:=vt_c hvi
   have hiw:IntKind.i64.wrap ((i:Int)+1)=((i+1:Nat):Int):=by rw [wrap_i64 (by omega) (by omega)];omega
   have hyw:IntKind.i64.wrap ((y:Int)+1)=((y+1:Nat):Int):=by rw [wrap_i64 (by omega) (by omega)];omega
   have hmw:IntKind.i64.wrap ((m:Int)+1)=((m+1:Nat):Int):=by rw [wrap_i64 (by omega) (by omega)];omega
   have hil:i≤l.length - 1:=by omega
   have h0l:0<l.length:=by omega
   have hLd:=L2_drop (s:=(s:Int)) hvi
   repeat' (first
 | (conv=>whnf)
   first
   | refine Bnd.eq hiw ?_
   | (refine Br.decT ?_ ?_;(focus first | assumption | omega))
   | refine Idx.nat hil ?_
   | refine Req.mk h0l ?_
   | refine Get.mk _ hc1 ?_)
   all_goals try (exfalso;omega;done)
   refine LoopP.by (fun a:Nat × Bool=>i+1≤a.1∧a.1≤l.length∧(a.2 && (l.drop a.1).all fun u => !ltr (s:Int) v.who u)=isL (s:Int) v (l.drop (i+1))) (fun a=>[(14,.bool a.2),(15,.int .i64 (a.1:Nat))]) (fun _=>([]:List B)) (fun a=>l.length - a.1) (i+1,decide (v.step=(s:Int))) ⟨Nat.le_refl _,hi,rfl⟩ rfl ?_
   rintro ⟨k,b⟩ ⟨u1,u2,u3⟩
   dsimp only at u1 u2 u3 ⊢
   by_cases hk:k<l.length
   ·obtain ⟨u,hu⟩:∃ u,l[k]?=some u:=⟨_,List.getElem?_eq_getElem hk⟩
    obtain ⟨hd0,hd1,_⟩:=vt_c hu
    have hkw:IntKind.i64.wrap ((k:Int)+1)=((k+1:Nat):Int):=by rw [wrap_i64 (by omega) (by omega)];omega
    have hkl:k≤l.length - 1:=by omega
    rw [dropk hu,List.all_cons] at u3
    have hl1:ltr (s:Int) v.who u=(decide (u.step=(s:Int)) && decide (u.who=v.who)):=rfl
    rw [hl1] at u3
    cases b with
    | false =>
     rw [Bool.false_and] at u3
     repeat' (first
 | (conv=>whnf)
   first
   | refine Bnd.eq hkw ?_
   | refine Br.f ?_
   | (refine Br.decT ?_ ?_;(focus first | assumption | omega)))
     all_goals first | (exfalso;omega;done) | exact NextP.mk (k+1,false) ⟨by dsimp only;omega,hk,by rw [Bool.false_and];exact u3⟩ (by dsimp only;omega) (norm_same rfl)
    | true =>
     by_cases hst:u.step=(s:Int)
     ·cases hq:(u.who == v.who) with
      | true =>
       have hqv:V.bool (!(u.who == v.who)) = .bool false:=by rw [hq];rfl
       have hqe:u.who=v.who:=by simpa using hq
       rw [decide_eq_true hst,decide_eq_true hqe] at u3
       repeat' (first
 | (conv=>whnf)
   first
   | refine Bnd.eq hkw ?_
   | refine Br.t ?_
   | (refine Br.decT ?_ ?_;(focus first | assumption | omega))
   | refine Br.not ?_
   | refine Idx.nat hkl ?_
   | refine Idx.nat hil ?_
   | refine Req.mk h0l ?_
   | refine Get.mk _ hd0 ?_
   | refine Get.mk _ hd1 ?_
   | refine Get.mk _ hc0 ?_
   | refine Get.mk _ rfl ?_)
       all_goals first | (exfalso;omega;done) | (rw [hq];exact NextP.mk (k+1,false) ⟨by dsimp only;omega,hk,by rw [Bool.false_and];simpa using u3⟩ (by dsimp only;omega) (norm_same rfl))
      | false =>
       have hqv:V.bool (!(u.who == v.who)) = .bool true:=by rw [hq];rfl
       have hqe:¬ u.who=v.who:=by simpa using hq
       rw [decide_eq_true hst,decide_eq_false hqe] at u3
       repeat' (first
 | (conv=>whnf)
   first
   | refine Bnd.eq hkw ?_
   | refine Br.t ?_
   | (refine Br.decT ?_ ?_;(focus first | assumption | omega))
   | refine Br.not ?_
   | refine Idx.nat hkl ?_
   | refine Idx.nat hil ?_
   | refine Req.mk h0l ?_
   | refine Get.mk _ hd0 ?_
   | refine Get.mk _ hd1 ?_
   | refine Get.mk _ hc0 ?_
   | refine Get.mk _ rfl ?_)
       all_goals first | (exfalso;omega;done) | (rw [hq];exact NextP.mk (k+1,true) ⟨by dsimp only;omega,hk,by simpa using u3⟩ (by dsimp only;omega) (norm_same rfl))
     ·rw [decide_eq_false hst] at u3
      repeat' (first
 | (conv=>whnf)
   first
   | refine Bnd.eq hkw ?_
   | refine Br.t ?_
   | (refine Br.decT ?_ ?_;(focus first | assumption | omega))
   | (refine Br.decF ?_ ?_;(focus first | assumption | omega))
   | refine Br.not ?_
   | refine Idx.nat hkl ?_
   | refine Req.mk h0l ?_
   | refine Get.mk _ hd1 ?_)
      all_goals first | (exfalso;omega;done) | exact NextP.mk (k+1,true) ⟨by dsimp only;omega,hk,by simpa using u3⟩ (by dsimp only;omega) (norm_same rfl) | trace_state
   obtain rfl:k=l.length:=by omega
   rw [List.drop_length,List.all_nil,Bool.and_true] at u3
   rw [← u3] at hLd
   cases b with
   | false =>
    rw [if_neg (by decide)] at hLd
    rw [hLd] at w2 w3
    repeat' (first
 | (conv=>whnf)
   first
   | refine Bnd.eq hiw ?_
   | refine Br.f ?_
   | (refine Br.decF ?_ ?_;(focus first | assumption | omega)))
    all_goals first | (exfalso;omega;done) | exact NextP.mk (⟨i+1,y,m⟩:CI) ⟨hi,w2,w3⟩ (by dsimp only;omega) (norm_same rfl) | trace_state
   | true =>
    rw [if_pos rfl] at hLd
    rw [hLd,cY_cons] at w2
    rw [hLd,cN_cons] at w3
    cases hyv:v.yes <;> rw [hyv] at hc2 w2 w3
    ·repeat' (first
 | (conv=>whnf)
   first
   | refine Bnd.eq hiw ?_
   | refine Bnd.eq hmw ?_
   | refine Br.t ?_
   | refine Br.f ?_
   | (refine Br.decF ?_ ?_;(focus first | assumption | omega))
   | refine Idx.nat hil ?_
   | refine Req.mk h0l ?_
   | refine Get.mk _ hc2 ?_)
     all_goals first | (exfalso;omega;done) | exact NextP.mk (⟨i+1,y,m+1⟩:CI) ⟨hi,by simpa using w2,by simp at w3;dsimp only;omega⟩ (by dsimp only;omega) (norm_same rfl) | trace_state
    ·repeat' (first
 | (conv=>whnf)
   first
   | refine Bnd.eq hiw ?_
   | refine Bnd.eq hyw ?_
   | refine Br.t ?_
   | refine Br.f ?_
   | (refine Br.decF ?_ ?_;(focus first | assumption | omega))
   | refine Idx.nat hil ?_
   | refine Req.mk h0l ?_
   | refine Get.mk _ hc2 ?_)
     all_goals first | (exfalso;omega;done) | exact NextP.mk (⟨i+1,y+1,m⟩:CI) ⟨hi,by simp at w2;dsimp only;omega,by simpa using w3⟩ (by dsimp only;omega) (norm_same rfl) | trace_state
  obtain rfl:i=l.length:=by omega
  rw [List.drop_length] at w2 w3
  have w2:y=cY (L2 (s:Int) l):=w2
  have w3:m=cN (L2 (s:Int) l):=w3
  rw [← w2] at hy
  rw [← w3] at hno
  rw [hy] at hat haf
  by_cases hd:(y:Int) ≥ need∧m=0
  ·have hnf:noN (lasE l) s=false:=by
    cases h:noN (lasE l) s with
    | false=>rfl
    | true=>exact absurd hd.2 (hno.1 h)
   have hac:=hat hd.1 hnf
   obtain ⟨hd1,hd2⟩:=hd
   repeat' (first
 | (conv=>whnf)
   first
   | refine Bnd.eq hsw ?_
   | (refine Br.decT ?_ ?_;(focus first | assumption | omega))
   | (refine Br.decF ?_ ?_;(focus first | assumption | omega))
   | (refine Ifz.pos ?_ ?_;(focus omega))
   | refine Get.mk _ rfl ?_
   | (refine Req.mk ?_ ?_;(focus first | rfl | decide | exact ⟨rfl,rfl⟩ | exact ⟨rfl,by decide⟩ | exact (fun _=>rfl) | exact (fun h=>nomatch h) | (simp;done) | omega | (simp [big];done) | exact le_big (by omega) | exact lt_big (by omega))))
   all_goals try (exfalso;omega;done)
   refine NextP.mk (s+1) hs (by omega) ?_
   rw [hac]
   rfl
  ·have hac:=haf fun h=>hd ⟨h.1,by
    by_cases h0:m=0
    ·exact h0
    ·have:=hno.2 h0;rw [this] at h;exact absurd h.2 (by decide)⟩
   have hd' : (y:Int) ≥ need→m≠0:=fun h1 h2=>hd ⟨h1,h2⟩
   clear hd
   repeat' (first
 | (conv=>whnf)
   first
   | refine Bnd.eq hsw ?_
   | refine Br.f ?_
   | (refine Br.decT ?_ ?_;(focus first | assumption | omega))
   | (refine Br.decF ?_ ?_;(focus first | assumption | omega))
   | refine Br.dec (fun _ => ?_) (fun _ => ?_))
   all_goals first
    | (exfalso;omega;done)
    | (refine NextP.mk (s+1) hs (by omega) ?_;rw [hac];rfl)
 | cons x r =>
  rw [hL] at hat haf hal
  have hol:(ofInts (x :: r)).length=r.length+1:=by simp [ofInts]
  have hrl:r.length+1≤s:=by simpa using hal
  have hap:ofInts (x :: r)++[V.int .i64 (s:Nat)]=ofInts (x :: (r++[(s:Int)])):=by simp [ofInts]
  have hln:(r++[(s:Int)]).length=r.length+1:=by simp
  repeat' (first
 | (conv=>whnf)
   first
   | (refine Br.decT ?_ ?_;(focus first | assumption | omega)))
  all_goals try (exfalso;omega;done)
  refine LoopP.by (fun a:CI=>a.i≤l.length∧a.y+cY (L2 (s:Int) (l.drop a.i))=cY (L2 (s:Int) l)∧a.n+cN (L2 (s:Int) (l.drop a.i))=cN (L2 (s:Int) l)) (fun a=>[(11,.int .i64 (a.y:Nat)),(12,.int .i64 (a.n:Nat)),(13,.int .i64 (a.i:Nat))]) (fun _=>[B.blk (ofInts (x :: r)) true]) (fun a=>l.length - a.i) ⟨0,0,0⟩ ⟨Nat.zero_le _,by simp,by simp⟩ rfl ?_
  rintro ⟨i,y,m⟩ ⟨w1,w2,w3⟩
  dsimp only at w1 w2 w3 ⊢
  by_cases hi:i<l.length
  ·obtain ⟨v,hvi⟩:∃ v,l[i]?=some v:=⟨_,List.getElem?_eq_getElem hi⟩
   obtain ⟨hc0,hc1,hc2⟩:=vt_c hvi
   have hiw:IntKind.i64.wrap ((i:Int)+1)=((i+1:Nat):Int):=by rw [wrap_i64 (by omega) (by omega)];omega
   have hyw:IntKind.i64.wrap ((y:Int)+1)=((y+1:Nat):Int):=by rw [wrap_i64 (by omega) (by omega)];omega
   have hmw:IntKind.i64.wrap ((m:Int)+1)=((m+1:Nat):Int):=by rw [wrap_i64 (by omega) (by omega)];omega
   have hil:i≤l.length - 1:=by omega
   have h0l:0<l.length:=by omega
   have hLd:=L2_drop (s:=(s:Int)) hvi
   repeat' (first
 | (conv=>whnf)
   first
   | refine Bnd.eq hiw ?_
   | (refine Br.decT ?_ ?_;(focus first | assumption | omega))
   | refine Idx.nat hil ?_
   | refine Req.mk h0l ?_
   | refine Get.mk _ hc1 ?_)
   all_goals try (exfalso;omega;done)
   refine LoopP.by (fun a:Nat × Bool=>i+1≤a.1∧a.1≤l.length∧(a.2 && (l.drop a.1).all fun u => !ltr (s:Int) v.who u)=isL (s:Int) v (l.drop (i+1))) (fun a=>[(14,.bool a.2),(15,.int .i64 (a.1:Nat))]) (fun _=>[B.blk (ofInts (x :: r)) true]) (fun a=>l.length - a.1) (i+1,decide (v.step=(s:Int))) ⟨Nat.le_refl _,hi,rfl⟩ rfl ?_
   rintro ⟨k,b⟩ ⟨u1,u2,u3⟩
   dsimp only at u1 u2 u3 ⊢
   by_cases hk:k<l.length
   ·obtain ⟨u,hu⟩:∃ u,l[k]?=some u:=⟨_,List.getElem?_eq_getElem hk⟩
    obtain ⟨hd0,hd1,_⟩:=vt_c hu
    have hkw:IntKind.i64.wrap ((k:Int)+1)=((k+1:Nat):Int):=by rw [wrap_i64 (by omega) (by omega)];omega
    have hkl:k≤l.length - 1:=by omega
    rw [dropk hu,List.all_cons] at u3
    have hl1:ltr (s:Int) v.who u=(decide (u.step=(s:Int)) && decide (u.who=v.who)):=rfl
    rw [hl1] at u3
    cases b with
    | false =>
     rw [Bool.false_and] at u3
     repeat' (first
 | (conv=>whnf)
   first
   | refine Bnd.eq hkw ?_
   | refine Br.f ?_
   | (refine Br.decT ?_ ?_;(focus first | assumption | omega)))
     all_goals first | (exfalso;omega;done) | exact NextP.mk (k+1,false) ⟨by dsimp only;omega,hk,by rw [Bool.false_and];exact u3⟩ (by dsimp only;omega) (norm_same rfl)
    | true =>
     by_cases hst:u.step=(s:Int)
     ·cases hq:(u.who == v.who) with
      | true =>
       have hqv:V.bool (!(u.who == v.who)) = .bool false:=by rw [hq];rfl
       have hqe:u.who=v.who:=by simpa using hq
       rw [decide_eq_true hst,decide_eq_true hqe] at u3
       repeat' (first
 | (conv=>whnf)
   first
   | refine Bnd.eq hkw ?_
   | refine Br.t ?_
   | (refine Br.decT ?_ ?_;(focus first | assumption | omega))
   | refine Br.not ?_
   | refine Idx.nat hkl ?_
   | refine Idx.nat hil ?_
   | refine Req.mk h0l ?_
   | refine Get.mk _ hd0 ?_
   | refine Get.mk _ hd1 ?_
   | refine Get.mk _ hc0 ?_
   | refine Get.mk _ rfl ?_)
       all_goals first | (exfalso;omega;done) | (rw [hq];exact NextP.mk (k+1,false) ⟨by dsimp only;omega,hk,by rw [Bool.false_and];simpa using u3⟩ (by dsimp only;omega) (norm_same rfl))
      | false =>
       have hqv:V.bool (!(u.who == v.who)) = .bool true:=by rw [hq];rfl
       have hqe:¬ u.who=v.who:=by simpa using hq
       rw [decide_eq_true hst,decide_eq_false hqe] at u3
       repeat' (first
 | (conv=>whnf)
   first
   | refine Bnd.eq hkw ?_
   | refine Br.t ?_
   | (refine Br.decT ?_ ?_;(focus first | assumption | omega))
   | refine Br.not ?_
   | refine Idx.nat hkl ?_
   | refine Idx.nat hil ?_
   | refine Req.mk h0l ?_
   | refine Get.mk _ hd0 ?_
   | refine Get.mk _ hd1 ?_
   | refine Get.mk _ hc0 ?_
   | refine Get.mk _ rfl ?_)
       all_goals first | (exfalso;omega;done) | (rw [hq];exact NextP.mk (k+1,true) ⟨by dsimp only;omega,hk,by simpa using u3⟩ (by dsimp only;omega) (norm_same rfl))
     ·rw [decide_eq_false hst] at u3
      repeat' (first
 | (conv=>whnf)
   first
   | refine Bnd.eq hkw ?_
   | refine Br.t ?_
   | (refine Br.decT ?_ ?_;(focus first | assumption | omega))
   | (refine Br.decF ?_ ?_;(focus first | assumption | omega))
   | refine Br.not ?_
   | refine Idx.nat hkl ?_
   | refine Req.mk h0l ?_
   | refine Get.mk _ hd1 ?_)
      all_goals first | (exfalso;omega;done) | exact NextP.mk (k+1,true) ⟨by dsimp only;omega,hk,by simpa using u3⟩ (by dsimp only;omega) (norm_same rfl) | trace_state
   obtain rfl:k=l.length:=by omega
   rw [List.drop_length,List.all_nil,Bool.and_true] at u3
   rw [← u3] at hLd
   cases b with
   | false =>
    rw [if_neg (by decide)] at hLd
    rw [hLd] at w2 w3
    repeat' (first
 | (conv=>whnf)
   first
   | refine Bnd.eq hiw ?_
   | refine Br.f ?_
   | (refine Br.decF ?_ ?_;(focus first | assumption | omega)))
    all_goals first | (exfalso;omega;done) | exact NextP.mk (⟨i+1,y,m⟩:CI) ⟨hi,w2,w3⟩ (by dsimp only;omega) (norm_same rfl) | trace_state
   | true =>
    rw [if_pos rfl] at hLd
    rw [hLd,cY_cons] at w2
    rw [hLd,cN_cons] at w3
    cases hyv:v.yes <;> rw [hyv] at hc2 w2 w3
    ·repeat' (first
 | (conv=>whnf)
   first
   | refine Bnd.eq hiw ?_
   | refine Bnd.eq hmw ?_
   | refine Br.t ?_
   | refine Br.f ?_
   | (refine Br.decF ?_ ?_;(focus first | assumption | omega))
   | refine Idx.nat hil ?_
   | refine Req.mk h0l ?_
   | refine Get.mk _ hc2 ?_)
     all_goals first | (exfalso;omega;done) | exact NextP.mk (⟨i+1,y,m+1⟩:CI) ⟨hi,by simpa using w2,by simp at w3;dsimp only;omega⟩ (by dsimp only;omega) (norm_same rfl) | trace_state
    ·repeat' (first
 | (conv=>whnf)
   first
   | refine Bnd.eq hiw ?_
   | refine Bnd.eq hyw ?_
   | refine Br.t ?_
   | refine Br.f ?_
   | (refine Br.decF ?_ ?_;(focus first | assumption | omega))
   | refine Idx.nat hil ?_
   | refine Req.mk h0l ?_
   | refine Get.mk _ hc2 ?_)
     all_goals first | (exfalso;omega;done) | exact NextP.mk (⟨i+1,y+1,m⟩:CI) ⟨hi,by simp at w2;dsimp only;omega,by simpa using w3⟩ (by dsimp only;omega) (norm_same rfl) | trace_state
  obtain rfl:i=l.length:=by omega
  rw [List.drop_length] at w2 w3
  have w2:y=cY (L2 (s:Int) l):=w2
  have w3:m=cN (L2 (s:Int) l):=w3
  rw [← w2] at hy
  rw [← w3] at hno
  rw [hy] at hat haf
  by_cases hd:(y:Int) ≥ need∧m=0
  ·have hnf:noN (lasE l) s=false:=by
    cases h:noN (lasE l) s with
    | false=>rfl
    | true=>exact absurd hd.2 (hno.1 h)
   have hac:=hat hd.1 hnf
   obtain ⟨hd1,hd2⟩:=hd
   repeat' (first
 | (conv=>whnf)
   first
   | refine Bnd.eq hsw ?_
   | (refine Br.decT ?_ ?_;(focus first | assumption | omega))
   | (refine Br.decF ?_ ?_;(focus first | assumption | omega))
   | refine Req.mk hol ?_
   | refine Req.mk ⟨by omega,by rw [hol];exact lt_big (by simp;omega)⟩ ?_
   | (refine Ifz.pos ?_ ?_;(focus omega))
   | refine Get.mk _ rfl ?_
   | (refine Req.mk ?_ ?_;(focus first | rfl | decide | exact ⟨rfl,rfl⟩ | exact ⟨rfl,by decide⟩ | exact (fun _=>rfl) | exact (fun h=>nomatch h) | (simp;done) | omega | (simp [big];done) | exact le_big (by omega) | exact lt_big (by omega))))
   all_goals try (exfalso;omega;done)
   refine NextP.mk (s+1) hs (by omega) ?_
   rw [hac,List.cons_append,hap]
   simp only [lvI,hln,acB,hol]
   rfl
  ·have hac:=haf fun h=>hd ⟨h.1,by
    by_cases h0:m=0
    ·exact h0
    ·have:=hno.2 h0;rw [this] at h;exact absurd h.2 (by decide)⟩
   have hd' : (y:Int) ≥ need→m≠0:=fun h1 h2=>hd ⟨h1,h2⟩
   clear hd
   repeat' (first
 | (conv=>whnf)
   first
   | refine Bnd.eq hsw ?_
   | refine Br.f ?_
   | (refine Br.decT ?_ ?_;(focus first | assumption | omega))
   | (refine Br.decF ?_ ?_;(focus first | assumption | omega))
   | refine Br.dec (fun _ => ?_) (fun _ => ?_))
   all_goals first
    | (exfalso;omega;done)
    | (refine NextP.mk (s+1) hs (by omega) ?_;rw [hac];rfl)
end Go.Dr.T
