/- Chapter 08: Trace, where it fails. -/
import Derived.Test.YthihdpbgmhnloaaGreatDoorG11
import Derived.Test.YthihdpbgmhnloaaGreatDoorG10
import Derived.Test.YthihdpbgmhnloaaGreatDoorG7
import Derived.Test.YthihdpbgmhnloaaGreatDoorR08Gb
import Derived.Test.YthihdpbgmhnloaaGreatDoorG2
import Derived.Test.YthihdpbgmhnloaaGreatDoorG4
namespace Go.Dr.T
set_option maxRecDepth 100000 in
set_option maxHeartbeats 20000000 in
theorem trace_bad {c d:Bool} {l:List Fm} {ss:List Sp} {x y:Int} (he:(csE l ss).2≠0):FunF FB md 24 [.sl c l.length (fmC l),.sl d ss.length (spC ss),.int .i64 x,.int .i64 y] (.tup [.agg [.int .i64 0,.int .i64 0],inL [],.int .i64 (csE l ss).2]):=by
 have k1:=csteps_ok (c:=c) (d:=d) (l:=l) (ss:=ss)
 generalize csE l ss=e at *
 obtain ⟨e1,e2⟩:=e
 dsimp only at *
 refine funF_of rfl rfl ?_
 repeat' (first
 | (conv=>whnf)
   first
   | (refine Br.decF ?_ ?_;(focus first | assumption | omega))
   | refine Br.not ?_
   | refine call_fun rfl rfl k1 (.inl rfl) ?_
   | refine Get.mk _ rfl ?_
   | refine LeavesF.of ?_
   | refine VwF.int ?_
   | refine VwF.nil
   | refine VwF.tup ?_
   | refine VwF.agg ?_
   | refine VwLF.cons ?_ ?_
   | refine VwLF.nil
   | (refine Req.mk ?_ ?_;(focus first | rfl | decide | exact ⟨rfl,rfl⟩ | exact ⟨rfl,by decide⟩ | exact (fun _=>rfl) | exact (fun h=>nomatch h) | (simp;done) | omega | (simp [big];done) | exact le_big (by omega) | exact lt_big (by omega))))
 all_goals first | rfl | exact VwF.nil | (exfalso;omega;done)
set_option maxRecDepth 100000 in
set_option maxHeartbeats 20000000 in
theorem trace_none {c d:Bool} {l:List Fm} {W H:Nat} {ss:List Sp} {x y:Int} (o:FOk l W H) (he:(csE l ss).2=0) (h:outB x 0 ((l.length:Int) - 1)=true∨outB y 0 (((W * H:Nat):Int) - 1)=true):FunF FB md 24 [.sl c l.length (fmC l),.sl d ss.length (spC ss),.int .i64 x,.int .i64 y] (.tup [.agg [.int .i64 0,.int .i64 0],inL [],.int .i64 4]):=by
 have k1:=csteps_ok (c:=c) (d:=d) (l:=l) (ss:=ss)
 rw [he] at k1
 generalize (csE l ss).1=e1 at *
 have k4:=out_ok (n:=x) (lo:=0) (hi:=(l.length:Int) - 1)
 have k5:=out_ok (n:=y) (lo:=0) (hi:=((W * H:Nat):Int) - 1)
 have hnn:=o.nn
 have hn12:=o.n12
 have hn0:=o.n0
 obtain ⟨f0,hf0,h0w,_,h0p⟩:=o.at o.n0
 obtain ⟨b0,_,b2⟩:=fm_c hf0
 rw [h0p] at b2
 have hlw:IntKind.i64.wrap ((l.length:Int) - 1)=(l.length:Int) - 1:=wrap_i64 (by omega) (by omega)
 have hpw:IntKind.i64.wrap (((W * H:Nat):Int) - 1)=((W * H:Nat):Int) - 1:=wrap_i64 (by omega) (by omega)
 refine funF_of rfl rfl ?_
 cases h1:outB x 0 ((l.length:Int) - 1) with
 | true =>
  rw [h1] at k4
  repeat' (first
 | (conv=>whnf)
   first
   | refine Bnd.eq hlw ?_
   | refine Br.t ?_
   | refine Br.f ?_
   | refine call_fun rfl rfl k1 (.inl rfl) ?_
   | refine call_fun rfl rfl k4 (.inl rfl) ?_
   | refine Get.mk _ rfl ?_
   | refine LeavesF.of ?_
   | refine VwF.int ?_
   | refine VwF.nil
   | refine VwF.tup ?_
   | refine VwF.agg ?_
   | refine VwLF.cons ?_ ?_
   | refine VwLF.nil
   | (refine Req.mk ?_ ?_;(focus first | rfl | decide | exact ⟨rfl,rfl⟩ | exact ⟨rfl,by decide⟩ | exact (fun _=>rfl) | exact (fun h=>nomatch h) | (simp;done) | omega | (simp [big];done) | exact le_big (by omega) | exact lt_big (by omega))))
  all_goals first | rfl | exact VwF.nil | (exfalso;omega;done)
 | false =>
  have h2:outB y 0 (((W * H:Nat):Int) - 1)=true:=by
   rcases h with h | h
   ·rw [h1] at h;cases h
   ·exact h
  rw [h1] at k4
  rw [h2] at k5
  repeat' (first
 | (conv=>whnf)
   first
   | refine Bnd.eq hlw ?_
   | refine Bnd.eq hpw ?_
   | refine Br.t ?_
   | refine Br.f ?_
   | refine Get.mk _ b2 ?_
   | refine Req.mk hn0 ?_
   | refine call_fun rfl rfl k1 (.inl rfl) ?_
   | refine call_fun rfl rfl k4 (.inl rfl) ?_
   | refine call_fun rfl rfl k5 (.inl rfl) ?_
   | (refine Idx.int ?_ ?_ ?_;(focus omega);(focus omega))
   | refine Get.mk _ rfl ?_
   | refine LeavesF.of ?_
   | refine VwF.int ?_
   | refine VwF.nil
   | refine VwF.tup ?_
   | refine VwF.agg ?_
   | refine VwLF.cons ?_ ?_
   | refine VwLF.nil
   | (refine Req.mk ?_ ?_;(focus first | rfl | decide | exact ⟨rfl,rfl⟩ | exact ⟨rfl,by decide⟩ | exact (fun _=>rfl) | exact (fun h=>nomatch h) | (simp;done) | omega | (simp [big];done) | exact le_big (by omega) | exact lt_big (by omega))))
  all_goals first | rfl | exact VwF.nil | (exfalso;omega;done)
structure TrR where
 a:Int
 b:Int
 by' : List Int
 e:Int
def TrR.v (t:TrR):V:=.tup [.agg [.int .i64 t.a,.int .i64 t.b],inL t.by', .int .i64 t.e]
open Classical in
noncomputable def trR (W H:Nat) (l:List Fm) (ss:List Sp) (i q:Nat):TrR :=
 if h:∃ k,k<ss.length∧(∀ j,j<k→trOk W H l ss i q j)∧¬ trOk W H l ss i q k then ⟨-1, -1,((tr W H l ss i q h.choose).b++[((ss.length - (h.choose+1):Nat):Int)]).reverse,0⟩ else ⟨i,(tr W H l ss i q ss.length).q,(tr W H l ss i q ss.length).b.reverse,0⟩
theorem trR_ok {W H:Nat} {l:List Fm} {ss:List Sp} {i q:Nat} (h:∀ k,k<ss.length→trOk W H l ss i q k):trR W H l ss i q=⟨i,(tr W H l ss i q ss.length).q,(tr W H l ss i q ss.length).b.reverse,0⟩:=by
 unfold trR
 rw [dif_neg fun ⟨k,h1,_,h3⟩=>h3 (h k h1)]
theorem trR_no {W H:Nat} {l:List Fm} {ss:List Sp} {i q k:Nat} (h1:k<ss.length) (h2:∀ j,j<k→trOk W H l ss i q j) (h3:¬ trOk W H l ss i q k):trR W H l ss i q=⟨-1, -1,((tr W H l ss i q k).b++[((ss.length - (k+1):Nat):Int)]).reverse,0⟩:=by
 have h:∃ k,k<ss.length∧(∀ j,j<k→trOk W H l ss i q j)∧¬ trOk W H l ss i q k:=⟨k,h1,h2,h3⟩
 unfold trR
 rw [dif_pos h]
 have hc:=h.choose_spec
 have e:h.choose=k:=by
  rcases Nat.lt_trichotomy h.choose k with e | e | e
  ·exact absurd (h2 _ e) hc.2.2
  ·exact e
  ·exact absurd (hc.2.1 _ e) h3
 rw [e]
end Go.Dr.T
namespace Go.Dr.T
end Go.Dr.T
namespace Go.Dr.T
section
variable {l:List Fm} {A:Nat→List UInt8} {v0 v1 v2:V} {lp:B} {G:List B}
end
end Go.Dr.T
namespace Go.Dr.T
theorem cgM_mem {NU:Nat→UInt8} {i:Nat} {p:List UInt8} {x:Cg}:∀ {m:Nat},x∈cgM NU i p m ↔ ∃ k,k<m∧¬ NU k=p.getD k 0∧x=⟨i,k,p.getD k 0,NU k⟩
 | 0=>⟨fun h=>absurd h List.not_mem_nil,fun ⟨k,h,_⟩=>absurd h (Nat.not_lt_zero _)⟩
 | m+1=>by
  rw [cgM]
  have ih:=cgM_mem (NU:=NU) (i:=i) (p:=p) (x:=x) (m:=m)
  by_cases e:NU m=p.getD m 0
  ·rw [if_pos e,ih]
   constructor
   ·rintro ⟨k,h1,h2,h3⟩;exact ⟨k,by omega,h2,h3⟩
   ·rintro ⟨k,h1,h2,h3⟩
    by_cases ek:k=m
    ·subst ek;exact absurd e h2
    ·exact ⟨k,by omega,h2,h3⟩
  ·rw [if_neg e,List.mem_append,ih,List.mem_singleton]
   constructor
   ·rintro (⟨k,h1,h2,h3⟩ | h)
    ·exact ⟨k,by omega,h2,h3⟩
    ·exact ⟨m,Nat.lt_succ_self m,e,h⟩
   ·rintro ⟨k,h1,h2,h3⟩
    by_cases ek:k=m
    ·subst ek;exact .inr h3
    ·exact .inl ⟨k,by omega,h2,h3⟩
theorem cgM_asc {NU:Nat→UInt8} {i:Nat} {p:List UInt8}:∀ {m:Nat},(cgM NU i p m).Pairwise cgLt
 | 0=>List.Pairwise.nil
 | m+1=>by
  rw [cgM]
  by_cases e:NU m=p.getD m 0
  ·rw [if_pos e];exact cgM_asc (m:=m)
  ·rw [if_neg e,List.pairwise_append]
   refine ⟨cgM_asc (m:=m),List.pairwise_singleton _ _,fun x hx y hy => ?_⟩
   obtain ⟨k,hk,_,rfl⟩:=cgM_mem.1 hx
   rw [List.mem_singleton] at hy
   subst hy
   refine .inr ⟨rfl,?_⟩
   show (k:Int)<(m:Int)
   omega
theorem cgA_mem {NU:Nat→Nat→UInt8} {l:List Fm} {x:Cg}:∀ {n:Nat},x∈cgA NU l n ↔ ∃ i f m,i<n∧l[i]?=some f∧m<f.p.length∧¬ NU i m=f.p.getD m 0∧x=⟨i,m,f.p.getD m 0,NU i m⟩
 | 0=>⟨fun h=>absurd h List.not_mem_nil,fun ⟨i,f,m,h,_⟩=>absurd h (Nat.not_lt_zero _)⟩
 | n+1=>by
  rw [cgA,List.mem_append,cgA_mem (n:=n)]
  constructor
  ·rintro (⟨i,f,m,h1,h2⟩ | h)
   ·exact ⟨i,f,m,by omega,h2⟩
   ·cases hf:l[n]? with
    | none=>rw [hf] at h;cases h
    | some f =>
     rw [hf] at h
     obtain ⟨k,h1,h2,h3⟩:=cgM_mem.1 h
     exact ⟨n,f,k,Nat.lt_succ_self n,hf,h1,h2,h3⟩
  ·rintro ⟨i,f,m,h1,h2,h3,h4,h5⟩
   by_cases e:i=n
   ·subst e
    right
    rw [h2]
    exact cgM_mem.2 ⟨m,h3,h4,h5⟩
   ·exact .inl ⟨i,f,m,by omega,h2,h3,h4,h5⟩
theorem cgA_asc {NU:Nat→Nat→UInt8} {l:List Fm}:∀ {n:Nat},(cgA NU l n).Pairwise cgLt
 | 0=>List.Pairwise.nil
 | n+1=>by
  rw [cgA,List.pairwise_append]
  refine ⟨cgA_asc (n:=n),?_,fun x hx y hy => ?_⟩
  ·cases l[n]? with
   | none=>exact List.Pairwise.nil
   | some f=>exact cgM_asc
  ·obtain ⟨i,f,m,h1,_,_,_,rfl⟩:=cgA_mem.1 hx
   cases hf:l[n]? with
   | none=>rw [hf] at hy;cases hy
   | some g =>
    rw [hf] at hy
    obtain ⟨k,_,_,rfl⟩:=cgM_mem.1 hy
    left
    show (i:Int)<(n:Int)
    omega
theorem doC_cok {l:List Fm} {W H:Nat} {s:Sp} (o:FOk l W H):COk l.length (W * H) (doC l W H s):=by
 refine ⟨fun x hx => ?_,cgA_asc⟩
 obtain ⟨i,f,m,h1,h2,h3,h4,rfl⟩:=cgA_mem.1 hx
 obtain ⟨_,_,hp⟩:=o.all f (List.mem_of_getElem? h2)
 refine ⟨⟨?_,?_⟩,⟨?_,?_⟩,fun e=>h4 e.symm⟩
 ·show (0:Int)≤(i:Int);omega
 ·show (i:Int)<_;omega
 ·show (0:Int)≤(m:Int);omega
 ·show (m:Int)<((W * H:Nat):Int);omega
theorem rnC_get {W H:Nat} {s:Sp}:∀ {ss:List Sp} {l:List Fm} {i:Nat},ss[i]?=some s→(rnC W H l ss)[i]?=some (doC (rnF W H l (ss.take i)) W H s)
 | t :: ss,l,0,h=>by
  simp only [List.getElem?_cons_zero,Option.some.injEq] at h
  subst h
  rfl
 | t :: ss,l,i+1,h=>by
  have:=rnC_get (W:=W) (H:=H) (ss:=ss) (l:=doF l W H t) (i:=i) (by simpa using h)
  simpa [rnC,rnF] using this
theorem rnF_take {W H:Nat} {s:Sp} {ss:List Sp} {l:List Fm} {i:Nat} (h:ss[i]?=some s):rnF W H l (ss.take (i+1))=doF (rnF W H l (ss.take i)) W H s:=by
 have ht:ss.take (i+1)=ss.take i++[s]:=by
  rw [List.take_add_one,h]
  rfl
 rw [ht,rnF_snoc]
theorem rnC_cok {W H:Nat}:∀ {ss:List Sp} {l:List Fm},FOk l W H→∀ x∈rnC W H l ss,COk l.length (W * H) x∧x.length≤30000
 | [],_,_,x,hx=>by cases hx
 | t :: ss,l,o,x,hx=>by
  rw [rnC] at hx
  rcases List.mem_cons.1 hx with rfl | hx
  ·exact ⟨doC_cok o,doC_len o⟩
  ·have:=rnC_cok (ss:=ss) (doF_ok o) x hx
   rwa [doF_len] at this
theorem FOk.fl {l:List Fm} {W H:Nat} (o:FOk l W H):(flE l).2=0:=by
 obtain ⟨f0,hf0,h1,h2,_⟩:=o.at o.n0
 have hz:∀ f∈l,fmE f0.w f0.h f=0:=fun f hf=>by
  obtain ⟨e1,e2,e3⟩:=o.all f hf
  have ow:=o.w
  have oh:=o.h
  unfold fmE
  have a1:¬ (outB f.w 1 48=true∨outB f.h 1 48=true):=by
   simp only [outB,Bool.or_eq_true,decide_eq_true_eq,e1,e2]
   omega
  have a2:¬ ((f.p.length:Int)≠f.w * f.h):=by
   rw [e1,e2,e3,Int.natCast_mul]
   exact fun h=>h rfl
  have a3:¬ (f.w≠f0.w∨f.h≠f0.h):=by
   rw [e1,e2,h1,h2]
   exact fun h=>h.elim (fun q=>q rfl) fun q=>q rfl
  rw [if_neg a1,if_neg a2,if_neg a3]
 cases l with
 | nil=>exact absurd o.n0 (by decide)
 | cons f l =>
  simp only [List.getElem?_cons_zero,Option.some.injEq] at hf0
  subst hf0
  have h12:=o.n12
  rw [flE,if_neg (by omega),flF_all fun j g _ hg=>hz g (List.mem_of_getElem? hg)]
theorem csE_of {l F:List Fm} {ss tt:List Sp} {W H:Nat} (h:(csE l ss).2=0) (oF:FOk F W H) (o:FOk l W H) (hl:F.length=l.length) (hs:∀ s∈tt,s∈ss) (ht:tt.length≤20):(csE F tt).2=0:=by
 have e1:=oF.fl
 have e2:=o.fl
 obtain ⟨f,hf,f1,f2,_⟩:=o.at o.n0
 obtain ⟨g,hg,g1,g2,_⟩:=oF.at oF.n0
 unfold csE at h ⊢
 rw [if_neg (fun q=>q e2)] at h
 rw [if_neg (fun q=>q e1),if_neg (by omega)]
 split at h
 ·exact absurd h (by decide)
 rw [csG_eq hf,f1,f2] at h
 rw [csG_eq hg,g1,g2,hl]
 have hz:=csF_zero h
 have key:∀ (tt:List Sp) (i:Nat),(∀ s∈tt,s∈ss)→(csF l.length (W:Int) (H:Int) tt i).2=0:=by
  intro tt
  induction tt with
  | nil=>intro i _;rfl
  | cons t tt ih =>
   intro i hs
   rw [csF,if_neg (fun q=>q (hz t (hs t (by simp))))]
   exact ih (i+1) fun s h=>hs s (by simp [h])
 exact key tt 0 hs
end Go.Dr.T
namespace Go.Dr.T
theorem fB.i3 {h g:List B} {K:List B→Prop} (hk:fB g fun r=>K (h++r)):fB (if 3=0 then h else h++g) K:=by rw [if_neg (by decide)];exact fB.tail hk
end Go.Dr.T
namespace Go.Dr.T
end Go.Dr.T
namespace Go.Dr.T
end Go.Dr.T
namespace Go.Dr.T
end Go.Dr.T
namespace Go.Dr.T
end Go.Dr.T
namespace Go.Dr.T
end Go.Dr.T
namespace Go.Dr.T
end Go.Dr.T
