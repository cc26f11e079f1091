/- Chapter 08: what is undone, and done again, plain. -/
import Derived.Test.YthihdpbgmhnloaaGreatDoorG17
import Derived.Test.YthihdpbgmhnloaaGreatDoorR08Gi
namespace Go.Dr.T
theorem list_getD {p q:List UInt8} (h:p.length=q.length) (e:∀ m,m<p.length→p.getD m 0=q.getD m 0):p=q:=by
 apply List.ext_getElem h
 intro m h1 h2
 have:=e m h1
 rw [List.getD_eq_getElem?_getD,List.getD_eq_getElem?_getD,List.getElem?_eq_getElem h1,List.getElem?_eq_getElem h2] at this
 exact this
theorem mixP_at {NU:Nat→UInt8} {p:List UInt8} {m:Nat} (h:m<p.length):(mixP NU p p.length).getD m 0=NU m:=by
 unfold mixP
 rw [List.drop_length,List.append_nil,List.getD_eq_getElem?_getD,List.getElem?_map,List.getElem?_range h]
 rfl
theorem cgM_mem {NU:Nat→UInt8} {i:Nat} {p:List UInt8} {x:Cg}:∀ {m:Nat},x∈cgM NU i p m ↔ ∃ k,k<m∧¬ NU k=p.getD k 0∧x=⟨i,k,p.getD k 0,NU k⟩
 | 0=>⟨fun h=>absurd h List.not_mem_nil,fun ⟨k,h,_⟩=>absurd h (Nat.not_lt_zero _)⟩
 | m+1=>by
  rw [cgM]
  have ih:=cgM_mem (NU:=NU) (i:=i) (p:=p) (x:=x) (m:=m)
  by_cases e:NU m=p.getD m 0
  ·rw [if_pos e,ih]
   constructor
   ·rintro ⟨k,h1,h2,h3⟩;exact ⟨k,by omega,h2,h3⟩
   ·rintro ⟨k,h1,h2,h3⟩
    by_cases ek:k=m
    ·subst ek;exact absurd e h2
    ·exact ⟨k,by omega,h2,h3⟩
  ·rw [if_neg e,List.mem_append,ih,List.mem_singleton]
   constructor
   ·rintro (⟨k,h1,h2,h3⟩ | h)
    ·exact ⟨k,by omega,h2,h3⟩
    ·exact ⟨m,Nat.lt_succ_self m,e,h⟩
   ·rintro ⟨k,h1,h2,h3⟩
    by_cases ek:k=m
    ·subst ek;exact .inr h3
    ·exact .inl ⟨k,by omega,h2,h3⟩
theorem cgM_asc {NU:Nat→UInt8} {i:Nat} {p:List UInt8}:∀ {m:Nat},(cgM NU i p m).Pairwise cgLt
 | 0=>List.Pairwise.nil
 | m+1=>by
  rw [cgM]
  by_cases e:NU m=p.getD m 0
  ·rw [if_pos e];exact cgM_asc (m:=m)
  ·rw [if_neg e,List.pairwise_append]
   refine ⟨cgM_asc (m:=m),List.pairwise_singleton _ _,fun x hx y hy => ?_⟩
   obtain ⟨k,hk,_,rfl⟩:=cgM_mem.1 hx
   rw [List.mem_singleton] at hy
   subst hy
   refine .inr ⟨rfl,?_⟩
   show (k:Int)<(m:Int)
   omega
theorem cgA_mem {NU:Nat→Nat→UInt8} {l:List Fm} {x:Cg}:∀ {n:Nat},x∈cgA NU l n ↔ ∃ i f m,i<n∧l[i]?=some f∧m<f.p.length∧¬ NU i m=f.p.getD m 0∧x=⟨i,m,f.p.getD m 0,NU i m⟩
 | 0=>⟨fun h=>absurd h List.not_mem_nil,fun ⟨i,f,m,h,_⟩=>absurd h (Nat.not_lt_zero _)⟩
 | n+1=>by
  rw [cgA,List.mem_append,cgA_mem (n:=n)]
  constructor
  ·rintro (⟨i,f,m,h1,h2⟩ | h)
   ·exact ⟨i,f,m,by omega,h2⟩
   ·cases hf:l[n]? with
    | none=>rw [hf] at h;cases h
    | some f =>
     rw [hf] at h
     obtain ⟨k,h1,h2,h3⟩:=cgM_mem.1 h
     exact ⟨n,f,k,Nat.lt_succ_self n,hf,h1,h2,h3⟩
  ·rintro ⟨i,f,m,h1,h2,h3,h4,h5⟩
   by_cases e:i=n
   ·subst e
    right
    rw [h2]
    exact cgM_mem.2 ⟨m,h3,h4,h5⟩
   ·exact .inl ⟨i,f,m,by omega,h2,h3,h4,h5⟩
theorem cgA_asc {NU:Nat→Nat→UInt8} {l:List Fm}:∀ {n:Nat},(cgA NU l n).Pairwise cgLt
 | 0=>List.Pairwise.nil
 | n+1=>by
  rw [cgA,List.pairwise_append]
  refine ⟨cgA_asc (n:=n),?_,fun x hx y hy => ?_⟩
  ·cases l[n]? with
   | none=>exact List.Pairwise.nil
   | some f=>exact cgM_asc
  ·obtain ⟨i,f,m,h1,_,_,_,rfl⟩:=cgA_mem.1 hx
   cases hf:l[n]? with
   | none=>rw [hf] at hy;cases hy
   | some g =>
    rw [hf] at hy
    obtain ⟨k,_,_,rfl⟩:=cgM_mem.1 hy
    left
    show (i:Int)<(n:Int)
    omega
theorem doC_cok {l:List Fm} {W H:Nat} {s:Sp} (o:FOk l W H):COk l.length (W * H) (doC l W H s):=by
 refine ⟨fun x hx => ?_,cgA_asc⟩
 obtain ⟨i,f,m,h1,h2,h3,h4,rfl⟩:=cgA_mem.1 hx
 obtain ⟨_,_,hp⟩:=o.all f (List.mem_of_getElem? h2)
 refine ⟨⟨?_,?_⟩,⟨?_,?_⟩,fun e=>h4 e.symm⟩
 ·show (0:Int)≤(i:Int);omega
 ·show (i:Int)<_;omega
 ·show (0:Int)≤(m:Int);omega
 ·show (m:Int)<((W * H:Nat):Int);omega
theorem pxL_doF {l:List Fm} {W H:Nat} {s:Sp} {j:Nat} {f:Fm} (hf:l[j]?=some f):pxL (doF l W H s) j=mixP (newU l W H s j) f.p f.p.length:=pxL_at (doF_get hf)
theorem pxL_out {l:List Fm} {j:Nat} (h:l.length≤j):pxL l j=[]:=by
 unfold pxL
 rw [List.getElem?_eq_none h]
theorem pxL_cz {l:List Fm}:pxL (czF l)=pxL l:=by
 funext j
 unfold pxL czF
 rw [List.getElem?_map]
 cases l[j]? <;> rfl
theorem rd_step {l:List Fm} {W H:Nat} {s:Sp} (o:FOk l W H):apAll (pxL l) (doC l W H s)∧apT (pxL l) (doC l W H s) (doC l W H s).length=pxL (doF l W H s):=by
 have c:=doC_cok (s:=s) o
 have hO:∀ x∈doC l W H s,(pxL l x.f.toNat).getD x.p.toNat 0=x.o:=fun x hx=>by
  obtain ⟨i,f,m,h1,h2,h3,h4,rfl⟩:=cgA_mem.1 hx
  show (pxL l i).getD m 0=f.p.getD m 0
  rw [pxL_at h2]
 refine ⟨apAll_of c.pl hO,?_⟩
 funext j
 by_cases hj:j<l.length
 rotate_left
 ·have h1:(apT (pxL l) (doC l W H s) (doC l W H s).length j).length=0:=by rw [apT_len,pxL_out (by omega)];rfl
  rw [List.eq_nil_of_length_eq_zero h1,pxL_out (by rw [doF_len];omega)]
 obtain ⟨f,hf,_,_,hp⟩:=o.at hj
 rw [pxL_doF hf]
 refine list_getD (by rw [apT_len,mixP_len (Nat.le_refl _),pxL_at hf]) fun m hm => ?_
 rw [apT_len,pxL_at hf] at hm
 rw [mixP_at hm]
 by_cases e:newU l W H s j m=f.p.getD m 0
 ·rw [apT_out,pxL_at hf,e]
  intro i x _ hx hpl
  obtain ⟨i', f', m', h1,h2,h3,h4,rfl⟩:=cgA_mem.1 (List.mem_of_getElem? hx)
  obtain ⟨e1,e2⟩:=hpl
  have e1:i' = j:=e1
  have e2:m' = m:=e2
  subst e1 e2
  rw [hf] at h2
  cases h2
  exact h4 e
 ·have hx:(⟨j,m,f.p.getD m 0,newU l W H s j m⟩:Cg)∈doC l W H s:=cgA_mem.2 ⟨j,f,m,hj,hf,hm,e,rfl⟩
  obtain ⟨i,hi⟩:=List.getElem?_of_mem hx
  exact apT_in (A:=pxL l) c.pl hi (by show m<(pxL l j).length;rw [pxL_at hf];exact hm) (List.getElem?_eq_some_iff.1 hi).1
theorem un_step {l:List Fm} {W H:Nat} {s:Sp} (o:FOk l W H):apAll (pxL (doF l W H s)) ((doC l W H s).map swC)∧apT (pxL (doF l W H s)) ((doC l W H s).map swC) ((doC l W H s).map swC).length=pxL l:=by
 have c:=doC_cok (s:=s) o
 have hd:=plD_sw c.pl
 have hO:∀ x∈(doC l W H s).map swC,(pxL (doF l W H s) x.f.toNat).getD x.p.toNat 0=x.o:=fun x hx=>by
  obtain ⟨y,hy,rfl⟩:=List.mem_map.1 hx
  obtain ⟨i,f,m,h1,h2,h3,h4,rfl⟩:=cgA_mem.1 hy
  show (pxL (doF l W H s) i).getD m 0=newU l W H s i m
  rw [pxL_doF h2,mixP_at h3]
 refine ⟨apAll_of hd hO,?_⟩
 funext j
 by_cases hj:j<l.length
 rotate_left
 ·have h1:(apT (pxL (doF l W H s)) ((doC l W H s).map swC) ((doC l W H s).map swC).length j).length=0:=by rw [apT_len,pxL_out (by rw [doF_len];omega)];rfl
  rw [List.eq_nil_of_length_eq_zero h1,pxL_out (by omega)]
 obtain ⟨f,hf,_,_,hp⟩:=o.at hj
 rw [pxL_at hf]
 refine list_getD (by rw [apT_len,pxL_doF hf,mixP_len (Nat.le_refl _)]) fun m hm => ?_
 rw [apT_len,pxL_doF hf,mixP_len (Nat.le_refl _)] at hm
 by_cases e:newU l W H s j m=f.p.getD m 0
 ·rw [apT_out,pxL_doF hf,mixP_at hm,e]
  intro i x _ hx hpl
  obtain ⟨y,hy,rfl⟩:=List.mem_map.1 (List.mem_of_getElem? hx)
  obtain ⟨i', f', m', h1,h2,h3,h4,rfl⟩:=cgA_mem.1 hy
  obtain ⟨e1,e2⟩:=hpl
  have e1:i' = j:=e1
  have e2:m' = m:=e2
  subst e1 e2
  rw [hf] at h2
  cases h2
  exact h4 e
 ·have hx:swC (⟨j,m,f.p.getD m 0,newU l W H s j m⟩:Cg)∈(doC l W H s).map swC:=List.mem_map.2 ⟨_,cgA_mem.2 ⟨j,f,m,hj,hf,hm,e,rfl⟩,rfl⟩
  obtain ⟨i,hi⟩:=List.getElem?_of_mem hx
  exact apT_in (A:=pxL (doF l W H s)) hd hi (by show m<(pxL (doF l W H s) j).length;rw [pxL_doF hf,mixP_len (Nat.le_refl _)];exact hm) (List.getElem?_eq_some_iff.1 hi).1
theorem rnC_get {W H:Nat} {s:Sp}:∀ {ss:List Sp} {l:List Fm} {i:Nat},ss[i]?=some s→(rnC W H l ss)[i]?=some (doC (rnF W H l (ss.take i)) W H s)
 | t :: ss,l,0,h=>by
  simp only [List.getElem?_cons_zero,Option.some.injEq] at h
  subst h
  rfl
 | t :: ss,l,i+1,h=>by
  have:=rnC_get (W:=W) (H:=H) (ss:=ss) (l:=doF l W H t) (i:=i) (by simpa using h)
  simpa [rnC,rnF] using this
theorem rnF_take {W H:Nat} {s:Sp} {ss:List Sp} {l:List Fm} {i:Nat} (h:ss[i]?=some s):rnF W H l (ss.take (i+1))=doF (rnF W H l (ss.take i)) W H s:=by
 have ht:ss.take (i+1)=ss.take i++[s]:=by
  rw [List.take_add_one,h]
  rfl
 rw [ht,rnF_snoc]
theorem un_all {l:List Fm} {W H:Nat} {ss:List Sp} (o:FOk l W H):∀ k,k≤ss.length→unT (pxL (rnF W H l ss)) (rnC W H l ss) k=pxL (rnF W H l (ss.take (ss.length - k)))∧∀ j,j<k→unOk (pxL (rnF W H l ss)) (rnC W H l ss) j
 | 0,_=>⟨by rw [Nat.sub_zero,List.take_length];rfl,fun j h=>absurd h (Nat.not_lt_zero _)⟩
 | k+1,hk=>by
  obtain ⟨ih1,ih2⟩:=un_all (ss:=ss) o k (by omega)
  obtain ⟨s,hs⟩:∃ s,ss[ss.length - (k+1)]?=some s:=⟨_,List.getElem?_eq_getElem (by omega)⟩
  have hc:=rnC_get (W:=W) (H:=H) (l:=l) hs
  have hL:(rnC W H l ss).length=ss.length:=rnC_len
  have e:ss.length - k=ss.length - (k+1)+1:=by omega
  rw [e,rnF_take hs] at ih1
  obtain ⟨u1,u2⟩:=un_step (s:=s) (rnF_ok (ss:=ss.take (ss.length - (k+1))) o)
  refine ⟨by rw [unT_S (by rw [hL];exact hc),ih1,u2],fun j hj => ?_⟩
  by_cases ej:j=k
  ·subst ej
   intro cs hcs
   rw [hL,hc] at hcs
   cases hcs
   rw [ih1]
   exact u1
  ·exact ih2 j (by omega)
theorem rd_all {l:List Fm} {W H:Nat} {ss:List Sp} (o:FOk l W H):∀ k,k≤ss.length→rdT (pxL l) (rnC W H l ss) k=pxL (rnF W H l (ss.take k))∧∀ j,j<k→rdOk (pxL l) (rnC W H l ss) j
 | 0,_=>⟨rfl,fun j h=>absurd h (Nat.not_lt_zero _)⟩
 | k+1,hk=>by
  obtain ⟨ih1,ih2⟩:=rd_all (ss:=ss) o k (by omega)
  obtain ⟨s,hs⟩:∃ s,ss[k]?=some s:=⟨_,List.getElem?_eq_getElem (by omega)⟩
  have hc:=rnC_get (W:=W) (H:=H) (l:=l) hs
  obtain ⟨u1,u2⟩:=rd_step (s:=s) (rnF_ok (ss:=ss.take k) o)
  refine ⟨by rw [rdT_S hc,ih1,u2,rnF_take hs],fun j hj => ?_⟩
  by_cases ej:j=k
  ·subst ej
   intro cs hcs
   rw [hc] at hcs
   cases hcs
   rw [ih1]
   exact u1
  ·exact ih2 j (by omega)
theorem rnC_cok {W H:Nat}:∀ {ss:List Sp} {l:List Fm},FOk l W H→∀ x∈rnC W H l ss,COk l.length (W * H) x∧x.length≤30000
 | [],_,_,x,hx=>by cases hx
 | t :: ss,l,o,x,hx=>by
  rw [rnC] at hx
  rcases List.mem_cons.1 hx with rfl | hx
  ·exact ⟨doC_cok o,doC_len o⟩
  ·have:=rnC_cok (ss:=ss) (doF_ok o) x hx
   rwa [doF_len] at this
theorem FOk.fl {l:List Fm} {W H:Nat} (o:FOk l W H):(flE l).2=0:=by
 obtain ⟨f0,hf0,h1,h2,_⟩:=o.at o.n0
 have hz:∀ f∈l,fmE f0.w f0.h f=0:=fun f hf=>by
  obtain ⟨e1,e2,e3⟩:=o.all f hf
  have ow:=o.w
  have oh:=o.h
  unfold fmE
  have a1:¬ (outB f.w 1 48=true∨outB f.h 1 48=true):=by
   simp only [outB,Bool.or_eq_true,decide_eq_true_eq,e1,e2]
   omega
  have a2:¬ ((f.p.length:Int)≠f.w * f.h):=by
   rw [e1,e2,e3,Int.natCast_mul]
   exact fun h=>h rfl
  have a3:¬ (f.w≠f0.w∨f.h≠f0.h):=by
   rw [e1,e2,h1,h2]
   exact fun h=>h.elim (fun q=>q rfl) fun q=>q rfl
  rw [if_neg a1,if_neg a2,if_neg a3]
 cases l with
 | nil=>exact absurd o.n0 (by decide)
 | cons f l =>
  simp only [List.getElem?_cons_zero,Option.some.injEq] at hf0
  subst hf0
  have h12:=o.n12
  rw [flE,if_neg (by omega),flF_all fun j g _ hg=>hz g (List.mem_of_getElem? hg)]
theorem mkF_same {F l:List Fm} {W H:Nat} {A:Nat→List UInt8} (oF:FOk F W H) (o:FOk l W H) (hl:F.length=l.length) (hA:A=pxL l):FSm (mkF F A) l:=by
 refine ⟨mkF_len.trans hl,fun i f g hf hg => ?_⟩
 have hi:=(List.getElem?_eq_some_iff.1 hg).1
 obtain ⟨u,hu,h1,h2,_⟩:=oF.at (i:=i) (by omega)
 obtain ⟨e1,e2,_⟩:=o.all g (List.mem_of_getElem? hg)
 rw [mkF_get hu] at hf
 cases hf
 refine ⟨h1.trans e1.symm,h2.trans e2.symm,?_⟩
 show A i=g.p
 rw [hA,pxL_at hg]
theorem csE_of {l F:List Fm} {ss tt:List Sp} {W H:Nat} (h:(csE l ss).2=0) (oF:FOk F W H) (o:FOk l W H) (hl:F.length=l.length) (hs:∀ s∈tt,s∈ss) (ht:tt.length≤20):(csE F tt).2=0:=by
 have e1:=oF.fl
 have e2:=o.fl
 obtain ⟨f,hf,f1,f2,_⟩:=o.at o.n0
 obtain ⟨g,hg,g1,g2,_⟩:=oF.at oF.n0
 unfold csE at h ⊢
 rw [if_neg (fun q=>q e2)] at h
 rw [if_neg (fun q=>q e1),if_neg (by omega)]
 split at h
 ·exact absurd h (by decide)
 rw [csG_eq hf,f1,f2] at h
 rw [csG_eq hg,g1,g2,hl]
 have hz:=csF_zero h
 have key:∀ (tt:List Sp) (i:Nat),(∀ s∈tt,s∈ss)→(csF l.length (W:Int) (H:Int) tt i).2=0:=by
  intro tt
  induction tt with
  | nil=>intro i _;rfl
  | cons t tt ih =>
   intro i hs
   rw [csF,if_neg (fun q=>q (hz t (hs t (by simp))))]
   exact ih (i+1) fun s h=>hs s (by simp [h])
 exact key tt 0 hs
end Go.Dr.T
namespace Go.Dr.T
theorem spC_take:∀ {ss:List Sp} {k:Nat},(spC ss).take (k * 8)=spC (ss.take k)
 | ss,0=>by rw [Nat.zero_mul];rfl
 | [],k+1=>by simp [spC]
 | s :: ss,k+1=>by
  rw [show (k+1) * 8=k * 8+1+1+1+1+1+1+1+1 by omega]
  simp only [spC,List.take_succ_cons,spC_take (ss:=ss) (k:=k)]
theorem part_take {l:List V} {k:Nat} (h:k≤l.length):part l 0 k=some (l.take k):=by
 unfold part
 simp only [drop', take'_take,List.length_take,Nat.min_eq_left h,if_true]
theorem drop'_drop:∀ (n:Nat) (l:List V),drop' n l=l.drop n
 | 0,_=>rfl
 | n+1,[]=>rfl
 | n+1,_ :: l=>drop'_drop n l
theorem part_drop {l:List V} {k m:Nat} (h:k+m=l.length):part l k m=some (l.drop k):=by
 unfold part
 rw [take'_take,drop'_drop,List.take_of_length_le (by rw [List.length_drop];omega)]
 dsimp only
 rw [if_pos (by rw [List.length_drop];omega)]
theorem spC_part0 {ss:List Sp} {k:Nat} (h:k≤ss.length):part (spC ss) (0 * 8) ((k - 0) * 8)=some (spC (ss.take k)):=by
 rw [Nat.zero_mul,Nat.sub_zero,part_take (by rw [spC_length];omega),spC_take]
theorem lgC_drop {L:List (List Cg)} {k:Nat}:(lgC L).drop k=lgC (L.drop k):=by
 unfold lgC
 rw [List.map_drop]
theorem lgC_take {L:List (List Cg)} {k:Nat}:(lgC L).take k=lgC (L.take k):=by
 unfold lgC
 rw [List.map_take]
theorem lgC_partD {L:List (List Cg)} {k:Nat} (h:k≤L.length):part (lgC L) (k * 1) ((L.length - k) * 1)=some (lgC (L.drop k)):=by
 rw [Nat.mul_one,Nat.mul_one,part_drop (by rw [lgC_length];omega),lgC_drop]
theorem lgC_partT {L:List (List Cg)} {k:Nat} (h:k≤L.length):part (lgC L) (0 * 1) ((k - 0) * 1)=some (lgC (L.take k)):=by
 rw [Nat.zero_mul,Nat.mul_one,Nat.sub_zero,part_take (by rw [lgC_length];omega),lgC_take]
theorem rnC_drop {W H:Nat}:∀ {k:Nat} {ss:List Sp} {l:List Fm},(rnC W H l ss).drop k=rnC W H (rnF W H l (ss.take k)) (ss.drop k)
 | 0,ss,l=>rfl
 | k+1,[],l=>rfl
 | k+1,s :: ss,l=>by
  simp only [rnC,List.drop_succ_cons,List.take_succ_cons,rnF]
  exact rnC_drop (k:=k)
theorem rnC_take {W H:Nat}:∀ {k:Nat} {ss:List Sp} {l:List Fm},(rnC W H l ss).take k=rnC W H l (ss.take k)
 | 0,ss,l=>rfl
 | k+1,[],l=>rfl
 | k+1,s :: ss,l=>by
  simp only [rnC,List.take_succ_cons]
  rw [rnC_take (k:=k)]
theorem rnF_split {W H:Nat} {k:Nat} {ss:List Sp} {l:List Fm}:rnF W H (rnF W H l (ss.take k)) (ss.drop k)=rnF W H l ss:=by
 rw [← rnF_app,List.take_append_drop]
end Go.Dr.T
