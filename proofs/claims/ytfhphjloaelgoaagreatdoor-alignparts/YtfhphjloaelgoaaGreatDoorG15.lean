/- Chapter 06: what comes before what: plain. -/
import Derived.Test.YtfhphjloaelgoaaGreatDoorG14
import Derived.Test.YtfhphjloaelgoaaGreatDoorG12
import Derived.Test.YtfhphjloaelgoaaGreatDoorG11
import Derived.Test.YtfhphjloaelgoaaGreatDoorDrG
namespace Go.Dr.T
inductive RT (T:Nat→Nat→Bool) (a:Nat):Nat→Prop
 | base:RT T a a
 | step {q k:Nat}:RT T a q→T q k=true→1≤k→k<1000→RT T a k
def CM (T:Nat→Nat→Bool) (a b:Nat):Prop:=∃ q,RT T a q∧T q b=true
theorem RT.lt {T:Nat→Nat→Bool} {a k:Nat} (ha:a<1000) (h:RT T a k):k<1000:=by
 cases h with
 | base=>exact ha
 | step _ _ _ h=>exact h
def unsn (sn:Nat→Bool):Nat:=((List.range 1000).filter fun k => !sn k).length
theorem unsn_up {sn:Nat→Bool} {k:Nat} (hk:k<1000) (hs:sn k=false):unsn (upB sn k true)+1=unsn sn:=by
 unfold unsn
 have e:(List.range 1000).filter (fun j => !upB sn k true j)=((List.range 1000).filter fun j => !sn j).erase k:=by
  rw [List.Nodup.erase_eq_filter (List.nodup_range.filter _),List.filter_filter]
  apply List.filter_congr
  intro j _
  unfold upB
  by_cases h:j=k
  ·subst h;simp
  ·rw [if_neg h];simp [h]
 have hm:k∈(List.range 1000).filter fun j => !sn j:=List.mem_filter.2 ⟨List.mem_range.2 hk,by simp [hs]⟩
 rw [e,List.length_erase_of_mem hm]
 have:=List.length_pos_of_mem hm
 omega
def Cd (T:Nat→Nat→Bool) (b:Nat) (sn:Nat→Bool) (k:Nat):Prop:=T k b=false∧∀ m,1≤m→m<1000→T k m=true→sn m=true
theorem Cd.up {T:Nat→Nat→Bool} {b k j:Nat} {sn:Nat→Bool} (h:Cd T b sn k):Cd T b (upB sn j true) k:=⟨h.1,fun m h1 h2 h3=>by
 unfold upB
 split
 ·rfl
 ·exact h.2 m h1 h2 h3⟩
structure CQ (T:Nat→Nat→Bool) (a b:Nat) (Q:List Nat) (sn:Nat→Bool):Prop where
 rc:∀ q∈Q,RT T a q
 sr:∀ k,sn k=true→RT T a k
 sb:sn b=false
 cl:∀ k,k=a∨sn k=true→k∈Q∨Cd T b sn k
theorem CQ.start {T:Nat→Nat→Bool} {a b:Nat}:CQ T a b [a] (fun _=>false) :=
 ⟨fun q hq=>by rw [List.mem_singleton] at hq;subst hq;exact .base,fun k hk=>absurd hk (by decide),rfl,fun k hk=>.inl (by
  rcases hk with h | h
  ·subst h;simp
  ·cases h)⟩
theorem CQ.fin {T:Nat→Nat→Bool} {a b:Nat} {sn:Nat→Bool} (c:CQ T a b [] sn):¬ CM T a b:=by
 rintro ⟨q,hr,hb⟩
 have key:∀ q,RT T a q→Cd T b sn q∧(q=a∨sn q=true):=fun q h=>by
  have hq:q=a∨sn q=true:=by
   induction h with
   | base=>exact .inl rfl
   | step _ h1 h2 h3 ih =>
    rcases c.cl _ ih with h | h
    ·cases h
    ·exact .inr (h.2 _ h2 h3 h1)
  rcases c.cl _ hq with h | h
  ·cases h
  ·exact ⟨h,hq⟩
 rw [(key q hr).1.1] at hb
 cases hb
structure CI (T:Nat→Nat→Bool) (a b m N k:Nat) (Q:List Nat) (sn:Nat→Bool):Prop where
 k1:1≤k
 k2:k≤1000
 rc:∀ q∈Q,RT T a q
 sr:∀ k,sn k=true→RT T a k
 sb:sn b=false
 rm:RT T a m
 nb:∀ j,1≤j→j<k→T m j=true→sn j=true
 nt:b<k→T m b=false
 cl:∀ k,k=a∨sn k=true→k∈Q∨k=m∨Cd T b sn k
 ms:2 * unsn sn+Q.length≤N
theorem CQ.pop {T:Nat→Nat→Bool} {a b m:Nat} {Q:List Nat} {sn:Nat→Bool} (c:CQ T a b (m :: Q) sn) (hb:1≤b):CI T a b m (2 * unsn sn+Q.length) 1 Q sn :=
 ⟨Nat.le_refl _,by decide,fun q hq=>c.rc q (by simp [hq]),c.sr,c.sb,c.rc m (by simp),fun j h1 h2=>by omega,fun h=>by omega,fun k hk=>by
  rcases c.cl k hk with h | h
  ·rcases List.mem_cons.1 h with h | h
   ·exact .inr (.inl h)
   ·exact .inl h
  ·exact .inr (.inr h),Nat.le_refl _⟩
theorem CI.skip {T:Nat→Nat→Bool} {a b m N k:Nat} {Q:List Nat} {sn:Nat→Bool} (c:CI T a b m N k Q sn) (hk:k<1000) (h:T m k=false∨sn k=true):CI T a b m N (k+1) Q sn :=
 ⟨by omega,hk,c.rc,c.sr,c.sb,c.rm,fun j h1 h2 h3=>by
  by_cases e:j=k
  ·subst e
   rcases h with h | h
   ·rw [h] at h3;cases h3
   ·exact h
  ·exact c.nb j h1 (by omega) h3,fun h2=>by
  by_cases e:b=k
  ·subst e
   rcases h with h | h
   ·exact h
   ·rw [c.sb] at h;cases h
  ·exact c.nt (by omega),c.cl,c.ms⟩
theorem CI.push {T:Nat→Nat→Bool} {a b m N k:Nat} {Q:List Nat} {sn:Nat→Bool} (c:CI T a b m N k Q sn) (hk:k<1000) (h1:T m k=true) (h2:sn k=false) (h3:k≠b):CI T a b m N (k+1) (Q++[k]) (upB sn k true):=by
 have hr:RT T a k:=.step c.rm h1 c.k1 hk
 have hu:∀ j,sn j=true→upB sn k true j=true:=fun j hj=>by
  unfold upB;split
  ·rfl
  ·exact hj
 have hi:∀ j,upB sn k true j=true→j=k∨sn j=true:=fun j hj=>by
  unfold upB at hj
  by_cases e:j=k
  ·exact .inl e
  ·rw [if_neg e] at hj;exact .inr hj
 refine ⟨by omega,hk,fun q hq => ?_,fun j hj => ?_,by unfold upB;rw [if_neg (fun e=>h3 e.symm)];exact c.sb,c.rm,fun j g1 g2 g3 => ?_,fun g=>c.nt (by omega),fun j hj => ?_,?_⟩
 ·rcases List.mem_append.1 hq with hq | hq
  ·exact c.rc q hq
  ·rw [List.mem_singleton] at hq;subst hq;exact hr
 ·rcases hi j hj with e | e
  ·subst e;exact hr
  ·exact c.sr j e
 ·by_cases e:j=k
  ·subst e;unfold upB;rw [if_pos rfl]
  ·exact hu j (c.nb j g1 (by omega) g3)
 ·have old:j=a∨sn j=true→j∈Q++[k]∨j=m∨Cd T b (upB sn k true) j:=fun h=>by
   rcases c.cl j h with h | h | h
   ·exact .inl (List.mem_append_left _ h)
   ·exact .inr (.inl h)
   ·exact .inr (.inr h.up)
  rcases hj with hj | hj
  ·exact old (.inl hj)
  ·rcases hi j hj with e | e
   ·subst e;exact .inl (by simp)
   ·exact old (.inr e)
 ·have:=unsn_up hk h2
  have:=c.ms
  rw [List.length_append]
  simp
  omega
theorem CI.fin {T:Nat→Nat→Bool} {a b m N:Nat} {Q:List Nat} {sn:Nat→Bool} (c:CI T a b m N 1000 Q sn) (hb:b<1000):CQ T a b Q sn :=
 ⟨c.rc,c.sr,c.sb,fun k hk=>by
  rcases c.cl k hk with h | h | h
  ·exact .inl h
  ·subst h;exact .inr ⟨c.nt hb,fun j h1 h2 h3=>c.nb j h1 h2 h3⟩
  ·exact .inr h⟩
theorem CI.yes {T:Nat→Nat→Bool} {a b m N k:Nat} {Q:List Nat} {sn:Nat→Bool} (c:CI T a b m N k Q sn) (h:T m b=true):CM T a b:=⟨m,c.rm,h⟩
end Go.Dr.T
namespace Go.Dr.T
def ixF (m:Int):List Int→Nat→Int
 | [],_ => -1
 | x :: l,k=>if x=m then (k:Int) else ixF m l (k+1)
theorem ixF_no {m:Int}:∀ {l:List Int} {k:Nat},m ∉ l→ixF m l k = -1
 | [],_,_=>rfl
 | x :: l,k,h=>by
  rw [ixF,if_neg (fun e=>h (by rw [e];simp)),ixF_no (fun e=>h (List.mem_cons_of_mem _ e))]
theorem ixF_get {m:Int}:∀ {l:List Int} {i k:Nat},l.Nodup→l[i]?=some m→ixF m l k=((k+i:Nat):Int)
 | [],i,k,_,h=>by cases h
 | x :: l,0,k,_,h=>by
  rw [List.getElem?_cons_zero,Option.some.injEq] at h
  rw [ixF,if_pos h]
  rfl
 | x :: l,i+1,k,nd,h=>by
  rw [List.getElem?_cons_succ] at h
  rw [List.nodup_cons] at nd
  rw [ixF,if_neg (fun e=>nd.1 (by rw [e];exact List.mem_of_getElem? h)),ixF_get nd.2 h]
  omega
theorem wgo_spec {D:List PE}:∀ {n:Nat} {R all A:List Int},R.Nodup→wgo D n R all=some A→∃ B,A=all++B∧B.Perm R∧∀ (i j:Nat) (x y:Int),B[i]?=some x→B[j]?=some y→y∈pM D x→i<j
 | 0,R,all,A,nd,h=>by
  rw [wgo] at h
  split at h
  ·rename_i e
   subst e
   rw [Option.some.injEq] at h
   exact ⟨[],by rw [List.append_nil];exact h.symm,List.Perm.refl _,fun i j x y h=>by cases h⟩
  ·cases h
 | n+1,R,all,A,nd,h=>by
  rw [wgo] at h
  split at h
  ·rename_i e
   subst e
   rw [Option.some.injEq] at h
   exact ⟨[],by rw [List.append_nil];exact h.symm,List.Perm.refl _,fun i j x y h=>by cases h⟩
  ·split at h
   ·cases h
   ·rename_i k hk
    have hf:=List.find?_some hk
    unfold freeB hasB at hf
    rw [Bool.and_eq_true,decide_eq_true_eq,List.all_eq_true] at hf
    obtain ⟨B,h1,h2,h3⟩:=wgo_spec (nd.erase k) h
    have hp:(k :: B).Perm R:=(List.Perm.cons k h2).trans (List.perm_cons_erase hf.1).symm
    refine ⟨k :: B,by rw [h1];simp,hp,fun i j x y hi hj hxy => ?_⟩
    cases j with
    | zero =>
     exfalso
     rw [List.getElem?_cons_zero,Option.some.injEq] at hj
     subst hj
     have:=hf.2 x (hp.mem_iff.1 (List.mem_of_getElem? hi))
     rw [Bool.not_eq_true', decide_eq_false_iff_not] at this
     exact this hxy
    | succ j =>
     cases i with
     | zero=>omega
     | succ i =>
      rw [List.getElem?_cons_succ] at hi hj
      have:=h3 i j x y hi hj hxy
      omega
structure PthOk (g:Int→List Int) (a:Int) (q:List Int):Prop where
 hd:q[0]?=some a
 ge:∀ k∈q,a≤k
 st:∀ (i:Nat) (x y:Int),q[i]?=some x→q[i+1]?=some y→y∈g x
theorem lastM_get:∀ {l:List Int},l≠[]→l[l.length - 1]?=some (lastM l)
 | [a],_=>rfl
 | a :: b :: l,_=>by
  have:=lastM_get (l:=b :: l) (by simp)
  simpa [lastM] using this
theorem PthOk.ne {g:Int→List Int} {a:Int} {q:List Int} (h:PthOk g a q):q≠[]:=fun e=>by have:=h.hd;rw [e] at this;cases this
theorem PthOk.snoc {g:Int→List Int} {a k:Int} {q:List Int} (h:PthOk g a q) (h1:k∈g (lastM q)) (h2:a≤k):PthOk g a (q++[k]):=by
 have hl:=List.length_pos_iff.2 h.ne
 refine ⟨by rw [List.getElem?_append_left hl];exact h.hd,fun x hx => ?_,fun i x y hi hj => ?_⟩
 ·rcases List.mem_append.1 hx with hx | hx
  ·exact h.ge x hx
  ·rw [List.mem_singleton] at hx;rw [hx];exact h2
 ·by_cases hc:i+1<q.length
  ·rw [List.getElem?_append_left (by omega)] at hi
   rw [List.getElem?_append_left hc] at hj
   exact h.st i x y hi hj
  ·have hlt:=(List.getElem?_eq_some_iff.1 hj).1
   rw [List.length_append] at hlt
   simp only [List.length_singleton] at hlt
   have e:i=q.length - 1:=by omega
   rw [List.getElem?_append_left (by omega),e,lastM_get h.ne,Option.some.injEq] at hi
   rw [List.getElem?_append_right (by omega),show i+1 - q.length=0 by omega,List.getElem?_cons_zero,Option.some.injEq] at hj
   subst hi hj
   exact h1
theorem pgo_path {g:Int→List Int} {a:Int}:∀ {n:Nat} {Q:List (List Int)} {sn:List Int} {p:List Int},pgo g a a a n Q sn=some (some p)→(∀ q∈Q,PthOk g a q)→PthOk g a p∧a∈g (lastM p)
 | 0,Q,sn,p,h,_=>by rw [pgo] at h;cases h
 | n+1,[],sn,p,h,_=>by rw [pgo] at h;cases h
 | n+1,q :: Q,sn,p,h,hQ=>by
  have hq:=hQ q (by simp)
  rw [pgo] at h
  split at h
  ·rename_i hm
   cases h
   exact ⟨hq,hm⟩
  ·refine pgo_path h fun x hx => ?_
   rcases List.mem_append.1 hx with hx | hx
   ·exact hQ x (List.mem_cons_of_mem _ hx)
   ·obtain ⟨k,hk,rfl⟩:=List.mem_map.1 hx
    unfold fresh at hk
    obtain ⟨h1,h2⟩:=List.mem_filter.1 hk
    rw [decide_eq_true_eq] at h2
    exact hq.snoc h1 (by omega)
theorem round_one {w:Int→Option (List Int)}:∀ {S:List Int} {b:Option (List Int)} {p:List Int},S.foldl (rStep w) b=some p→b=some p∨∃ k∈S,w k=some p
 | [],b,p,h=>.inl h
 | k :: S,b,p,h=>by
  rw [List.foldl_cons] at h
  rcases round_one h with h | ⟨j,hj,h⟩
  ·unfold rStep at h
   split at h
   ·exact .inl h
   ·rename_i y hy
    split at h
    ·cases h;exact .inr ⟨k,by simp,hy⟩
    ·split at h
     ·cases h;exact .inr ⟨k,by simp,hy⟩
     ·rename_i x _
      exact .inl h
  ·exact .inr ⟨j,List.mem_cons_of_mem _ hj,h⟩
theorem pgo_len {g:Int→List Int} {a:Int}:∀ {n L:Nat} {Q:List (List Int)} {sn:List Int} {p:List Int},(∀ p∈Q,p.length≤L)→pgo g a a a n Q sn=some (some p)→p.length≤L+n
 | 0,L,Q,sn,p,_,h=>by rw [pgo] at h;cases h
 | n+1,L,[],sn,p,_,h=>by rw [pgo] at h;cases h
 | n+1,L,q :: Q,sn,p,hQ,h=>by
  rw [pgo] at h
  split at h
  ·cases h
   have:=hQ q (by simp)
   omega
  ·have:=pgo_len (L:=L+1) (fun x hx=>by
    rcases List.mem_append.1 hx with hx | hx
    ·have:=hQ x (List.mem_cons_of_mem _ hx)
     omega
    ·obtain ⟨k,_,rfl⟩:=List.mem_map.1 hx
     have:=hQ q (by simp)
     rw [List.length_append]
     simp
     omega) h
   omega
theorem rndP_len {l:List El} (hv:vldE l=0) {p:List Int} (h:roundP (fun k=>wayP (pAll l) k k k) mks=some p):p.length≤1003:=by
 have w:=wg_all hv
 rcases round_one h with h | ⟨a,ha,h⟩
 ·cases h
 have h1:=w.way (a:=a) (t:=a) (ab:=a)
 rw [h] at h1
 exact pgo_len (L:=1) (fun q hq=>by rw [List.mem_singleton] at hq;subst hq;exact Nat.le_refl _) h1.1
theorem rnd_step {l:List El} (hv:vldE l=0) {p:List Int} (h:roundP (fun k=>wayP (pAll l) k k k) mks=some p) {i:Nat} (hi:i<p.length):∃ x y z,p[i]?=some x∧p[(i+1) % p.length]?=some y∧p[0]?=some z∧(x,y)∈dirsOf l∧1≤x∧z≤x:=by
 have w:=wg_all hv
 have g:=pi_all (l:=l) (fun x hx p hp=>((vld_el hv hx).2 p hp).1)
 rcases round_one h with h | ⟨a,ha,h⟩
 ·cases h
 have h1:=w.way (a:=a) (t:=a) (ab:=a)
 rw [h] at h1
 obtain ⟨ok,hl⟩:=pgo_path h1.1 fun q hq=>by
  rw [List.mem_singleton] at hq
  subst hq
  exact ⟨rfl,fun k hk=>by rw [List.mem_singleton] at hk;omega,fun i x y _ hj=>by rw [List.getElem?_cons_succ] at hj;cases hj⟩
 have ham:=mem_mks.1 ha
 have hd:∀ x y,y∈gS (pAll l) x→(x,y)∈dirsOf l:=fun x y h=>(g.ls x y).1 (gS_mem.1 h)
 have hx:p[i]?=some p[i]:=List.getElem?_eq_getElem hi
 have hge:=ok.ge p[i] (List.getElem_mem _)
 by_cases hc:i+1<p.length
 ·rw [Nat.mod_eq_of_lt hc]
  exact ⟨p[i],p[i+1],a,hx,List.getElem?_eq_getElem hc,ok.hd,hd _ _ (ok.st i _ _ hx (List.getElem?_eq_getElem hc)),by omega,hge⟩
 ·rw [show i+1=p.length by omega,Nat.mod_self]
  have e:=lastM_get ok.ne
  rw [show p.length - 1=i by omega,hx,Option.some.injEq] at e
  exact ⟨p[i],a,a,hx,ok.hd,ok.hd,hd _ _ (by rw [e];exact hl),by omega,hge⟩
structure OrdOk (l:List El) (A:List Int):Prop where
 nd:A.Nodup
 mm:∀ m,m∈A ↔ m∈marksOf l
 lt:∀ (i j:Nat) (x y:Int),A[i]?=some x→A[j]?=some y→(x,y)∈dirsOf l→i<j
theorem order_ok {l:List El} (hv:vldE l=0) {A:List Int} (h:wgo (pAll l) (pAll l).length (keysOf (pAll l)) []=some A):OrdOk l A:=by
 have w:=wg_all hv
 have g:=pi_all (l:=l) (fun x hx p hp=>((vld_el hv hx).2 p hp).1)
 obtain ⟨B,e,h1,h2⟩:=wgo_spec w.nd h
 rw [List.nil_append] at e
 subst e
 exact ⟨h1.nodup_iff.2 w.nd,fun m=>by rw [h1.mem_iff,g.ks],fun i j x y hi hj hm=>h2 i j x y hi hj ((g.ls x y).2 hm)⟩
theorem OrdOk.ix {l:List El} {A:List Int} (o:OrdOk l A) {m:Int} (hm:m∈marksOf l):∃ i,A[i]?=some m∧ixF m A 0=(i:Nat):=by
 obtain ⟨i,hi⟩:=List.getElem?_of_mem ((o.mm m).2 hm)
 exact ⟨i,hi,by rw [ixF_get o.nd hi,Nat.zero_add]⟩
theorem OrdOk.up {l:List El} {A:List Int} (o:OrdOk l A) {x y:Int} (h:(x,y)∈dirsOf l):ixF x A 0<ixF y A 0:=by
 have hm:=dirs_mem h
 obtain ⟨i,h1,h2⟩:=o.ix hm.1
 obtain ⟨j,h3,h4⟩:=o.ix hm.2
 have:=o.lt i j x y h1 h3 h
 omega
theorem OrdOk.cnt {l:List El} {A:List Int} (hv:vldE l=0) (o:OrdOk l A):A.length+unsn (thF l)=1000:=by
 have hr:∀ m∈A,1≤m∧m≤999:=fun m hm=>marks_rng hv ((o.mm m).1 hm)
 have h1:(A.map Int.toNat).Perm ((List.range 1000).filter (thF l)):=by
  refine (List.perm_ext_iff_of_nodup ?_ (List.nodup_range.filter _)).2 fun k => ?_
  ·rw [List.nodup_iff_pairwise_ne,List.pairwise_map]
   refine o.nd.imp_of_mem fun {x y} hx hy hne he => ?_
   have:=hr x hx
   have:=hr y hy
   exact hne (by omega)
  ·rw [List.mem_filter,List.mem_range,List.mem_map]
   unfold thF
   rw [decide_eq_true_eq, ← o.mm]
   constructor
   ·rintro ⟨m,hm,rfl⟩
    have:=hr m hm
    exact ⟨by omega,by rw [Int.toNat_of_nonneg (by omega)];exact hm⟩
   ·rintro ⟨_,h⟩
    exact ⟨_,h,by simp⟩
 have h2:=h1.length_eq
 rw [List.length_map] at h2
 have h3:∀ (P:Nat→Bool) (L:List Nat),(L.filter P).length+(L.filter fun k => !P k).length=L.length:=by
  intro P L
  induction L with
  | nil=>rfl
  | cons x L ih =>
   rw [List.filter_cons,List.filter_cons,List.length_cons]
   cases P x <;> simp <;> omega
 have:=h3 (thF l) (List.range 1000)
 rw [List.length_range] at this
 unfold unsn
 omega
end Go.Dr.T
namespace Go.Dr.T
def WEnds (res:List RV) (A:List Int) (o:Bool) (x:X) (s:St):Prop :=
 (x = .nrm∨x = .ret)∧((A=[]∧result s res=some (.tup [.nilsl,.bool o,.int .i64 0]))∨(A≠[]∧∃ id,result s res=some (.tup [.ms 1 id A.length 0 A.length false,.bool o,.int .i64 0])∧bget s.h id=some (.blk (ofInts A) true)))
def w0 (A:List Int) (o:Bool):V:=.tup [if A=[] then .sl true 0 [] else .ms 1 0 A.length 0 A.length false,.bool o,.int .i64 0]
def wh0 (A:List Int):List B:=if A=[] then [] else [.blk (ofInts A) true]
theorem RL_ints {k k2:K}:∀ {l:List Int} {xs:List Value},RL k (ofInts l) xs→RL k2 (ofInts l) xs
 | [],xs,h=>by simp only [ofInts,List.map_nil,RL] at h ⊢; exact h
 | a :: l,xs,h=>by
  simp only [ofInts,List.map_cons,RL] at h ⊢
  obtain ⟨x,r,rfl,h1,h2⟩:=h
  refine ⟨x,r,rfl,?_,?_⟩
  ·simp only [R] at h1 ⊢; exact h1
  ·have:=RL_ints (k:=k) (k2:=k2) (l:=l) (xs:=r) (by simpa only [ofInts] using h2)
   simpa only [ofInts] using this
theorem ofI_drop (l:List Int) (n:Nat):(ofInts l).drop n=ofInts (l.drop n):=by simp [ofInts,List.map_drop]
theorem kn_blk {P:Program} {F:Nat→Option Fc} {md:Nat→Nat} (hF:TableOk P F) {f:Nat} {fn:Func} {fc:Fc} (hf:P.funcs[f]?=some fn) (hfc:cFunc P fn=some fc) {g:Nat→List V→List B→Option (V × List B)}
  (hg:∀ ro as h v h', g ro as h=some (v,h')→h=[]∧∃ A o,v=w0 A o∧h' = wh0 A∧wpm F md 0 fc.body ⟨as++deads (fc.ntm - fc.np),[]⟩ (WEnds fc.res A o)):KnOk P f fc.np g:=by
 intro ro k as xs v h' gk ha hlen hgk Q hQ
 obtain ⟨hh,A,o,rfl,rfl,hw⟩:=hg ro as k.h v h' hgk
 have hl0:k.h.length=0:=by rw [hh];rfl
 refine call_wpm (ro:=0) hF hf hfc gk ha hlen (Q:=WEnds fc.res A o) (by rw [hh];exact hw) ?_
 rintro x s ⟨h1,h2⟩
 rcases h2 with ⟨hA,h2⟩ | ⟨hA,id,h2,h3⟩
 ·refine ⟨h1,_,h2,fun y k1 hk1 g1 e1 hy => ?_⟩
  have hv:V.view k1.h depth (.tup [.nilsl,.bool o,.int .i64 0])=some (.tup [.sl true 0 [],.bool o,.int .i64 0]):=rfl
  obtain ⟨q1,q2,q3⟩:=back_none gk hh g1 e1 hv hy
  have:=hQ y { k with w:=k1.w } (by rw [wh0,if_pos hA];exact hh) q1 (q2 ro) (by rw [w0,if_pos hA];exact q3)
  exact this
 ·refine ⟨h1,_,h2,fun y k1 hk1 g1 e1 hy => ?_⟩
  have hb:bget k1.h id=some (.blk (ofInts A) true):=by rw [hk1];exact h3
  obtain ⟨b1,b2,b3,b4,ys,rest,T,b5,b6⟩:=g1.blk id _ _ hb
  let k2:K:={ n0:=k1.n0,A:=k1.A,h:=[.blk (ofInts A) true],β:=fun _=>k1.β id,w:=k1.w }
  have hg0:∀ i b,bget k2.h i=some b→i=0∧b = .blk (ofInts A) true:=fun i b h=>by
   cases i with
   | zero=>exact ⟨rfl,(Option.some.inj h).symm⟩
   | succ i=>cases h
  have hlv:∀ i,live k2.h i→i=0:=fun i ⟨b,hb,_⟩=>(hg0 i b hb).1
  have g2:Good P k2:=by
   refine ⟨g1.size,fun i c dat h => ?_,fun i r p tm ps a b h => ?_,fun i j hi hj _ => ?_,fun i b h ho => ?_⟩
   ·obtain ⟨_,e⟩:=hg0 i _ h
    cases e
    refine ⟨b1,b2,b3,b4,ys,rest,T,b5,?_⟩
    rw [ofI_drop] at b6 ⊢
    exact RL_ints b6
   ·cases (hg0 i _ h).2
   ·rw [hlv i hi,hlv j hj]
   ·obtain ⟨_,e⟩:=hg0 i _ h
    subst e
    cases ho
  have hok:∀ b,k1.ok b→k2.ok b:=fun b hb0=>by
   rcases hb0 with h | ⟨h,hn⟩
   ·exact .inl h
   ·refine .inr ⟨h,fun ⟨i,hi,he⟩=>hn ⟨id,live_blk hb,he⟩⟩
  have e2:Ev ro k.h.length k k2:=by
   refine ⟨e1.n0,e1.A,e1.low,fun b hb0 hlt => ?_,fun i hi => ?_,fun i hi => ?_,fun i _ hi => ?_,fun i _ hi => ?_,fun i hi => ?_⟩
   ·have:=e1.prot b hb0 hlt
    exact ⟨hok b this.1,this.2⟩
   all_goals (rw [hl0] at hi;exact absurd hi (Nat.not_lt_zero i))
  have hr:R k2 (w0 A o) y:=by
   rw [w0,if_neg hA]
   simp only [R,RL] at hy ⊢
   obtain ⟨vs,rfl,x1,r1,rfl,hm,x2,r2,rfl,hx2,hx3⟩:=hy
   refine ⟨_,rfl,x1,_,rfl,?_,x2,r2,rfl,hx2,hx3⟩
   obtain ⟨b,o', cap,c,dat,rfl,c1,c2,c3,c4,c5⟩:=hm
   rw [hb] at c1
   cases c1
   exact ⟨b,o', cap,ofInts A,true,rfl,rfl,c2,c3,c4,c5⟩
  have:=hQ y k2 (by rw [wh0,if_neg hA]) g2 e2 hr
  exact this
end Go.Dr.T
