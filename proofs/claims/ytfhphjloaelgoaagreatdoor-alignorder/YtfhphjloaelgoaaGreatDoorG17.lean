/- Chapter 06: the order and the round that is named: plain. -/
import Derived.Test.YtfhphjloaelgoaaGreatDoorG10
import Derived.Test.YtfhphjloaelgoaaGreatDoorG16
import Derived.Test.YtfhphjloaelgoaaGreatDoorG2
import Derived.Test.YtfhphjloaelgoaaGreatDoorDrE
import Derived.Test.YtfhphjloaelgoaaGreatDoorG9
namespace Go.Dr.T
def ixF (m:Int):List Int→Nat→Int
 | [],_ => -1
 | x :: l,k=>if x=m then (k:Int) else ixF m l (k+1)
theorem ixF_no {m:Int}:∀ {l:List Int} {k:Nat},m ∉ l→ixF m l k = -1
 | [],_,_=>rfl
 | x :: l,k,h=>by
  rw [ixF,if_neg (fun e=>h (by rw [e];simp)),ixF_no (fun e=>h (List.mem_cons_of_mem _ e))]
theorem ixF_get {m:Int}:∀ {l:List Int} {i k:Nat},l.Nodup→l[i]?=some m→ixF m l k=((k+i:Nat):Int)
 | [],i,k,_,h=>by cases h
 | x :: l,0,k,_,h=>by
  rw [List.getElem?_cons_zero,Option.some.injEq] at h
  rw [ixF,if_pos h]
  rfl
 | x :: l,i+1,k,nd,h=>by
  rw [List.getElem?_cons_succ] at h
  rw [List.nodup_cons] at nd
  rw [ixF,if_neg (fun e=>nd.1 (by rw [e];exact List.mem_of_getElem? h)),ixF_get nd.2 h]
  omega
theorem wgo_spec {D:List PE}:∀ {n:Nat} {R all A:List Int},R.Nodup→wgo D n R all=some A→∃ B,A=all++B∧B.Perm R∧∀ (i j:Nat) (x y:Int),B[i]?=some x→B[j]?=some y→y∈pM D x→i<j
 | 0,R,all,A,nd,h=>by
  rw [wgo] at h
  split at h
  ·rename_i e
   subst e
   rw [Option.some.injEq] at h
   exact ⟨[],by rw [List.append_nil];exact h.symm,List.Perm.refl _,fun i j x y h=>by cases h⟩
  ·cases h
 | n+1,R,all,A,nd,h=>by
  rw [wgo] at h
  split at h
  ·rename_i e
   subst e
   rw [Option.some.injEq] at h
   exact ⟨[],by rw [List.append_nil];exact h.symm,List.Perm.refl _,fun i j x y h=>by cases h⟩
  ·split at h
   ·cases h
   ·rename_i k hk
    have hf:=List.find?_some hk
    unfold freeB hasB at hf
    rw [Bool.and_eq_true,decide_eq_true_eq,List.all_eq_true] at hf
    obtain ⟨B,h1,h2,h3⟩:=wgo_spec (nd.erase k) h
    have hp:(k :: B).Perm R:=(List.Perm.cons k h2).trans (List.perm_cons_erase hf.1).symm
    refine ⟨k :: B,by rw [h1];simp,hp,fun i j x y hi hj hxy => ?_⟩
    cases j with
    | zero =>
     exfalso
     rw [List.getElem?_cons_zero,Option.some.injEq] at hj
     subst hj
     have:=hf.2 x (hp.mem_iff.1 (List.mem_of_getElem? hi))
     rw [Bool.not_eq_true', decide_eq_false_iff_not] at this
     exact this hxy
    | succ j =>
     cases i with
     | zero=>omega
     | succ i =>
      rw [List.getElem?_cons_succ] at hi hj
      have:=h3 i j x y hi hj hxy
      omega
structure PthOk (g:Int→List Int) (a:Int) (q:List Int):Prop where
 hd:q[0]?=some a
 ge:∀ k∈q,a≤k
 st:∀ (i:Nat) (x y:Int),q[i]?=some x→q[i+1]?=some y→y∈g x
theorem lastM_get:∀ {l:List Int},l≠[]→l[l.length - 1]?=some (lastM l)
 | [a],_=>rfl
 | a :: b :: l,_=>by
  have:=lastM_get (l:=b :: l) (by simp)
  simpa [lastM] using this
theorem PthOk.ne {g:Int→List Int} {a:Int} {q:List Int} (h:PthOk g a q):q≠[]:=fun e=>by have:=h.hd;rw [e] at this;cases this
theorem PthOk.snoc {g:Int→List Int} {a k:Int} {q:List Int} (h:PthOk g a q) (h1:k∈g (lastM q)) (h2:a≤k):PthOk g a (q++[k]):=by
 have hl:=List.length_pos_iff.2 h.ne
 refine ⟨by rw [List.getElem?_append_left hl];exact h.hd,fun x hx => ?_,fun i x y hi hj => ?_⟩
 ·rcases List.mem_append.1 hx with hx | hx
  ·exact h.ge x hx
  ·rw [List.mem_singleton] at hx;rw [hx];exact h2
 ·by_cases hc:i+1<q.length
  ·rw [List.getElem?_append_left (by omega)] at hi
   rw [List.getElem?_append_left hc] at hj
   exact h.st i x y hi hj
  ·have hlt:=(List.getElem?_eq_some_iff.1 hj).1
   rw [List.length_append] at hlt
   simp only [List.length_singleton] at hlt
   have e:i=q.length - 1:=by omega
   rw [List.getElem?_append_left (by omega),e,lastM_get h.ne,Option.some.injEq] at hi
   rw [List.getElem?_append_right (by omega),show i+1 - q.length=0 by omega,List.getElem?_cons_zero,Option.some.injEq] at hj
   subst hi hj
   exact h1
theorem pgo_path {g:Int→List Int} {a:Int}:∀ {n:Nat} {Q:List (List Int)} {sn:List Int} {p:List Int},pgo g a a a n Q sn=some (some p)→(∀ q∈Q,PthOk g a q)→PthOk g a p∧a∈g (lastM p)
 | 0,Q,sn,p,h,_=>by rw [pgo] at h;cases h
 | n+1,[],sn,p,h,_=>by rw [pgo] at h;cases h
 | n+1,q :: Q,sn,p,h,hQ=>by
  have hq:=hQ q (by simp)
  rw [pgo] at h
  split at h
  ·rename_i hm
   cases h
   exact ⟨hq,hm⟩
  ·refine pgo_path h fun x hx => ?_
   rcases List.mem_append.1 hx with hx | hx
   ·exact hQ x (List.mem_cons_of_mem _ hx)
   ·obtain ⟨k,hk,rfl⟩:=List.mem_map.1 hx
    unfold fresh at hk
    obtain ⟨h1,h2⟩:=List.mem_filter.1 hk
    rw [decide_eq_true_eq] at h2
    exact hq.snoc h1 (by omega)
theorem round_one {w:Int→Option (List Int)}:∀ {S:List Int} {b:Option (List Int)} {p:List Int},S.foldl (rStep w) b=some p→b=some p∨∃ k∈S,w k=some p
 | [],b,p,h=>.inl h
 | k :: S,b,p,h=>by
  rw [List.foldl_cons] at h
  rcases round_one h with h | ⟨j,hj,h⟩
  ·unfold rStep at h
   split at h
   ·exact .inl h
   ·rename_i y hy
    split at h
    ·cases h;exact .inr ⟨k,by simp,hy⟩
    ·split at h
     ·cases h;exact .inr ⟨k,by simp,hy⟩
     ·rename_i x _
      exact .inl h
  ·exact .inr ⟨j,List.mem_cons_of_mem _ hj,h⟩
theorem pgo_len {g:Int→List Int} {a:Int}:∀ {n L:Nat} {Q:List (List Int)} {sn:List Int} {p:List Int},(∀ p∈Q,p.length≤L)→pgo g a a a n Q sn=some (some p)→p.length≤L+n
 | 0,L,Q,sn,p,_,h=>by rw [pgo] at h;cases h
 | n+1,L,[],sn,p,_,h=>by rw [pgo] at h;cases h
 | n+1,L,q :: Q,sn,p,hQ,h=>by
  rw [pgo] at h
  split at h
  ·cases h
   have:=hQ q (by simp)
   omega
  ·have:=pgo_len (L:=L+1) (fun x hx=>by
    rcases List.mem_append.1 hx with hx | hx
    ·have:=hQ x (List.mem_cons_of_mem _ hx)
     omega
    ·obtain ⟨k,_,rfl⟩:=List.mem_map.1 hx
     have:=hQ q (by simp)
     rw [List.length_append]
     simp
     omega) h
   omega
theorem rndP_len {l:List El} (hv:vldE l=0) {p:List Int} (h:roundP (fun k=>wayP (pAll l) k k k) mks=some p):p.length≤1003:=by
 have w:=wg_all hv
 rcases round_one h with h | ⟨a,ha,h⟩
 ·cases h
 have h1:=w.way (a:=a) (t:=a) (ab:=a)
 rw [h] at h1
 exact pgo_len (L:=1) (fun q hq=>by rw [List.mem_singleton] at hq;subst hq;exact Nat.le_refl _) h1.1
theorem rnd_step {l:List El} (hv:vldE l=0) {p:List Int} (h:roundP (fun k=>wayP (pAll l) k k k) mks=some p) {i:Nat} (hi:i<p.length):∃ x y z,p[i]?=some x∧p[(i+1) % p.length]?=some y∧p[0]?=some z∧(x,y)∈dirsOf l∧1≤x∧z≤x:=by
 have w:=wg_all hv
 have g:=pi_all (l:=l) (fun x hx p hp=>((vld_el hv hx).2 p hp).1)
 rcases round_one h with h | ⟨a,ha,h⟩
 ·cases h
 have h1:=w.way (a:=a) (t:=a) (ab:=a)
 rw [h] at h1
 obtain ⟨ok,hl⟩:=pgo_path h1.1 fun q hq=>by
  rw [List.mem_singleton] at hq
  subst hq
  exact ⟨rfl,fun k hk=>by rw [List.mem_singleton] at hk;omega,fun i x y _ hj=>by rw [List.getElem?_cons_succ] at hj;cases hj⟩
 have ham:=mem_mks.1 ha
 have hd:∀ x y,y∈gS (pAll l) x→(x,y)∈dirsOf l:=fun x y h=>(g.ls x y).1 (gS_mem.1 h)
 have hx:p[i]?=some p[i]:=List.getElem?_eq_getElem hi
 have hge:=ok.ge p[i] (List.getElem_mem _)
 by_cases hc:i+1<p.length
 ·rw [Nat.mod_eq_of_lt hc]
  exact ⟨p[i],p[i+1],a,hx,List.getElem?_eq_getElem hc,ok.hd,hd _ _ (ok.st i _ _ hx (List.getElem?_eq_getElem hc)),by omega,hge⟩
 ·rw [show i+1=p.length by omega,Nat.mod_self]
  have e:=lastM_get ok.ne
  rw [show p.length - 1=i by omega,hx,Option.some.injEq] at e
  exact ⟨p[i],a,a,hx,ok.hd,ok.hd,hd _ _ (by rw [e];exact hl),by omega,hge⟩
structure OrdOk (l:List El) (A:List Int):Prop where
 nd:A.Nodup
 mm:∀ m,m∈A ↔ m∈marksOf l
 lt:∀ (i j:Nat) (x y:Int),A[i]?=some x→A[j]?=some y→(x,y)∈dirsOf l→i<j
theorem order_ok {l:List El} (hv:vldE l=0) {A:List Int} (h:wgo (pAll l) (pAll l).length (keysOf (pAll l)) []=some A):OrdOk l A:=by
 have w:=wg_all hv
 have g:=pi_all (l:=l) (fun x hx p hp=>((vld_el hv hx).2 p hp).1)
 obtain ⟨B,e,h1,h2⟩:=wgo_spec w.nd h
 rw [List.nil_append] at e
 subst e
 exact ⟨h1.nodup_iff.2 w.nd,fun m=>by rw [h1.mem_iff,g.ks],fun i j x y hi hj hm=>h2 i j x y hi hj ((g.ls x y).2 hm)⟩
theorem OrdOk.ix {l:List El} {A:List Int} (o:OrdOk l A) {m:Int} (hm:m∈marksOf l):∃ i,A[i]?=some m∧ixF m A 0=(i:Nat):=by
 obtain ⟨i,hi⟩:=List.getElem?_of_mem ((o.mm m).2 hm)
 exact ⟨i,hi,by rw [ixF_get o.nd hi,Nat.zero_add]⟩
theorem OrdOk.up {l:List El} {A:List Int} (o:OrdOk l A) {x y:Int} (h:(x,y)∈dirsOf l):ixF x A 0<ixF y A 0:=by
 have hm:=dirs_mem h
 obtain ⟨i,h1,h2⟩:=o.ix hm.1
 obtain ⟨j,h3,h4⟩:=o.ix hm.2
 have:=o.lt i j x y h1 h3 h
 omega
theorem OrdOk.cnt {l:List El} {A:List Int} (hv:vldE l=0) (o:OrdOk l A):A.length+unsn (thF l)=1000:=by
 have hr:∀ m∈A,1≤m∧m≤999:=fun m hm=>marks_rng hv ((o.mm m).1 hm)
 have h1:(A.map Int.toNat).Perm ((List.range 1000).filter (thF l)):=by
  refine (List.perm_ext_iff_of_nodup ?_ (List.nodup_range.filter _)).2 fun k => ?_
  ·rw [List.nodup_iff_pairwise_ne,List.pairwise_map]
   refine o.nd.imp_of_mem fun {x y} hx hy hne he => ?_
   have:=hr x hx
   have:=hr y hy
   exact hne (by omega)
  ·rw [List.mem_filter,List.mem_range,List.mem_map]
   unfold thF
   rw [decide_eq_true_eq, ← o.mm]
   constructor
   ·rintro ⟨m,hm,rfl⟩
    have:=hr m hm
    exact ⟨by omega,by rw [Int.toNat_of_nonneg (by omega)];exact hm⟩
   ·rintro ⟨_,h⟩
    exact ⟨_,h,by simp⟩
 have h2:=h1.length_eq
 rw [List.length_map] at h2
 have h3:∀ (P:Nat→Bool) (L:List Nat),(L.filter P).length+(L.filter fun k => !P k).length=L.length:=by
  intro P L
  induction L with
  | nil=>rfl
  | cons x L ih =>
   rw [List.filter_cons,List.filter_cons,List.length_cons]
   cases P x <;> simp <;> omega
 have:=h3 (thF l) (List.range 1000)
 rw [List.length_range] at this
 unfold unsn
 omega
end Go.Dr.T
namespace Go.Dr.T
theorem hasInt {l:List V} (h:(Ty.int .i64).has l):∃ n:Int,l=[.int .i64 n]:=by
 simp only [Ty.has] at h
 obtain ⟨n,rfl,h1,h2⟩:=h
 exact ⟨n,rfl⟩
theorem hasStr {l:List V} (h:Ty.str.has l):∃ s,l=[.str s]:=by
 simpa only [Ty.has] using h
theorem int_val {v:V} (h:(Ty.int .i64).val v):∃ n,v = .int .i64 n:=by
 obtain ⟨n,e⟩:=hasInt (l:=[v]) h
 simp only [List.cons.injEq,and_true] at e
 exact ⟨n,e⟩
theorem two_has {x:List V} (h:(Ty.agg [.int .i64,.int .i64]).has x):∃ a b:Int,x=[.int .i64 a,.int .i64 b]:=by
 simp only [Ty.has,Ty.hasAll] at h
 obtain ⟨a,b,rfl,⟨n,rfl,_⟩,c,d,rfl,⟨m,rfl,_⟩,rfl⟩:=h
 exact ⟨n,m,rfl⟩
theorem pairs_cells:∀ {xs:List (List V)},(∀ x∈xs,x.length=2∧(Ty.agg [.int .i64,.int .i64]).has x)→∃ l:List (Int × Int),xs.flatten=shC l∧xs.length=l.length
 | [],_=>⟨[],rfl,rfl⟩
 | x :: xs,h=>by
  obtain ⟨l,h1,h2⟩:=pairs_cells (xs:=xs) fun y hy=>h y (by simp [hy])
  obtain ⟨_,hx⟩:=h x (by simp)
  obtain ⟨a,b,rfl⟩:=two_has hx
  exact ⟨(a,b) :: l,by simp only [List.flatten_cons,h1];rfl,by simp [h2]⟩
abbrev TyP:Ty:=.slice 2 (.agg [.int .i64,.int .i64])
theorem pairs_has {v:List V} (h:TyP.has v):∃ l:List (Int × Int),v=[.sl false l.length (shC l)]:=by
 rw [TyP,Ty.has] at h
 obtain ⟨xs,rfl,hx⟩:=h
 obtain ⟨l,h1,h2⟩:=pairs_cells (xs:=xs) hx
 exact ⟨l,by rw [h1,h2]⟩
theorem pairs_val {v:V} (h:TyP.val v):∃ l:List (Int × Int),v = .sl false l.length (shC l):=by
 obtain ⟨l,e⟩:=pairs_has (v:=[v]) h
 simp only [List.cons.injEq,and_true] at e
 exact ⟨l,e⟩
abbrev TyEl:Ty:=.agg [.str,TyP,.int .i64]
def elA (x:El):V:=.agg x.v
theorem el_all {l:List V} (h:Ty.hasAll [.str,TyP,.int .i64] l):∃ x:El,l=x.v:=by
 simp only [Ty.hasAll] at h
 obtain ⟨a,b,rfl,ha,c,d,rfl,hc,e,f,rfl,he,rfl⟩:=h
 obtain ⟨s,rfl⟩:=hasStr ha
 obtain ⟨l,rfl⟩:=pairs_has hc
 obtain ⟨n,rfl⟩:=hasInt he
 exact ⟨⟨s,false,l,n⟩,rfl⟩
theorem el_val {v:V} (h:TyEl.val v):∃ x:El,v=elA x:=by
 simp only [Ty.val] at h
 obtain ⟨l,rfl,h⟩:=h
 obtain ⟨x,rfl⟩:=el_all h
 exact ⟨x,rfl⟩
theorem els_cells:∀ {xs:List (List V)},(∀ x∈xs,x.length=3∧TyEl.has x)→∃ l:List El,xs.flatten=elC l∧xs.length=l.length
 | [],_=>⟨[],rfl,rfl⟩
 | x :: xs,h=>by
  obtain ⟨l,h1,h2⟩:=els_cells (xs:=xs) fun y hy=>h y (by simp [hy])
  obtain ⟨_,hx⟩:=h x (by simp)
  obtain ⟨y,rfl⟩:=el_all (by simpa only [Ty.has] using hx)
  exact ⟨y :: l,by simp only [List.flatten_cons,h1];rfl,by simp [h2]⟩
abbrev TyEls:Ty:=.slice 3 TyEl
theorem els_val {v:V} (h:TyEls.val v):∃ l:List El,v=elsV false l:=by
 rw [TyEls] at h
 simp only [Ty.val] at h
 rw [Ty.has] at h
 obtain ⟨xs,e,hx⟩:=h
 simp only [List.cons.injEq,and_true] at e
 subst e
 obtain ⟨l,h1,h2⟩:=els_cells (xs:=xs) hx
 exact ⟨l,by rw [h1,h2]⟩
theorem two_val {v:V} (h:(Ty.agg [TyEl,TyEl]).val v):∃ x y:El,v = .agg (x.v++y.v):=by
 simp only [Ty.val,Ty.hasAll] at h
 obtain ⟨l,rfl,a,b,rfl,ha,c,d,rfl,hc,rfl⟩:=h
 obtain ⟨x,rfl⟩:=el_all (by simpa only [Ty.has] using ha)
 obtain ⟨y,rfl⟩:=el_all (by simpa only [Ty.has] using hc)
 exact ⟨x,y,by rw [List.append_nil]⟩
end Go.Dr.T
namespace Go.Dr.T
def elN:El:=⟨[110,101,103],true,[(1,100),(2,50),(3,80),(4,60)],0⟩
def elP:El:=⟨[112,114,105,110,116,45,98],true,[(1,96),(3,80),(0,58),(5,40)],2⟩
def elQ:El:=⟨[99,117,116],true,[(2,48),(5,44),(4,60)],1⟩
def elU:El:=⟨[117],true,[(0,60)],0⟩
def el3:List El:=[elN,elP,elQ]
def D3:List PE:=pAll el3
theorem vld3:vldE el3=0:=by decide +kernel
theorem keys3:keysOf (pAll el3)=[1,2,3,4,5]:=by decide +kernel
theorem len3:(pAll el3).length=5:=by decide +kernel
theorem way3 {a t ab:Int} {r:Option (List Int)} (h:wayGo (pAll el3) a t ab 1002 0 []=some r):Fun FB1 md 69 [gatV (pAll el3),.int .i64 a,.int .i64 t,.int .i64 ab] (wayV (wayP (pAll el3) a t ab)):=by
 have e:wayP (pAll el3) a t ab=r:=by unfold wayP;rw [h];rfl
 rw [e]
 exact way_fun (by rw [len3];decide) (by decide +kernel) (by decide +kernel) (by rw [show (pAll el3).map (·.k)=[1,2,3,4,5] from keys3];decide) h
theorem wayGo_ne {D:List PE} {a t ab:Int}:∀ {n p:Nat} {bf:List (Int × Int)},wayGo D a t ab n p bf≠some (some [])
 | 0,_,_=>by unfold wayGo;simp
 | n+1,p,bf=>by
  unfold wayGo
  split
  ·simp
  ·split
   ·intro h
    obtain ⟨cs,_,h2⟩:=map_some h
    simp at h2
   ·exact wayGo_ne
theorem wayP_ne {D:List PE} {a t ab:Int}:wayP D a t ab≠some []:=by
 unfold wayP
 intro h
 cases hg:wayGo D a t ab 1002 0 [] with
 | none=>rw [hg] at h;cases h
 | some r=>rw [hg] at h;exact wayGo_ne (hg.trans (congrArg some h))
theorem whole3 {c:Bool}:WholeOk c el3:=by
 refine whole_all (A:=[1,2,3,5,4]) vld3 (by rw [len3];decide) (by decide +kernel) (by rw [keys3];decide) (fun k hk => ?_) (fun k=>wayP_ne) (by decide +kernel) (by decide +kernel) (fun i h0 hi => ?_)
 ·rw [keys3] at hk
  simp only [List.mem_cons,List.not_mem_nil,or_false] at hk
  rcases hk with rfl | rfl | rfl | rfl | rfl <;> exact way3 (r:=none) (by decide +kernel)
 ·simp only [List.length_cons,List.length_nil] at hi
  obtain rfl | rfl | rfl | rfl:i=1∨i=2∨i=3∨i=4:=by omega
  ·exact way3 (r:=some [1]) (by decide +kernel)
  ·exact way3 (r:=some [2]) (by decide +kernel)
  ·exact way3 (r:=some [3]) (by decide +kernel)
  ·exact way3 (r:=some [5]) (by decide +kernel)
theorem whole3_v:wholeV el3 = .tup [.sl false 5 (ofInts [1,2,3,5,4]),.bool true,.int .i64 0]:=veq_eq (by decide +kernel)
theorem whole3_doc:Fun FB2 md 33 [elsV false el3] (wholeV el3):=whole_fun whole3 (by rw [whole3_v];intro h;cases h)
theorem gather3_doc:Fun FB2 md 65 [elsV false el3] (gatherV el3):=(gather_fun gatherV_view).tab sub2
end Go.Dr.T
namespace Go.Dr.T
def kwn (l:List V) (v:V) (as:List V):Option V:=match veqs as l with
 | true=>some v
 | false=>none
theorem kwn_eq {l:List V} {v w:V} {as:List V} (h:kwn l v as=some w):as=l∧w=v:=by
 unfold kwn at h
 split at h <;> cases h
 rename_i e
 exact ⟨veqs_eq e,rfl⟩
noncomputable def S1 (n:Nat):Option (List V→Option V) :=
 match n with
 | 33=>some (kwn [elsV false el3] (wholeV el3))
 | 65=>some (kwn [elsV false el3] (gatherV el3))
 | _=>none
theorem known1:Known FB2 md S1:=by
 intro fn g hg as v h
 unfold S1 at hg
 split at hg
 ·cases hg
  obtain ⟨rfl,rfl⟩:=kwn_eq h
  exact whole3_doc
 ·cases hg
  obtain ⟨rfl,rfl⟩:=kwn_eq h
  exact gather3_doc
 ·cases hg
theorem best_doc:Fun FB2 md 21 [elA elN,elA elP,.int .i64 10] (.tup [.int .i64 205,.int .i64 1,.int .i64 0]):=fun_is known1 (n:=300) (by decide +kernel)
theorem judge_doc:Fun FB2 md 26 [elA elN,elA elP,.int .i64 10,.sl true 1 (ofInts [1,1])] (.tup [.int .i64 0,.int .i64 160]):=fun_is known1 (n:=300) (by decide +kernel)
def allR:V:=.tup [.sl false 1 [.sl false 1 (ofInts [2,0])],.int .i64 0]
theorem all_doc:Fun FB2 md 23 [elA elN,elA elU,.int .i64 20,.int .i64 1] allR:=fun_is known1 (n:=400) (by decide +kernel)
def verR:V:=.tup [.sl false 5 (ofInts [1,0,0,2,0,1,3,0,2,5,2,1,4,0,3]),.int .i64 334,.int .i64 0]
theorem ver_doc:Fun FB2 md 42 [elsV false el3,.sl true 5 (ofInts [1,2,3,5,4])] verR:=fun_is known1 (n:=300) (by decide +kernel)
noncomputable def S2 (n:Nat):Option (List V→Option V) :=
 match n with
 | 21=>some (kwn [elA elN,elA elP,.int .i64 10] (.tup [.int .i64 205,.int .i64 1,.int .i64 0]))
 | 26=>some (kwn [elA elN,elA elP,.int .i64 10,.sl true 1 (ofInts [1,1])] (.tup [.int .i64 0,.int .i64 160]))
 | 23=>some (kwn [elA elN,elA elU,.int .i64 20,.int .i64 1] allR)
 | 42=>some (kwn [elsV false el3,.sl true 5 (ofInts [1,2,3,5,4])] verR)
 | n=>S1 n
theorem known2:Known FB2 md S2:=by
 intro fn g hg as v h
 unfold S2 at hg
 split at hg
 ·cases hg
  obtain ⟨rfl,rfl⟩:=kwn_eq h
  exact best_doc
 ·cases hg
  obtain ⟨rfl,rfl⟩:=kwn_eq h
  exact judge_doc
 ·cases hg
  obtain ⟨rfl,rfl⟩:=kwn_eq h
  exact all_doc
 ·cases hg
  obtain ⟨rfl,rfl⟩:=kwn_eq h
  exact ver_doc
 ·exact known1 _ _ hg as v h
theorem awake:Fun FB2 md 20 [] (.bool true):=fun_is known2 (n:=300) (by decide +kernel)
end Go.Dr.T
