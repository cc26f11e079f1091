/- Chapter 06: the elements exchanged: the worth and the count are the same. Plain. -/
import Derived.Test.YtcjhgcjmomildaaGreatDoorG7
namespace Go.Dr.T
theorem shr_symm {s:Int} {x y:Int × Int}:shr s x y=shr s y x:=by
 obtain ⟨m,n⟩:=x
 obtain ⟨m', n'⟩:=y
 rw [shr_case,shr_case,Int.min_comm n' n,Int.max_comm n' n]
 by_cases h:s<max n n' - min n n'
 ·rw [if_pos h,if_pos h]
 ·rw [if_neg h,if_neg h]
  by_cases h2:m=0∨m' = 0
  ·rw [if_pos h2,if_pos (by omega)]
  ·rw [if_neg h2,if_neg (show ¬ (m' = 0∨m=0) by omega)]
   by_cases h3:m=m'
   ·rw [if_neg (show ¬ (m≠m') by omega),if_neg (show ¬ (m' ≠ m) by omega)]
   ·rw [if_pos h3,if_pos (show m' ≠ m by omega)]
theorem shA_symm {a b:List (Int × Int)} {s:Int} {i j:Nat}:shA a b s i j=shA b a s j i:=shr_symm
theorem wN_symm {a b:List (Int × Int)} {s bi bj:Int}:∀ k l,wN a b s bi bj k l=wN b a s bj bi l k:=by
 intro k
 induction k with
 | zero=>intro l;rw [wN_0,wN_1]
 | succ k ihk =>
  intro l
  induction l with
  | zero=>rw [wN_1,wN_0]
  | succ l ihl =>
   rw [wN_S,wN_S,ihk (l+1),ihk l,ihl,shA_symm]
   dsimp only
   by_cases h:0<shA b a s (b.length - (l+1)) (a.length - (k+1))∧¬ (bi=((a.length - (k+1):Nat):Int)∧bj=((b.length - (l+1):Nat):Int))
   ·rw [if_pos h,if_pos ⟨h.1,fun q=>h.2 ⟨q.2,q.1⟩⟩];omega
   ·rw [if_neg h,if_neg (fun q=>h ⟨q.1,fun r=>q.2 ⟨r.2,r.1⟩⟩)];omega
theorem wT_symm {a b:List (Int × Int)} {s bi bj:Int} {i j:Nat}:wT a b s bi bj i j=wT b a s bj bi j i:=wN_symm _ _
theorem wN_away {a b:List (Int × Int)} {s bi bj:Int} (h:bi<0∨bj<0):∀ k l,wN a b s bi bj k l=wN a b s (-1) 0 k l:=by
 intro k
 induction k with
 | zero=>intro l;rfl
 | succ k ihk =>
  intro l
  induction l with
  | zero=>rfl
  | succ l ihl =>
   rw [wN_S,wN_S,ihk,ihk,ihl]
   dsimp only
   by_cases h2:0<shA a b s (a.length - (k+1)) (b.length - (l+1))
   ·rw [if_pos ⟨h2,by omega⟩,if_pos ⟨h2,by omega⟩]
   ·rw [if_neg (fun q=>h2 q.1),if_neg (fun q=>h2 q.1)]
theorem openT_symm {x y:El} {s:Int} {i j:Nat}:openT x y s i j=openT y x s j i:=by
 rw [openT_eq,openT_eq,wT_symm]
 exact wN_away (.inr (by decide)) _ _
def sm:Nat→(Nat→Int)→Int
 | 0,_=>0
 | n+1,f=>sm n f+f n
theorem sm_zero:∀ n,sm n (fun _=>0)=0
 | 0=>rfl
 | n+1=>by simp only [sm,sm_zero n];rfl
theorem sm_add {f g:Nat→Int}:∀ n,sm n (fun k=>f k+g k)=sm n f+sm n g
 | 0=>rfl
 | n+1=>by simp only [sm,sm_add n];omega
theorem sm_comm {g:Nat→Nat→Int}:∀ n m,sm n (fun a=>sm m (fun b=>g a b))=sm m (fun b=>sm n (fun a=>g a b))
 | 0,m=>(sm_zero m).symm
 | n+1,m=>by
  simp only [sm]
  rw [sm_comm n m, ← sm_add]
theorem sm_congr {f g:Nat→Int}:∀ {n},(∀ k,k<n→f k=g k)→sm n f=sm n g
 | 0,_=>rfl
 | n+1,h=>by simp only [sm,sm_congr (n:=n) fun k hk=>h k (by omega),h n (by omega)]
def sl:List (Nat × Nat)→(Nat × Nat→Int)→Int
 | [],_=>0
 | p :: l,f=>f p+sl l f
theorem sl_append {f:Nat × Nat→Int}:∀ {l k:List (Nat × Nat)},sl (l++k) f=sl l f+sl k f
 | [],k=>by simp [sl]
 | p :: l,k=>by simp only [List.cons_append,sl,sl_append (l:=l)];omega
theorem sl_pos {f:Nat × Nat→Int} (h:∀ p,0≤f p):∀ l,0≤sl l f
 | []=>Int.le_refl _
 | p :: l=>by have:=h p;have:=sl_pos h l;simp only [sl];omega
theorem fold_sum {f:Nat × Nat→Int} (h:∀ p,0≤f p):∀ {l:List (Nat × Nat)} {c:Int},0≤c→c≤1000000→l.foldl (fun c p=>min 1000000 (c+f p)) c=min 1000000 (c+sl l f)
 | [],c,_,hc=>by simp only [List.foldl_nil,sl];omega
 | p :: l,c,h0,hc=>by
  have h1:=h p
  have h2:=sl_pos h l
  simp only [List.foldl_cons,sl]
  rw [fold_sum h (by omega) (by omega)]
  omega
theorem sl_bgR {S W:Nat→Nat→Int} {m k:Nat} {v:Int} {f:Nat × Nat→Int}:∀ (d l:Nat),l+d=m→sl (bgR S W m v l k) f=sm d (fun e=>if 0<S k (l+e)∧S k (l+e)+W (k+1) (l+e+1)=v then f (k,l+e) else 0):=by
 have sh:∀ (d:Nat) (g:Nat→Int),sm (d+1) g=g 0+sm d (fun e=>g (e+1)):=by
  intro d
  induction d with
  | zero=>intro g;simp only [sm];omega
  | succ d ih=>intro g;rw [sm,ih];simp only [sm];omega
 intro d
 induction d with
 | zero=>intro l h;rw [bgR_end (by omega)];rfl
 | succ d ih =>
  intro l h
  have:=ih (l+1) (by omega)
  rw [bgR_step (by omega),sh]
  have e2:sm d (fun e=>if 0<S k (l+(e+1))∧S k (l+(e+1))+W (k+1) (l+(e+1)+1)=v then f (k,l+(e+1)) else 0)=sl (bgR S W m v (l+1) k) f:=by
   rw [this]
   exact sm_congr fun e _=>by rw [show l+(e+1)=l+1+e by omega]
  rw [e2]
  simp only [Nat.add_zero]
  by_cases hc:0<S k l∧S k l+W (k+1) (l+1)=v
  ·rw [if_pos hc,if_pos hc];rfl
  ·rw [if_neg hc,if_neg hc];omega
theorem sl_flat {g:Nat→List (Nat × Nat)} {f:Nat × Nat→Int}:∀ (d i:Nat),sl ((List.range' i d).flatMap g) f=sm d (fun e=>sl (g (i+e)) f)
 | 0,i=>rfl
 | d+1,i=>by
  rw [List.range'_concat,List.flatMap_append,sl_append,sl_flat d i]
  simp only [sm,List.flatMap_cons,List.flatMap_nil,List.append_nil,Nat.one_mul]
theorem sl_bgA {S W:Nat→Nat→Int} {n m i j:Nat} (hi:i≤n) (hj:j≤m) {f:Nat × Nat→Int}:sl (bgA S W n m i j) f=sm (n - i) (fun d=>sm (m - j) (fun e=>if 0<S (i+d) (j+e)∧S (i+d) (j+e)+W (i+d+1) (j+e+1)=W i j then f (i+d,j+e) else 0)):=by
 unfold bgA
 rw [sl_flat]
 exact sm_congr fun d _=>sl_bgR (m - j) j (by omega)
theorem bgR_mem {S W:Nat→Nat→Int} {m k l:Nat} {v:Int} {p:Nat × Nat} (h:p∈bgR S W m v l k):p.1=k∧l≤p.2∧p.2<m:=by
 unfold bgR at h
 obtain ⟨e,he,rfl⟩:=List.mem_map.1 h
 have:=List.mem_range'_1.1 (List.mem_filter.1 he).1
 exact ⟨rfl,this.1,by omega⟩
theorem bgs_mem {S W:Nat→Nat→Int} {n m i j:Nat} {p:Nat × Nat} (h:p∈bgs S W n m i j):i≤p.1∧p.1<n∧j≤p.2∧p.2<m:=by
 unfold bgs bgF at h
 obtain ⟨k,hk,hp⟩:=List.mem_flatMap.1 h
 have h1:=List.mem_range'_1.1 (List.takeWhile_sublist _ |>.subset hk)
 obtain ⟨h2,h3,h4⟩:=bgR_mem hp
 omega
theorem fold_ext {f g:Nat × Nat→Int}:∀ {l:List (Nat × Nat)} {c:Int},(∀ p∈l,f p=g p)→l.foldl (fun c p=>min 1000000 (c+f p)) c=l.foldl (fun c p=>min 1000000 (c+g p)) c
 | [],_,_=>rfl
 | p :: l,c,h=>by
  simp only [List.foldl_cons]
  rw [h p (by simp)]
  exact fold_ext fun q hq=>h q (by simp [hq])
theorem cvT_ext {S W T T' : Nat→Nat→Int} {n m i j:Nat} (h:∀ i' j', i<i' → T i' j' = T' i' j'):cvT S W n m T i j=cvT S W n m T' i j:=by
 unfold cvT
 split
 ·rfl
 ·exact fold_ext (f:=fun p=>T (p.1+1) (p.2+1)) (g:=fun p=>T' (p.1+1) (p.2+1)) fun p hp=>h _ _ (by have:=bgs_mem hp;omega)
theorem cRow_spec {S W:Nat→Nat→Int} {n m i:Nat}:∀ (l:Nat) (T:Nat→Nat→Int),(∀ i' j', i' ≠ i∨l≤j' → cRow S W n m i l T i' j' = T i' j')∧∀ j', j' < l→cRow S W n m i l T i j' = cvT S W n m T i j'
 | 0,T=>⟨fun _ _ _=>rfl,fun j' h=>absurd h (by omega)⟩
 | l+1,T=>by
  obtain ⟨h1,h2⟩:=cRow_spec (S:=S) (W:=W) (n:=n) (m:=m) (i:=i) l (upT T i l (cvT S W n m T i l))
  unfold cRow
  refine ⟨fun i' j' h => ?_,fun j' h => ?_⟩
  ·rw [h1 i' j' (by omega)]
   unfold upT
   rw [if_neg (by omega)]
  ·by_cases hj:j' = l
   ·subst hj
    rw [h1 i j' (.inr (Nat.le_refl _))]
    unfold upT
    rw [if_pos ⟨rfl,rfl⟩]
   ·rw [h2 j' (by omega)]
    exact cvT_ext fun i' j'' hi=>by unfold upT;rw [if_neg (by omega)]
theorem cAll_spec {S W:Nat→Nat→Int} {n m:Nat}:∀ (k:Nat) (T:Nat→Nat→Int),(∀ i j,k≤i→cAll S W n m k T i j=T i j)∧∀ i j,i<k→j≤m→cAll S W n m k T i j=cvT S W n m (cAll S W n m k T) i j
 | 0,T=>⟨fun _ _ _=>rfl,fun i j h _=>absurd h (by omega)⟩
 | k+1,T=>by
  obtain ⟨h1,h2⟩:=cAll_spec (S:=S) (W:=W) (n:=n) (m:=m) k (cRow S W n m k (m+1) T)
  obtain ⟨r1,r2⟩:=cRow_spec (S:=S) (W:=W) (n:=n) (m:=m) (i:=k) (m+1) T
  unfold cAll
  refine ⟨fun i j h => ?_,fun i j h hj => ?_⟩
  ·rw [h1 i j (by omega),r1 i j (.inl (by omega))]
  ·by_cases hi:i=k
   ·subst hi
    rw [h1 i j (Nat.le_refl _),r2 j (by omega)]
    exact cvT_ext fun i' j' hi' => by rw [h1 i' j' (by omega),r1 i' j' (.inl (by omega))]
   ·exact h2 i j (by omega) hj
def cT (x y:El) (s:Int):Nat→Nat→Int:=cAll (shA x.l y.l s) (openT x y s) x.l.length y.l.length (x.l.length+1) zT
theorem cT_eq {x y:El} {s:Int} (ha:shOk x.l) (hb:shOk y.l) {i j:Nat} (hi:i≤x.l.length) (hj:j≤y.l.length):cT x y s i j=if openT x y s i j=0 then 1 else (bgA (shA x.l y.l s) (openT x y s) x.l.length y.l.length i j).foldl (fun c p=>min 1000000 (c+cT x y s (p.1+1) (p.2+1))) 0:=by
 have h:=(cAll_spec (S:=shA x.l y.l s) (W:=openT x y s) (n:=x.l.length) (m:=y.l.length) (x.l.length+1) zT).2 i j (by omega) hj
 unfold cT
 rw [h]
 unfold cvT
 rw [begins_same ha hb]
theorem cT_pos {x y:El} {s:Int} (ha:shOk x.l) (hb:shOk y.l) (i j:Nat):0≤cT x y s i j:=by
 have hz:∀ i j,¬ (i≤x.l.length∧j≤y.l.length)→cT x y s i j=0:=fun i j h=>by
  have key:∀ (k:Nat) (T:Nat→Nat→Int),(∀ i j,y.l.length<j→T i j=0)→∀ i j,y.l.length<j→cAll (shA x.l y.l s) (openT x y s) x.l.length y.l.length k T i j=0:=by
   intro k
   induction k with
   | zero=>intro T h i j hj;exact h i j hj
   | succ k ih =>
    intro T h i j hj
    unfold cAll
    refine ih _ (fun i' j' hj' => ?_) i j hj
    rw [(cRow_spec (y.l.length+1) T).1 i' j' (.inr (by omega))]
    exact h i' j' hj'
  by_cases hi:i≤x.l.length
  ·exact key _ zT (fun _ _ _=>rfl) i j (by omega)
  ·unfold cT
   rw [(cAll_spec (x.l.length+1) zT).1 i j (by omega)];rfl
 have key:∀ (d i j:Nat),x.l.length - i=d→0≤cT x y s i j:=by
  intro d
  induction d using Nat.strongRecOn with
  | ind d ih =>
   intro i j hd
   by_cases hij:i≤x.l.length∧j≤y.l.length
   ·rw [cT_eq ha hb hij.1 hij.2]
    split
    ·decide
    ·have:∀ (l:List (Nat × Nat)) (c:Int),0≤c→(∀ p∈l,i≤p.1∧p.1<x.l.length)→0≤l.foldl (fun c p=>min 1000000 (c+cT x y s (p.1+1) (p.2+1))) c:=by
      intro l
      induction l with
      | nil=>intro c hc _;exact hc
      | cons p l ihl =>
       intro c hc hm
       simp only [List.foldl_cons]
       have h1:=hm p (by simp)
       have h2:=ih (x.l.length - (p.1+1)) (by omega) (p.1+1) (p.2+1) rfl
       exact ihl _ (by omega) fun q hq=>hm q (by simp [hq])
     refine this _ 0 (by decide) fun p hp => ?_
     rw [← begins_same ha hb] at hp
     have:=bgs_mem hp
     omega
   ·rw [hz i j hij];decide
 exact key _ i j rfl
theorem cT_sum {x y:El} {s:Int} (ha:shOk x.l) (hb:shOk y.l) {i j:Nat} (hi:i≤x.l.length) (hj:j≤y.l.length):cT x y s i j=if openT x y s i j=0 then 1 else min 1000000 (sm (x.l.length - i) (fun d=>sm (y.l.length - j) (fun e=>if 0<shA x.l y.l s (i+d) (j+e)∧shA x.l y.l s (i+d) (j+e)+openT x y s (i+d+1) (j+e+1)=openT x y s i j then cT x y s (i+d+1) (j+e+1) else 0))):=by
 rw [cT_eq ha hb hi hj,fold_sum (f:=fun p=>cT x y s (p.1+1) (p.2+1)) (fun p=>cT_pos ha hb _ _) (by decide) (by decide),sl_bgA hi hj,Int.zero_add]
theorem cT_symm {x y:El} {s:Int} (ha:shOk x.l) (hb:shOk y.l):∀ (d i j:Nat),x.l.length - i=d→i≤x.l.length→j≤y.l.length→cT x y s i j=cT y x s j i:=by
 intro d
 induction d using Nat.strongRecOn with
 | ind d ih =>
  intro i j hd hi hj
  rw [cT_sum ha hb hi hj,cT_sum hb ha hj hi,openT_symm (x:=x)]
  congr 2
  rw [sm_comm]
  refine sm_congr fun e he=>sm_congr fun d' hd' => ?_
  rw [shA_symm (a:=x.l),openT_symm (x:=x)]
  split
  ·exact ih (x.l.length - (i+d' + 1)) (by omega) _ _ rfl (by omega) (by omega)
  ·rfl
end Go.Dr.T
namespace Go.Dr.T
def goY {σ:Type} (ok:σ→Nat × Nat→Bool) (nx:σ→Nat × Nat→σ):σ→List (Nat × Nat)→σ
 | s,[]=>s
 | s,p :: ps=>if ok s p=true then goY ok nx (nx s p) ps else nx s p
structure KS (σ:Type) where
 k:Nat
 s:σ
theorem fB.o0 {h g:List B} {K:List B→Prop} (hk:K h):fB (if 0=0 then h else g) K:=fB.i0 hk
set_option maxRecDepth 100000 in
set_option maxHeartbeats 20000000 in
theorem begins_call {σ:Type} {Bl:σ→List B} {Lh id:Nat} {ok:σ→Nat × Nat→Bool} {nx:σ→Nat × Nat→σ} {Iv:σ→Prop} {a b:Sh} {sl:Int} {f:Nat→Nat→Int} {i j:Nat} {s0:σ} {K:V→List B→Prop}
  (ha:shOk a.l) (hb:shOk b.l) (hs:0≤sl∧sl≤200000) (hf:∀ k l,0≤f k l∧f k l≤8000000) (hi:i≤a.l.length) (hj:j≤b.l.length)
  (hlen:∀ s,(Bl s).length=Lh) (hI:Iv s0) (hn:∀ s p,Iv s→ok s p=true→Iv (nx s p))
  (hy:∀ s (k l:Nat) (K:V→List B→Prop),Iv s→i≤k→k<a.l.length→j≤l→l<b.l.length→K (.bool (ok s (k,l))) (Bl (nx s (k,l)))→CallP FB md 0 (.yld id) [.agg [.int .i64 (k:Nat),.int .i64 (l:Nat)]] (Bl s) K)
  (hk:K (.tup []) (Bl (goY ok nx s0 (bgs (shA a.l b.l sl) f a.l.length b.l.length i j)))):CallP FB md 0 (.fn 47 [.rp [.int .i64 (i:Nat)] 0,.rp [.rp (pC a b sl f) 0] 0,.rp [.int .i64 (j:Nat)] 0]) [.yld id] (Bl s0) K:=by
 have hal:=ha.1
 have hbl:=hb.1
 have hJ0:j<41:=by omega
 have hI0:i<41:=by omega
 have fx:∀ p q:Nat,0+3+p * 41+q * 1=3+p * 41+q:=fun p q=>by omega
 have cij:=pC_t (a:=a) (b:=b) (s:=sl) (f:=f) hI0 hJ0
 rw [← fx] at cij
 unfold bgs at hk
 have hfij:=hf i j
 refine call_one rfl rfl rfl ?_
 repeat' (first
 | (conv=>whnf)
   first
   | refine fLen.mk ?_
   | refine fB.i0 ?_
   | refine Get.mk _ rfl ?_)
 refine LoopP.by (fun a' : KS σ=>i≤a'.k∧Iv a'.s∧goY ok nx s0 (bgF (shA a.l b.l sl) f a.l.length b.l.length (f i j) j i)=goY ok nx a'.s (bgF (shA a.l b.l sl) f a.l.length b.l.length (f i j) j a'.k)) (fun a' => [(5,.int .i64 (a'.k:Nat))]) (fun a' => Bl a'.s) (fun a' => a.l.length - a'.k) ⟨i,s0⟩ ⟨Nat.le_refl _,hI,rfl⟩ rfl ?_
 rintro ⟨k,s⟩ ⟨w1,w2,w3⟩
 dsimp only at w1 w2 w3 ⊢
 by_cases hkn:k<a.l.length
 rotate_left
 ·rw [bgF_end (fun h=>hkn h.1)] at w3
  rw [w3] at hk
  repeat' (first
 | (conv=>whnf)
   first
   | refine Br.f ?_
   | (refine Br.decF ?_ ?_;(focus first | assumption | omega))
   | refine fLen.mk ?_
   | refine fB.i0 ?_
   | refine fB.mk ?_
   | refine Get.mk _ pC_0 ?_
   | refine Get.mk _ rfl ?_
   | refine Ends.of ?_)
  all_goals first | (show K (.tup []) (trunc (Bl s0).length _ (Bl s));rw [trunc_same (by rw [hlen,hlen])];exact hk) | (exfalso;omega)
 have hK0:k<41:=by omega
 have hK1:k+1<41:=by omega
 have ckj:=pC_t (a:=a) (b:=b) (s:=sl) (f:=f) hK0 hJ0
 rw [← fx] at ckj
 by_cases hv:f k j=f i j
 rotate_left
 ·rw [bgF_end (fun h=>hv h.2)] at w3
  rw [w3] at hk
  repeat' (first
 | (conv=>whnf)
   first
   | refine Idx.nat (Nat.le_of_lt_succ hK0) ?_
   | refine Idx.nat (Nat.le_of_lt_succ hJ0) ?_
   | refine Idx.nat (Nat.le_of_lt_succ hI0) ?_
   | (refine Br.decT ?_ ?_;(focus first | assumption | omega))
   | (refine Br.decF ?_ ?_;(focus first | assumption | omega))
   | refine fLen.mk ?_
   | refine fB.i0 ?_
   | refine fB.mk ?_
   | refine Get.mk _ pC_0 ?_
   | refine Get.mk _ ckj ?_
   | refine Get.mk _ cij ?_
   | refine Get.mk _ rfl ?_
   | refine Ends.of ?_)
  all_goals first | (show K (.tup []) (trunc (Bl s0).length _ (Bl s));rw [trunc_same (by rw [hlen,hlen])];exact hk) | (exfalso;omega)
 rw [bgF_step ⟨hkn,hv⟩] at w3
 obtain ⟨x,hx⟩:∃ x,a.l[k]?=some x:=⟨_,List.getElem?_eq_getElem hkn⟩
 repeat' (first
 | (conv=>whnf)
   first
   | refine Idx.nat (Nat.le_of_lt_succ hK0) ?_
   | refine Idx.nat (Nat.le_of_lt_succ hJ0) ?_
   | refine Idx.nat (Nat.le_of_lt_succ hI0) ?_
   | (refine Br.decT ?_ ?_;(focus first | assumption | omega))
   | refine fLen.mk ?_
   | refine fB.i0 ?_
   | refine fB.mk ?_
   | refine Get.mk _ pC_0 ?_
   | refine Get.mk _ ckj ?_
   | refine Get.mk _ cij ?_
   | refine Get.mk _ rfl ?_)
 all_goals try (exfalso;omega)
 refine LoopP.by (fun a' : KS σ=>j≤a'.k∧Iv a'.s∧goY ok nx s (bgR (shA a.l b.l sl) f b.l.length (f i j) j k++bgF (shA a.l b.l sl) f a.l.length b.l.length (f i j) j (k+1))=goY ok nx a'.s (bgR (shA a.l b.l sl) f b.l.length (f i j) a'.k k++bgF (shA a.l b.l sl) f a.l.length b.l.length (f i j) j (k+1))) (fun a' => [(6,.int .i64 (a'.k:Nat))]) (fun a' => Bl a'.s) (fun a' => b.l.length - a'.k) ⟨j,s⟩ ⟨Nat.le_refl _,w2,rfl⟩ rfl ?_
 rintro ⟨l,s'⟩ ⟨v1,v2,v3⟩
 dsimp only at v1 v2 v3 ⊢
 by_cases hlm:l<b.l.length
 rotate_left
 ·rw [bgR_end (m:=b.l.length) (l:=l) (by omega),List.nil_append] at v3
  repeat' (first
 | (conv=>whnf)
   first
   | (refine Br.decF ?_ ?_;(focus first | assumption | omega))
   | (refine Bnd.i64 ?_ ?_ ?_;(focus omega);(focus omega))
   | refine fLen.mk ?_
   | refine fB.i0 ?_
   | refine fB.mk ?_
   | refine Get.mk _ pC_1 ?_
   | refine Get.mk _ rfl ?_)
  all_goals first | (exfalso;omega;done) | exact NextP.mk ⟨k+1,s'⟩ ⟨by dsimp only;omega,v2,by dsimp only;rw [w3,v3]⟩ (by dsimp only;omega) (norm_same (by rw [hlen,hlen]))
 obtain ⟨y,hy'⟩:∃ y,b.l[l]?=some y:=⟨_,List.getElem?_eq_getElem hlm⟩
 have hL1:l+1<41:=by omega
 have ckl:=pC_t (a:=a) (b:=b) (s:=sl) (f:=f) hK1 hL1
 rw [← fx] at ckl
 have hfkl:=hf (k+1) (l+1)
 have hsh:=share_fun (f:=f) ha hb hs hx hy'
 have hxm:=ha.2 x (List.mem_of_getElem? hx)
 have hym:=hb.2 y (List.mem_of_getElem? hy')
 have rs:=shr_rng (s:=sl) (x:=x) (y:=y) ⟨hxm.2.2.1,hxm.2.2.2⟩ ⟨hym.2.2.1,hym.2.2.2⟩
 have hS:shA a.l b.l sl k l=shr sl x y:=by unfold shA;rw [List.getD_eq_getElem?_getD,hx,List.getD_eq_getElem?_getD,hy'];rfl
 rw [bgR_step hlm,hS] at v3
 have hyl:∀ {K:V→List B→Prop},K (.bool (ok s' (k,l))) (Bl (nx s' (k,l)))→CallP FB md 0 (.yld id) [.agg [.int .i64 (k:Nat),.int .i64 (l:Nat)]] (Bl s') K:=fun h=>hy s' k l _ v2 w1 hkn v1 hlm h
 have hkw:IntKind.i64.wrap ((k:Int)+1)=((k+1:Nat):Int):=by rw [wrap_i64 (by omega) (by omega)];omega
 have hlw:IntKind.i64.wrap ((l:Int)+1)=((l+1:Nat):Int):=by rw [wrap_i64 (by omega) (by omega)];omega
 generalize shr sl x y=S at *
 by_cases hc:0<S∧S+f (k+1) (l+1)=f i j
 ·rw [if_pos hc,List.cons_append] at v3
  cases hok:ok s' (k,l) with
  | true =>
   rw [hok] at hyl
   have v4:goY ok nx s' ((k,l) :: (bgR (shA a.l b.l sl) f b.l.length (f i j) (l+1) k++bgF (shA a.l b.l sl) f a.l.length b.l.length (f i j) j (k+1)))=goY ok nx (nx s' (k,l)) (bgR (shA a.l b.l sl) f b.l.length (f i j) (l+1) k++bgF (shA a.l b.l sl) f a.l.length b.l.length (f i j) j (k+1)):=by
    conv=>lhs;unfold goY
    rw [if_pos hok]
   repeat' (first
 | (conv=>whnf)
   first
   | refine Bnd.eq hkw ?_
   | refine Bnd.eq hlw ?_
   | refine Idx.nat (Nat.le_of_lt_succ hK1) ?_
   | refine Idx.nat (Nat.le_of_lt_succ hL1) ?_
   | refine Idx.nat (Nat.le_of_lt_succ hJ0) ?_
   | refine Idx.nat (Nat.le_of_lt_succ hI0) ?_
   | refine Br.f ?_
   | (refine Br.decT ?_ ?_;(focus first | assumption | omega))
   | (refine Bnd.i64 ?_ ?_ ?_;(focus omega);(focus omega))
   | refine fLen.mk ?_
   | refine fB.i0 ?_
   | refine fB.mk ?_
   | refine Get.mk _ pC_1 ?_
   | refine Get.mk _ ckl ?_
   | refine Get.mk _ cij ?_
   | refine call_fun rfl rfl hsh (.inl rfl) ?_
   | refine hyl ?_
   | refine Get.mk _ rfl ?_)
   all_goals first | (exfalso;omega;done) | exact NextP.mk ⟨l+1,nx s' (k,l)⟩ ⟨by dsimp only;omega,hn _ _ v2 hok,by dsimp only;rw [v3,v4]⟩ (by dsimp only;omega) (norm_same (by rw [hlen,hlen]))
  | false =>
   rw [hok] at hyl
   have v4:goY ok nx s' ((k,l) :: (bgR (shA a.l b.l sl) f b.l.length (f i j) (l+1) k++bgF (shA a.l b.l sl) f a.l.length b.l.length (f i j) j (k+1)))=nx s' (k,l):=by
    unfold goY
    rw [if_neg (by rw [hok];simp)]
   rw [w3,v3,v4] at hk
   repeat' (first
 | (conv=>whnf)
   first
   | refine Bnd.eq hkw ?_
   | refine Bnd.eq hlw ?_
   | refine Idx.nat (Nat.le_of_lt_succ hK1) ?_
   | refine Idx.nat (Nat.le_of_lt_succ hL1) ?_
   | refine Idx.nat (Nat.le_of_lt_succ hJ0) ?_
   | refine Idx.nat (Nat.le_of_lt_succ hI0) ?_
   | refine Br.t ?_
   | (refine Br.decT ?_ ?_;(focus first | assumption | omega))
   | (refine Bnd.i64 ?_ ?_ ?_;(focus omega);(focus omega))
   | refine fLen.mk ?_
   | refine fB.i0 ?_
   | refine fB.mk ?_
   | refine Get.mk _ pC_1 ?_
   | refine Get.mk _ ckl ?_
   | refine Get.mk _ cij ?_
   | refine call_fun rfl rfl hsh (.inl rfl) ?_
   | refine hyl ?_
   | refine Get.mk _ rfl ?_
   | refine Ends.of ?_)
   all_goals first | (exfalso;omega;done) | (show K (.tup []) (trunc (Bl s0).length _ (Bl (nx s' (k,l))));rw [trunc_same (by rw [hlen,hlen])];exact hk)
 ·rw [if_neg hc] at v3
  repeat' (first
 | (conv=>whnf)
   first
   | refine Bnd.eq hkw ?_
   | refine Bnd.eq hlw ?_
   | refine Idx.nat (Nat.le_of_lt_succ hK1) ?_
   | refine Idx.nat (Nat.le_of_lt_succ hL1) ?_
   | refine Idx.nat (Nat.le_of_lt_succ hJ0) ?_
   | refine Idx.nat (Nat.le_of_lt_succ hI0) ?_
   | refine Br.f ?_
   | (refine Br.decT ?_ ?_;(focus first | assumption | omega))
   | (refine Br.decF ?_ ?_;(focus first | assumption | omega))
   | refine Br.dec (fun _ => ?_) (fun _ => ?_)
   | (refine Bnd.i64 ?_ ?_ ?_;(focus omega);(focus omega))
   | refine fLen.mk ?_
   | refine fB.i0 ?_
   | refine fB.mk ?_
   | refine Get.mk _ pC_1 ?_
   | refine Get.mk _ ckl ?_
   | refine Get.mk _ cij ?_
   | refine call_fun rfl rfl hsh (.inl rfl) ?_
   | refine Get.mk _ rfl ?_)
  all_goals first | (exfalso;omega;done) | exact NextP.mk ⟨l+1,s'⟩ ⟨by dsimp only;omega,v2,by dsimp only;rw [v3]⟩ (by dsimp only;omega) (norm_same (by rw [hlen,hlen]))
end Go.Dr.T
