/- Chapter 06: fill, and open. -/
import Derived.Test.YtcjhgcjmomildaaGreatDoorG4
import Derived.Test.YtcjhgcjmomildaaGreatDoorG5
namespace Go.Dr.T
def shA (a b:List (Int × Int)) (s:Int) (i j:Nat):Int:=shr s (a.getD i (0,0)) (b.getD j (0,0))
def wR (a b:List (Int × Int)) (s bi bj:Int) (k:Nat) (prev:Nat→Int):Nat→Int
 | 0=>0
 | l+1 =>
  let n:=max (prev (l+1)) (wR a b s bi bj k prev l)
  let v:=shA a b s (a.length - (k+1)) (b.length - (l+1))
  if 0<v∧¬ (bi=((a.length - (k+1):Nat):Int)∧bj=((b.length - (l+1):Nat):Int)) then max n (v+prev l) else n
def wN (a b:List (Int × Int)) (s bi bj:Int):Nat→Nat→Int
 | 0=>fun _=>0
 | k+1=>wR a b s bi bj k (wN a b s bi bj k)
theorem wN_0 {a b:List (Int × Int)} {s bi bj:Int} {l:Nat}:wN a b s bi bj 0 l=0:=rfl
theorem wN_1 {a b:List (Int × Int)} {s bi bj:Int} {k:Nat}:wN a b s bi bj k 0=0:=by cases k <;> rfl
theorem wN_S {a b:List (Int × Int)} {s bi bj:Int} {k l:Nat}:wN a b s bi bj (k+1) (l+1) =
  (let n:=max (wN a b s bi bj k (l+1)) (wN a b s bi bj (k+1) l)
  let v:=shA a b s (a.length - (k+1)) (b.length - (l+1))
  if 0<v∧¬ (bi=((a.length - (k+1):Nat):Int)∧bj=((b.length - (l+1):Nat):Int)) then max n (v+wN a b s bi bj k l) else n):=rfl
def wT (a b:List (Int × Int)) (s bi bj:Int) (i j:Nat):Int:=wN a b s bi bj (a.length - i) (b.length - j)
theorem wT_end1 {a b:List (Int × Int)} {s bi bj:Int} {i j:Nat} (h:a.length≤i):wT a b s bi bj i j=0:=by
 unfold wT;rw [show a.length - i=0 by omega];rfl
theorem wT_end2 {a b:List (Int × Int)} {s bi bj:Int} {i j:Nat} (h:b.length≤j):wT a b s bi bj i j=0:=by
 unfold wT;rw [show b.length - j=0 by omega]
 exact wN_1
theorem wT_step {a b:List (Int × Int)} {s bi bj:Int} {i j:Nat} {x y:Int × Int} (hx:a[i]?=some x) (hy:b[j]?=some y):wT a b s bi bj i j =
  if 0<shr s x y∧¬ (bi=(i:Nat)∧bj=(j:Nat)) then max (max (wT a b s bi bj (i+1) j) (wT a b s bi bj i (j+1))) (shr s x y+wT a b s bi bj (i+1) (j+1)) else max (wT a b s bi bj (i+1) j) (wT a b s bi bj i (j+1)):=by
 have hi:=(List.getElem?_eq_some_iff.1 hx).1
 have hj:=(List.getElem?_eq_some_iff.1 hy).1
 have e1:shA a b s i j=shr s x y:=by unfold shA;rw [List.getD_eq_getElem?_getD,hx,List.getD_eq_getElem?_getD,hy];rfl
 obtain ⟨k,hk⟩:∃ k,a.length - i=k+1:=⟨a.length - i - 1,by omega⟩
 obtain ⟨l,hl⟩:∃ l,b.length - j=l+1:=⟨b.length - j - 1,by omega⟩
 unfold wT
 rw [hk,hl,show a.length - (i+1)=k by omega,show b.length - (j+1)=l by omega]
 rw [wN_S]
 rw [show a.length - (k+1)=i by omega,show b.length - (l+1)=j by omega,e1]
def mixT (g w:Nat→Nat→Int) (n m k l:Nat):Nat→Nat→Int:=fun i j=>if i<n∧j<m∧(k≤i∨i+1=k∧l≤j) then w i j else g i j
theorem mixT_start {g w:Nat→Nat→Int} {n m:Nat}:mixT g w n m n m=g:=by
 funext i j;unfold mixT;rw [if_neg (by omega)]
theorem mixT_row {g w:Nat→Nat→Int} {n m k:Nat}:mixT g w n m (k+1) 0=mixT g w n m k m:=by
 funext i j;unfold mixT
 by_cases h:i<n∧j<m∧k≤i
 ·rw [if_pos (by omega),if_pos (by omega)]
 ·rw [if_neg (by omega),if_neg (by omega)]
theorem mixT_set {g w:Nat→Nat→Int} {n m i j:Nat} (hi:i<n) (hj:j<m):upT (mixT g w n m (i+1) (j+1)) i j (w i j)=mixT g w n m (i+1) j:=by
 funext i' j'; unfold upT mixT
 by_cases h:i' = i∧j' = j
 ·obtain ⟨rfl,rfl⟩:=h
  rw [if_pos ⟨rfl,rfl⟩,if_pos (by omega)]
 ·rw [if_neg h]
  by_cases h2:i' < n∧j' < m∧(i+1≤i' ∨ i' + 1=i+1∧j+1≤j')
  ·rw [if_pos h2,if_pos (by omega)]
  ·rw [if_neg h2,if_neg (by omega)]
theorem mixT_get {a b:List (Int × Int)} {s bi bj:Int} {g:Nat→Nat→Int} {i j i' j' : Nat} (hg:∀ i j,a.length≤i∨b.length≤j→g i j=0) (h:i+1≤i' ∨ i' = i∧j+1≤j') :
  mixT g (wT a b s bi bj) a.length b.length (i+1) (j+1) i' j' = wT a b s bi bj i' j' := by
 unfold mixT
 by_cases h1:i' < a.length∧j' < b.length
 ·rw [if_pos (by omega)]
 ·rw [if_neg (by omega),hg i' j' (by omega)]
  by_cases h2:i' < a.length
  ·rw [wT_end2 (by omega)]
  ·rw [wT_end1 (by omega)]
theorem shr_rng {s:Int} {x y:Int × Int} (hx:1≤x.2∧x.2≤200000) (hy:1≤y.2∧y.2≤200000):0≤shr s x y∧shr s x y≤200000:=by
 obtain ⟨m,n⟩:=x
 obtain ⟨m', n'⟩:=y
 rw [shr_case]
 dsimp only at hx hy
 split
 ·omega
 ·split
  ·omega
  ·split <;> omega
theorem shA_rng {a b:List (Int × Int)} {s:Int} {i j:Nat} (ha:shOk a) (hb:shOk b) (hi:i<a.length) (hj:j<b.length):0≤shA a b s i j∧shA a b s i j≤200000:=by
 unfold shA
 rw [List.getD_eq_getElem?_getD,List.getElem?_eq_getElem hi,List.getD_eq_getElem?_getD,List.getElem?_eq_getElem hj]
 have h1:=ha.2 _ (List.getElem_mem hi)
 have h2:=hb.2 _ (List.getElem_mem hj)
 exact shr_rng ⟨h1.2.2.1,h1.2.2.2⟩ ⟨h2.2.2.1,h2.2.2.2⟩
theorem wN_rng {a b:List (Int × Int)} {s bi bj:Int} (ha:shOk a) (hb:shOk b):∀ (k l:Nat),k≤a.length→l≤b.length→0≤wN a b s bi bj k l∧wN a b s bi bj k l≤200000 * (k:Int)
 | 0,l,_,_=>by rw [wN_0];simp
 | k+1,0,_,_=>by rw [wN_1];omega
 | k+1,l+1,h1,h2=>by
  have i1:=wN_rng ha hb (s:=s) (bi:=bi) (bj:=bj) k (l+1) (by omega) h2
  have i2:=wN_rng ha hb (s:=s) (bi:=bi) (bj:=bj) (k+1) l h1 (by omega)
  have i3:=wN_rng ha hb (s:=s) (bi:=bi) (bj:=bj) k l (by omega) (by omega)
  have i4:=shA_rng (s:=s) ha hb (i:=a.length - (k+1)) (j:=b.length - (l+1)) (by omega) (by omega)
  rw [wN_S]
  generalize wN a b s bi bj k (l+1)=A at *
  generalize wN a b s bi bj (k+1) l=B at *
  generalize wN a b s bi bj k l=C at *
  generalize shA a b s (a.length - (k+1)) (b.length - (l+1))=S at *
  dsimp only
  split <;> omega
termination_by k l=>k+l
theorem wT_rng {a b:List (Int × Int)} {s bi bj:Int} (ha:shOk a) (hb:shOk b) (i j:Nat):0≤wT a b s bi bj i j∧wT a b s bi bj i j≤8000000:=by
 unfold wT
 have:=wN_rng ha hb (s:=s) (bi:=bi) (bj:=bj) (a.length - i) (b.length - j) (by omega) (by omega)
 have:=ha.1
 omega
theorem view_pC {a b:Sh} {s:Int} {f:Nat→Nat→Int} {h:List B} {d:Nat}:mapO (V.view h (d+1)) (pC a b s f)=some (pC a b s f):=by
 rw [pC_eq]
 exact (VwL.cons Vw.sl (VwL.cons Vw.sl (VwL.cons (Vw.int rfl) ⟨views_ints _⟩))).1
set_option maxRecDepth 100000 in
set_option maxHeartbeats 20000000 in
theorem fill_gen {a b:Sh} {s bi bj:Int} {g:Nat→Nat→Int} {h:List B} {p:Nat} {K:V→List B→Prop} (ha:shOk a.l) (hb:shOk b.l) (hs:0≤s∧s≤200000) (hg:∀ i j,a.l.length≤i∨b.l.length≤j→g i j=0) (hc:Cl h) (hp:bget h p=some (pB a b s g))
  (hk:K (.int .i64 (mixT g (wT a.l b.l s bi bj) a.l.length b.l.length 0 b.l.length 0 0)) (bset h p (pB a b s (mixT g (wT a.l b.l s bi bj) a.l.length b.l.length 0 b.l.length)))):CallP FB md 0 (.fn 46 []) [.ref p 1684 0,.agg [.int .i64 bi,.int .i64 bj]] h K:=by
 have hpl:=bget_lt hp
 have hB:∀ f r,bget (bset h p (pB a b s f)++r) p=some (pB a b s f):=fun f r=>bget_app (bget_same hpl)
 have hC:∀ f,Cl (bset h p (pB a b s f)):=fun f=>hc.set (pB_blo _)
 have hL:∀ f,(bset h p (pB a b s f)).length=h.length:=fun f=>bset_len ..
 have hN:∀ f (r:B),bget (bset h p (pB a b s f)++[r]) h.length=some r:=fun f r=>by have:=bget_new (h:=bset h p (pB a b s f)) (g:=[r]) (i:=0);rwa [hL] at this
 have hS:∀ f f' r,bset (bset h p (pB a b s f)++[r]) p (pB a b s f')=bset h p (pB a b s f')++[r]:=fun f f' r=>by rw [bset_app (by rw [hL];exact hpl),bset_two]
 have hV:∀ f r (i j:Int),views (bset h p (pB a b s f)++r) depth [.ref p 1684 0,.int .i64 i,.int .i64 j]=some [.rp (pC a b s f) 0,.int .i64 i,.int .i64 j]:=fun f r i j =>
  (VwL.cons (Vw.ref (d:=63) (hB f r) pC_len (part_all pC_len) ⟨view_pC⟩) (VwL.cons (Vw.int (d:=63) rfl) (VwL.cons (Vw.int (d:=63) rfl) VwL.nil))).1
 have hal:=ha.1
 have hbl0:=hb.1
 have hst0:bset h p (pB a b s g)=h:=bset_same hp
 have hp0:∀ r,bget (h++r) p=some (pB a b s g):=fun r=>bget_app hp
 have hlen:∀ f r,(bset h p (pB a b s f)++[r]).length=(h++[B.blk [.int .i64 bi,.int .i64 bj] false]).length:=fun f r=>by simp only [List.length_append,hL,List.length_cons,List.length_nil]
 refine call_one rfl rfl rfl ?_
 repeat' (first
 | (conv=>whnf)
   first
   | (refine Bnd.i64 ?_ ?_ ?_;(focus omega);(focus omega))
   | refine fLen.mk ?_
   | refine fB.i0 ?_
   | refine fB.i1 ?_
   | refine fB.newj 0 rfl ?_
   | refine Get.newj 0 rfl rfl ?_
   | refine Get.mk _ (hp0 _) ?_
   | refine Req.mk pC_len ?_
   | refine Get.mk _ pC_0 ?_
   | (refine Req.mk ?_ ?_;(focus first | rfl | decide | exact ⟨rfl,rfl⟩ | exact ⟨rfl,by decide⟩ | exact (fun _=>rfl) | exact (fun h=>nomatch h) | (simp;done) | omega | (simp [big];done) | exact le_big (by omega) | exact lt_big (by omega))))
 refine LoopP.by (fun k:Nat=>k≤a.l.length) (fun k=>[(5,.int .i64 ((k:Nat) - 1))]) (fun k=>bset h p (pB a b s (mixT g (wT a.l b.l s bi bj) a.l.length b.l.length k b.l.length))++[.blk [.int .i64 bi,.int .i64 bj] false]) (fun k=>k) a.l.length (Nat.le_refl _) (by rw [mixT_start,hst0];rfl) ?_
 rintro k hk'
 dsimp only
 cases k with
 | zero =>
  repeat' (first
 | (conv=>whnf)
   first
   | refine fBtr1c (hL _) (hC _) ?_
   | refine Br.f ?_
   | refine fLen.mk ?_
   | refine fB.i0 ?_
   | refine fB.mk ?_
   | refine Get.mk _ (hB _ _) ?_
   | refine Req.mk pC_len ?_
   | refine Get.mk _ (pC_t (i:=0) (j:=0) (by omega) (by omega)) ?_
   | (refine Idx.int ?_ ?_ ?_;(focus omega);(focus omega))
   | refine Get.mk _ rfl ?_
   | refine Ends.of ?_)
  exact hk
 | succ i =>
  have e5:((i+1:Nat):Int) - 1=(i:Nat):=by omega
  rw [e5]
  obtain ⟨x,hx⟩:∃ x,a.l[i]?=some x:=⟨_,List.getElem?_eq_getElem (by omega)⟩
  repeat' (first
 | (conv=>whnf)
   first
   | refine Br.t ?_
   | (refine Bnd.i64 ?_ ?_ ?_;(focus omega);(focus omega))
   | refine fLen.mk ?_
   | refine fB.i0 ?_
   | refine fB.mk ?_
   | refine Get.mk _ (hB _ _) ?_
   | refine Req.mk pC_len ?_
   | refine Get.mk _ pC_1 ?_)
  all_goals try (exfalso;omega)
  refine LoopP.by (fun l:Nat=>l≤b.l.length) (fun l=>[(6,.int .i64 ((l:Nat) - 1))]) (fun l=>bset h p (pB a b s (mixT g (wT a.l b.l s bi bj) a.l.length b.l.length (i+1) l))++[.blk [.int .i64 bi,.int .i64 bj] false]) (fun l=>l) b.l.length (Nat.le_refl _) rfl ?_
  rintro l hl'
  dsimp only
  cases l with
  | zero =>
   rw [mixT_row]
   repeat' (first
 | (conv=>whnf)
   first
   | refine Br.f ?_
   | (refine Bnd.i64 ?_ ?_ ?_;(focus omega);(focus omega))
   | refine fLen.mk ?_
   | refine fB.i0 ?_
   | refine fB.mk ?_)
   all_goals try (exfalso;omega)
   refine NextP.mk i (by omega) (by omega) (norm_same (hlen _ _))
  | succ j =>
   have e6:((j+1:Nat):Int) - 1=(j:Nat):=by omega
   rw [e6]
   obtain ⟨y,hy⟩:∃ y,b.l[j]?=some y:=⟨_,List.getElem?_eq_getElem (by omega)⟩
   have hbi:IntKind.i64.wrap ((i:Int)+1)=((i+1:Nat):Int):=by rw [wrap_i64 (by omega) (by omega)];omega
   have hbj:IntKind.i64.wrap ((j:Int)+1)=((j+1:Nat):Int):=by rw [wrap_i64 (by omega) (by omega)];omega
   have hT:=Hid.mk (wT_step (s:=s) (bi:=bi) (bj:=bj) hx hy)
   have hI1:i+1<41:=by omega
   have hJ1:j+1<41:=by omega
   have hI0:i<41:=by omega
   have hJ0:j<41:=by omega
   have hset:=mixT_set (g:=g) (w:=wT a.l b.l s bi bj) (n:=a.l.length) (m:=b.l.length) (i:=i) (j:=j) (by omega) (by omega)
   have g1:=mixT_get (s:=s) (bi:=bi) (bj:=bj) (g:=g) (i:=i) (j:=j) (i' := i+1) (j' := j) hg (.inl (by omega))
   have g2:=mixT_get (s:=s) (bi:=bi) (bj:=bj) (g:=g) (i:=i) (j:=j) (i' := i) (j' := j+1) hg (.inr ⟨rfl,by omega⟩)
   have g3:=mixT_get (s:=s) (bi:=bi) (bj:=bj) (g:=g) (i:=i) (j:=j) (i' := i+1) (j' := j+1) hg (.inl (by omega))
   have r1:=wT_rng (s:=s) (bi:=bi) (bj:=bj) ha hb (i+1) j
   have r2:=wT_rng (s:=s) (bi:=bi) (bj:=bj) ha hb i (j+1)
   have r3:=wT_rng (s:=s) (bi:=bi) (bj:=bj) ha hb (i+1) (j+1)
   have hxm:=ha.2 x (List.mem_of_getElem? hx)
   have hym:=hb.2 y (List.mem_of_getElem? hy)
   have rs:=shr_rng (s:=s) (x:=x) (y:=y) ⟨hxm.2.2.1,hxm.2.2.2⟩ ⟨hym.2.2.1,hym.2.2.2⟩
   have hq:=hlen (mixT g (wT a.l b.l s bi bj) a.l.length b.l.length (i+1) (j+1))
   generalize mixT g (wT a.l b.l s bi bj) a.l.length b.l.length (i+1) (j+1)=f at *
   have c1:=pC_t (a:=a) (b:=b) (s:=s) (f:=f) (i:=i+1) (j:=j) (by omega) (by omega)
   have c2:=pC_t (a:=a) (b:=b) (s:=s) (f:=f) (i:=i) (j:=j+1) (by omega) (by omega)
   have c3:=pC_t (a:=a) (b:=b) (s:=s) (f:=f) (i:=i+1) (j:=j+1) (by omega) (by omega)
   have ov:∀ v,over (pC a b s f) (0+3+i * 41+j * 1) [.int .i64 v]=pC a b s (upT f i j v):=fun v=>by rw [Nat.zero_add,Nat.mul_one];exact pC_st (by omega) (by omega)
   rw [g1] at c1
   rw [g2] at c2
   rw [g3] at c3
   have fx:∀ p q:Nat,0+3+p * 41+q * 1=3+p * 41+q:=fun p q=>by omega
   rw [← fx] at c1 c2 c3
   have hsh:=share_fun (f:=f) ha hb hs hx hy
   have hln:i * 41+j<1681:=by omega
   have hst:∀ v,(pC a b s f).length=1684∧0+3+i * 41+j * 1+1≤(pC a b s f).length:=fun _=>by rw [pC_len];omega
   have hSf:=fun v r=>hS f (upT f i j v) r
   generalize wT a.l b.l s bi bj (i+1) j=A at *
   generalize wT a.l b.l s bi bj i (j+1)=B' at *
   generalize wT a.l b.l s bi bj (i+1) (j+1)=C at *
   generalize shr s x y=S at *
   repeat' (first
 | (conv=>whnf)
   first
   | refine Bnd.eq hbi ?_
   | refine Bnd.eq hbj ?_
   | refine Idx.nat (Nat.le_of_lt_succ hI1) ?_
   | refine Idx.nat (Nat.le_of_lt_succ hJ1) ?_
   | refine Idx.nat (Nat.le_of_lt_succ hI0) ?_
   | refine Idx.nat (Nat.le_of_lt_succ hJ0) ?_
   | refine Br.t ?_
   | refine Br.f ?_
   | (refine Br.decT ?_ ?_;(focus first | assumption | omega))
   | (refine Br.decF ?_ ?_;(focus first | assumption | omega))
   | refine Br.dec (fun _ => ?_) (fun _ => ?_)
   | refine Br.not ?_
   | refine Br.and ?_
   | (refine Bnd.i64 ?_ ?_ ?_;(focus omega);(focus omega))
   | refine fLen.mk ?_
   | refine fB.i0 ?_
   | refine fB.as (hSf _ _) ?_
   | refine fB.mk ?_
   | refine Get.mk _ (hB _ _) ?_
   | refine Get.mk _ (hN _ _) ?_
   | refine Req.mk pC_len ?_
   | refine Get.mk _ c1 ?_
   | refine Get.mk _ c2 ?_
   | refine Get.mk _ c3 ?_
   | refine call_fun rfl (hV _ _ _ _) hsh (.inr rfl) ?_
   | refine fVg' (ov _) ?_
   | refine Bnd.any ?_
   | refine Get.mk _ rfl ?_
   | (refine Req.mk ?_ ?_;(focus first | rfl | decide | exact ⟨rfl,rfl⟩ | exact ⟨rfl,by decide⟩ | exact (fun _=>rfl) | exact (fun h=>nomatch h) | (simp;done) | omega | (simp [big];done) | exact le_big (by omega) | exact lt_big (by omega))))
   all_goals try (exfalso;omega)
   all_goals obtain ⟨hT⟩:=hT
   all_goals refine NextP.mk j (by omega) (by omega) ?_
   all_goals rw [← hset,hT]
   all_goals first
    | (rw [if_pos (by omega)];exact norm_same (by simp only [List.length_append,hL,List.length_cons,List.length_nil]))
    | (rw [if_neg (by omega)];exact norm_same (by simp only [List.length_append,hL,List.length_cons,List.length_nil]))
theorem fill_call {a b:Sh} {s bi bj:Int} {g:Nat→Nat→Int} {q0 q1 q2:B} {K:V→List B→Prop} (ha:shOk a.l) (hb:shOk b.l) (hs:0≤s∧s≤200000) (hg:∀ i j,a.l.length≤i∨b.l.length≤j→g i j=0) (hq:∀ n,4≤n→hbelow n [q0,q1,q2]=true)
  (hk:K (.int .i64 (mixT g (wT a.l b.l s bi bj) a.l.length b.l.length 0 b.l.length 0 0)) [q0,q1,q2,pB a b s (mixT g (wT a.l b.l s bi bj) a.l.length b.l.length 0 b.l.length)]):CallP FB md 0 (.fn 46 []) [.ref 3 1684 0,.agg [.int .i64 bi,.int .i64 bj]] [q0,q1,q2,pB a b s g] K :=
 fill_gen (p:=3) ha hb hs hg (by have:=hbelow_snoc (c:=pB a b s g) (hq 4 (Nat.le_refl _)) (pB_blo 4);exact this) rfl hk
end Go.Dr.T
namespace Go.Dr.T
def zP:List V:=[.nilsl,.nilsl]++List.replicate 1682 (.int .i64 0)
def c25z:Fc:=⟨30,3,[.tmp 6,.tmp 7],.seq (.reg false 2 [⟨some 3,none,0,.bx 0 (.t 0)⟩,⟨some 4,none,0,.bx 1 (.t 1)⟩,⟨some 6,none,0,.mv (.c .nilp)⟩,⟨some 7,none,4,.mv (.c (.int .i64 0))⟩]) (.seq (.seq (.reg false 1 [⟨some 10,none,0,.ld true 3 (.t 3)⟩,⟨some 11,none,0,.ld true 3 (.t 4)⟩,⟨some 12,none,3,.bl 0 3 2 [.str [],.nilsl,.int .i64 0] [(0,3,.t 10),(3,3,.t 11)]⟩,⟨some 13,none,7,.call (.c (.fn 45 [])) [.t 12]⟩,⟨some 8,none,15,.mv (.t 13)⟩]) (.seq (.reg false 0 [⟨some 14,none,0,.mv (.t 8)⟩,⟨some 15,none,1,.bo .neq (.t 14) (.c (.int .i64 0))⟩]) (.cond (.t 15) (.seq (.reg false 0 [⟨some 16,none,0,.mv (.t 8)⟩,⟨some 6,none,0,.mv (.c .nilp)⟩,⟨some 7,none,3,.mv (.t 16)⟩]) .ret) .skip))) (.seq (.seq (.reg false 0 [⟨some 17,none,0,.mv (.t 2)⟩,⟨some 18,none,1,.call (.c (.fn 27 [])) [.t 17,.c (.int .i64 0),.c (.int .i64 200000)]⟩]) (.cond (.t 18) (.seq (.reg false 0 [⟨some 6,none,0,.mv (.c .nilp)⟩,⟨some 7,none,1,.mv (.c (.int .i64 7))⟩]) .ret) .skip)) (.seq (.reg false 1 [⟨some 19,none,0,.fa 1 (.t 3)⟩,⟨some 20,none,1,.ld false 1 (.t 19)⟩,⟨some 21,none,0,.fa 1 (.t 4)⟩,⟨some 22,none,4,.ld false 1 (.t 21)⟩,⟨some 23,none,0,.mv (.t 2)⟩,⟨some 24,none,31,.bd zP [(0,1,.t 20),(1,1,.t 22),(2,1,.t 23)]⟩,⟨some 25,none,63,.bx 0 (.t 24)⟩,⟨some 9,none,127,.mv (.t 25)⟩]) (.seq (.reg false 0 [⟨some 26,none,0,.mv (.t 9)⟩,⟨some 27,none,0,.bd [.int .i64 0,.int .i64 0] [(0,1,.c (.int .i64 (-1)))]⟩,⟨some 28,none,3,.call (.c (.fn 46 [])) [.t 26,.t 27]⟩]) (.seq (.reg false 0 [⟨some 29,none,0,.mv (.t 9)⟩,⟨some 6,none,1,.mv (.t 29)⟩,⟨some 7,none,3,.mv (.c (.int .i64 0))⟩]) .ret))))),none⟩
theorem c25_eq:FB 25=some c25z:=rfl
def El.sh (x:El):Sh:=⟨x.c,x.l⟩
def zT:Nat→Nat→Int:=fun _ _=>0
theorem tb_zero:ofInts (tb zT)=List.replicate 1681 (.int .i64 0):=by
 have key:∀ (n:Nat) (c:V),(List.range n).map (fun _=>c)=List.replicate n c:=fun n c=>by rw [List.map_const'];simp
 unfold tb zT ofInts
 rw [List.map_map]
 exact key 1681 _
theorem fills_zP {tm:List V} {a b:Sh} {s:Int} (h1:(O.t 20).ev tm=a.v) (h2:(O.t 22).ev tm=b.v) (h3:(O.t 23).ev tm = .int .i64 s):fills tm zP [(0,1,.t 20),(1,1,.t 22),(2,1,.t 23)]=some (pC a b s zT):=by
 have e:zP = .nilsl :: .nilsl :: .int .i64 0 :: ofInts (tb zT):=by rw [tb_zero];rfl
 rw [e,pC_eq]
 have hl:(ofInts (tb zT)).length=1681:=by simp [ofInts,tb_len]
 generalize ofInts (tb zT)=T at *
 unfold Sh.v at *
 simp only [fills,h1,h2,h3,V.cells,over,List.length_cons,List.length_nil,hl]
 rfl
attribute [irreducible] zP
theorem fC.mk {l:List V} {K:List V→Prop} (h:K l):fC l K:=fC_eq.2 h
theorem fLv.pC {a b:Sh} {s:Int} {f:Nat→Nat→Int} {K:Nat→Prop} (h:K 1684):fLv (pC a b s f) 0 K:=fLv_eq.2 (by rw [pC_len];exact h)
theorem pC_ones {a b:Sh} {s:Int} {f:Nat→Nat→Int}:ones (pC a b s f)=true:=by
 rw [pC_eq]
 have key:∀ l:List Int,ones (ofInts l)=true:=by
  intro l
  induction l with
  | nil=>rfl
  | cons x l ih=>simp only [ofInts,List.map_cons,ones,Bool.and_eq_true] at ih ⊢; exact ⟨rfl,ih⟩
 simp only [ones,Bool.and_eq_true]
 exact ⟨rfl,rfl,rfl,key _⟩
def openT (x y:El) (s:Int):Nat→Nat→Int:=mixT zT (wT x.l y.l s (-1) 0) x.l.length y.l.length 0 y.l.length
def openE (x y:El) (s:Int):Int:=if ckd [x,y]≠0 then ckd [x,y] else if outB s 0 200000 then 7 else 0
def openV (x y:El) (s:Int):V:=if openE x y s≠0 then .tup [.nilp,.int .i64 (openE x y s)] else .tup [.rp (pC x.sh y.sh s (openT x y s)) 0,.int .i64 0]
theorem shOk_of {x:El} (h:x.e=0):shOk x.l:=by
 obtain ⟨_,_,_,h1,h2⟩:=ck_good h
 refine ⟨h1,fun p hp => ?_⟩
 obtain ⟨i,hi⟩:=List.getElem?_of_mem hp
 obtain ⟨a,b,c,d,_⟩:=h2 i p hi
 exact ⟨a,b,c,d⟩
theorem open_good {x y:El} {s:Int} (h:openE x y s=0):shOk x.l∧shOk y.l∧0≤s∧s≤200000:=by
 unfold openE at h
 split at h
 ·rename_i h1;exact absurd h h1
 ·rename_i h1
  have h1:ckd [x,y]=0:=Classical.not_not.1 h1
  split at h
  ·cases h
  ·rename_i h2
   simp only [outB,Bool.or_eq_true,decide_eq_true_eq,not_or] at h2
   exact ⟨shOk_of (ckd_good h1 x (by simp)),shOk_of (ckd_good h1 y (by simp)),by omega,by omega⟩
theorem wG_bxP {base d k n:Nat} {tm:List V} {h:List B} {a b:Sh} {s:Int} {f:Nat→Nat→Int} {K:List V→List B→Fp→Prop} (hv:(O.t n).ev tm = .agg (pC a b s f)) (hb:bget h (base+k)=some .unborn)
  (hk:fB (bset h (base+k) (.blk (pC a b s f) false)) fun h' => fV (tset tm d (.ref (base+k) 1684 0)) fun tm' => K tm' h' (fpS md base tm (.bx k (.t n)))):wG FB md 0 base tm h (some d) none (.bx k (.t n)) K:=by
 show fC ((O.t n).ev tm).cells _
 rw [hv]
 refine fC.mk ?_
 refine fLv.pC ?_
 refine Req.mk pC_ones ?_
 refine ⟨_,hb,?_⟩
 exact hk
def elA' (x:El):V:=.agg x.v
set_option maxRecDepth 100000 in
set_option maxHeartbeats 20000000 in
theorem open_ok {x y:El} {s:Int}:Fun FB md 25 [elA' x,elA' y,.int .i64 s] (openV x y s):=by
 have hck:=checked_ok (c:=true) (l:=[x,y]) (by simp)
 have hou:=out_ok (n:=s) (lo:=0) (hi:=200000)
 unfold openV
 by_cases he:ckd [x,y]=0
 rotate_left
 ·have e1:openE x y s=ckd [x,y]:=by unfold openE;rw [if_pos he]
  rw [e1,if_pos he]
  generalize ckd [x,y]=e at *
  refine fun_of c25_eq rfl ?_
  repeat' (first
 | (conv=>whnf)
   first
   | (refine Br.decF ?_ ?_;(focus first | assumption | omega))
   | refine Br.not ?_
   | refine call_fun rfl rfl hck (.inl rfl) ?_
   | refine Get.mk _ rfl ?_
   | refine Leaves.of ?_
   | refine Vw.int ?_
   | refine Vw.tup ?_
   | refine VwL.cons ?_ ?_
   | refine VwL.nil
   | (refine Req.mk ?_ ?_;(focus first | rfl | decide | exact ⟨rfl,rfl⟩ | exact ⟨rfl,by decide⟩ | exact (fun _=>rfl) | exact (fun h=>nomatch h) | (simp;done) | omega | (simp [big];done) | exact le_big (by omega) | exact lt_big (by omega))))
  all_goals first | rfl | exact ⟨rfl⟩ | (exfalso;omega)
 rw [he] at hck
 cases hs:outB s 0 200000 with
 | true =>
  have e1:openE x y s=7:=by unfold openE;rw [if_neg (fun h=>h he),hs];rfl
  rw [hs] at hou
  rw [e1,if_pos (by decide)]
  refine fun_of c25_eq rfl ?_
  repeat' (first
 | (conv=>whnf)
   first
   | refine Br.t ?_
   | refine Br.f ?_
   | refine call_fun rfl rfl hck (.inl rfl) ?_
   | refine call_fun rfl rfl hou (.inl rfl) ?_
   | refine Get.mk _ rfl ?_
   | refine Leaves.of ?_
   | refine Vw.int ?_
   | refine Vw.tup ?_
   | refine VwL.cons ?_ ?_
   | refine VwL.nil
   | (refine Req.mk ?_ ?_;(focus first | rfl | decide | exact ⟨rfl,rfl⟩ | exact ⟨rfl,by decide⟩ | exact (fun _=>rfl) | exact (fun h=>nomatch h) | (simp;done) | omega | (simp [big];done) | exact le_big (by omega) | exact lt_big (by omega))))
  all_goals first | rfl | exact ⟨rfl⟩ | (exfalso;omega)
 | false =>
  have e1:openE x y s=0:=by unfold openE;rw [if_neg (fun h=>h he),hs];rfl
  rw [hs] at hou
  obtain ⟨ha,hb,hs1⟩:=open_good e1
  rw [e1,if_neg (by decide)]
  have hvw:∀ h,bget h 3=some (pB x.sh y.sh s (openT x y s))→Vw h depth (.tup [.ref 3 1684 0,.int .i64 0]) (.tup [.rp (pC x.sh y.sh s (openT x y s)) 0,.int .i64 0]):=fun h hb =>
   Vw.tup (d:=63) (VwL.cons (Vw.ref (d:=62) hb pC_len (part_all pC_len) ⟨view_pC⟩) (VwL.cons (Vw.int rfl) VwL.nil))
  refine fun_of c25_eq rfl ?_
  repeat' (first
 | (conv=>whnf)
   first
   | refine Br.f ?_
   | refine call_fun rfl rfl hck (.inl rfl) ?_
   | refine call_fun rfl rfl hou (.inl rfl) ?_
   | refine Get.mk _ (fills_zP (a:=x.sh) (b:=y.sh) (s:=s) rfl rfl rfl) ?_
   | refine Get.mk _ rfl ?_
   | (refine Req.mk ?_ ?_;(focus first | rfl | decide | exact ⟨rfl,rfl⟩ | exact ⟨rfl,by decide⟩ | exact (fun _=>rfl) | exact (fun h=>nomatch h) | (simp;done) | omega | (simp [big];done) | exact le_big (by omega) | exact lt_big (by omega))))
  all_goals refine fC.mk ?_
  simp only [wPut]
  refine fW.mk ?_
  refine fV.mk ?_
  simp only [wOps]
  refine wG_bxP (a:=x.sh) (b:=y.sh) (s:=s) (f:=zT) rfl rfl ?_
  refine fB.mk ?_
  refine fV.mk ?_
  simp only [tset,bset]
  repeat' (first
 | (conv=>whnf)
   first
   | refine hvw _ rfl
   | refine fill_call (a:=x.sh) (b:=y.sh) (g:=zT) ha hb hs1 (fun _ _ _=>rfl) (fun _ _=>rfl) ?_
   | refine Get.mk _ rfl ?_
   | refine Leaves.of ?_)
end Go.Dr.T
