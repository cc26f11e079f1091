/- Chapter 06: Best, walked. -/
import Derived.Test.YtcjhgcjmomildaaGreatDoorG15
import Derived.Test.YtcjhgcjmomildaaGreatDoorG8
import Derived.Test.YtcjhgcjmomildaaGreatDoorG7
import Derived.Test.YtcjhgcjmomildaaGreatDoorG6
import Derived.Test.YtcjhgcjmomildaaGreatDoorG10
namespace Go.Dr.T
theorem goY_all {σ:Type} {nx:σ→Nat × Nat→σ}:∀ {l:List (Nat × Nat)} {s:σ},goY (fun _ _=>true) nx s l=l.foldl nx s
 | [],_=>rfl
 | p :: l,s=>by unfold goY;rw [if_pos rfl];exact goY_all (l:=l)
theorem fold_rng {T:Nat→Nat→Int} (h:∀ i j,0≤T i j∧T i j≤1000000):∀ {l:List (Nat × Nat)} {c:Int},0≤c∧c≤1000000→0≤l.foldl (fun c p=>min 1000000 (c+T (p.1+1) (p.2+1))) c∧l.foldl (fun c p=>min 1000000 (c+T (p.1+1) (p.2+1))) c≤1000000
 | [],_,hc=>hc
 | p :: l,c,hc=>by
  have:=h (p.1+1) (p.2+1)
  exact fold_rng h (l:=l) (c:=min 1000000 (c+T (p.1+1) (p.2+1))) (by omega)
structure BH (x y:El) (T:Nat→Nat→Int) (h:List B):Prop where
 cl:Cl h
 h0:bget h 0=some (elB x)
 h1:bget h 1=some (elB y)
 h2:bget h 2=some (.blk (tC T) false)
structure BS where
 k:Nat
 p:Nat
 h:List B
 T:Nat→Nat→Int
structure BOk (x y:El) (s:Int) (a:BS):Prop where
 le:a.k≤x.l.length+1
 bh:BH x y a.T a.h
 bx:bget a.h (a.p+3)=some (.blk [.int .i64 ((a.k:Nat) - 1)] false)
 eq:cAll (shA x.l y.l s) (openT x y s) x.l.length y.l.length (x.l.length+1) zT=cAll (shA x.l y.l s) (openT x y s) x.l.length y.l.length a.k a.T
 rg:∀ i j,0≤a.T i j∧a.T i j≤1000000
 zr:∀ i j,i<a.k→a.T i j=0
structure IOk2 (x y:El) (s:Int) (i p L:Nat) (T:Nat→Nat→Int) (a:BS):Prop where
 le:a.k≤y.l.length+1
 ln:L≤a.h.length
 bh:BH x y a.T a.h
 bi:bget a.h (p+3)=some (.blk [.int .i64 (i:Nat)] false)
 bx:bget a.h (a.p+3)=some (.blk [.int .i64 ((a.k:Nat) - 1)] false)
 eq:cRow (shA x.l y.l s) (openT x y s) x.l.length y.l.length i (y.l.length+1) T=cRow (shA x.l y.l s) (openT x y s) x.l.length y.l.length i a.k a.T
 rg:∀ i j,0≤a.T i j∧a.T i j≤1000000
 zr:∀ i' j,i' < i∨i' = i∧j<a.k→a.T i' j=0
set_option maxRecDepth 100000 in
set_option maxHeartbeats 20000000 in
theorem best_ok {x y:El} {s:Int}:Fun FB md 8 [elA' x,elA' y,.int .i64 s] (bestV2 x y s):=by
 have ho:=open_ok (x:=x) (y:=y) (s:=s)
 unfold openV at ho
 unfold bestV2
 by_cases he:openE x y s=0
 rotate_left
 ·rw [if_pos he] at ho ⊢
  generalize openE x y s=e at *
  refine fun_of c8_eq rfl ?_
  repeat' (first
 | (conv=>whnf)
   first
   | (refine Br.decF ?_ ?_;(focus first | assumption | omega))
   | refine Br.not ?_
   | refine call_fun rfl rfl ho (.inl rfl) ?_
   | refine Get.mk _ rfl ?_
   | refine Leaves.of ?_
   | refine Vw.int ?_
   | refine Vw.tup ?_
   | refine VwL.cons ?_ ?_
   | refine VwL.nil
   | (refine Req.mk ?_ ?_;(focus first | rfl | decide | exact ⟨rfl,rfl⟩ | exact ⟨rfl,by decide⟩ | exact (fun _=>rfl) | exact (fun h=>nomatch h) | (simp;done) | omega | (simp [big];done) | exact le_big (by omega) | exact lt_big (by omega))))
  all_goals first | rfl | (exfalso;omega)
 obtain ⟨ha,hb,hs⟩:=open_good he
 rw [if_neg (fun h=>h he)] at ho ⊢
 refine fun_of c8_eq rfl ?_
 repeat' (first
 | (conv=>whnf)
   first
   | refine Br.f ?_
   | refine call_fun rfl rfl ho (.inl rfl) ?_
   | refine Get.mk _ rfl ?_
   | (refine Req.mk ?_ ?_;(focus first | rfl | decide | exact ⟨rfl,rfl⟩ | exact ⟨rfl,by decide⟩ | exact (fun _=>rfl) | exact (fun h=>nomatch h) | (simp;done) | omega | (simp [big];done) | exact le_big (by omega) | exact lt_big (by omega))))
 have hal:=ha.1
 have hbl:=hb.1
 have hlz:∀ T,(tC T).length=zC.length:=fun T=>by rw [tC_len,zC_len]
 have hc0:Cl [elB x,elB y,.blk zC false,.blk [.int .i64 (x.l.length:Nat)] false]:=by
  rw [zC_eq]
  exact ((show Cl [elB x,elB y] from rfl).app (b:=.blk (tC zT) false) tC_blk).app rfl
 refine LoopP.by (BOk x y s) (fun a=>[(11,.ref (a.p+3) 1 0)]) (fun a=>a.h) (fun a=>a.k) ⟨x.l.length+1,0,[elB x,elB y,.blk zC false,.blk [.int .i64 (x.l.length:Nat)] false],zT⟩ ⟨Nat.le_refl _,⟨hc0,rfl,rfl,by rw [← zC_eq];rfl⟩,by show some _=some _;congr 4;(try dsimp only);omega,rfl,fun _ _=>⟨by show (0:Int)≤0;decide,by show (0:Int)≤1000000;decide⟩,fun _ _ _=>rfl⟩ rfl ?_
 rintro ⟨k,p,h,T⟩ ⟨w1,⟨gc,g0,g1,g2⟩,w2,w3,w4,w5⟩
 dsimp only at w1 gc g0 g1 g2 w2 w3 w4 w5 ⊢
 cases k with
 | zero =>
  have e0:cAll (shA x.l y.l s) (openT x y s) x.l.length y.l.length (x.l.length+1) zT=T:=w3
  rw [e0]
  have c0:=pC_t (a:=x.sh) (b:=y.sh) (s:=s) (f:=openT x y s) (i:=0) (j:=0) (by decide) (by decide)
  have c1:=tC_get (f:=T) (i:=0) (j:=0) (by decide) (by decide)
  repeat' (first
 | (conv=>whnf)
   first
   | refine Br.f ?_
   | refine fLen.mk ?_
   | refine fB.i0 ?_
   | refine fB.mk ?_
   | refine Get.mk _ w2 ?_
   | refine Get.mk _ g2 ?_
   | refine Req.mk (hlz T) ?_
   | refine Get.mk _ c0 ?_
   | refine Get.mk _ c1 ?_
   | (refine Idx.int ?_ ?_ ?_;(focus omega);(focus omega))
   | refine Get.mk _ rfl ?_
   | refine Leaves.of ?_
   | refine Vw.int ?_
   | refine Vw.tup ?_
   | refine VwL.cons ?_ ?_
   | refine VwL.nil
   | (refine Req.mk ?_ ?_;(focus first | rfl | decide | exact ⟨rfl,rfl⟩ | exact ⟨rfl,by decide⟩ | exact (fun _=>rfl) | exact (fun h=>nomatch h) | (simp;done) | omega | (simp [big];done) | exact le_big (by omega) | exact lt_big (by omega))))
  all_goals first | rfl | (exfalso;omega;done)
 | succ i =>
  have e5:((i+1:Nat):Int) - 1=(i:Nat):=by omega
  rw [e5] at w2
  have hp3:=bget_lt w2
  obtain ⟨q0,hq0⟩:∃ q0,h.length=q0+3:=⟨h.length - 3,by omega⟩
  repeat' (first
 | (conv=>whnf)
   first
   | refine Br.t ?_
   | refine fLen.mk ?_
   | refine fB.i0 ?_
   | refine fB.i1 ?_
   | refine Get.mk _ w2 ?_
   | refine Get.mk _ (bget_app g1) ?_
   | refine Get.newj 0 rfl rfl ?_
   | refine fB.newj 0 rfl ?_
   | refine fB.mk ?_
   | refine Get.mk _ rfl ?_
   | (refine Req.mk ?_ ?_;(focus first | rfl | decide | exact ⟨rfl,rfl⟩ | exact ⟨rfl,by decide⟩ | exact (fun _=>rfl) | exact (fun h=>nomatch h) | (simp;done) | omega | (simp [big];done) | exact le_big (by omega) | exact lt_big (by omega))))
  all_goals try (exfalso;omega)
  refine LoopP.by (IOk2 x y s i p (h.length+1) T) (fun a=>[(12,.ref (a.p+3) 1 0)]) (fun a=>a.h) (fun a=>a.k) ⟨y.l.length+1,q0,h++[.blk [.int .i64 (y.l.length:Nat)] false],T⟩ ⟨Nat.le_refl _,by (try dsimp only);simp,⟨gc.app rfl,bget_app g0,bget_app g1,bget_app g2⟩,bget_app w2,(by have:=bget_new (h:=h) (g:=[.blk [.int .i64 (y.l.length:Nat)] false]) (i:=0);rw [Nat.add_zero,hq0] at this;rw [this];show some _=some _;congr 4;(try dsimp only);omega),rfl,w4,fun i' j' h' => w5 i' j' (by show i' < i+1;omega)⟩ (by rw [← hq0];rfl) ?_
  rintro ⟨l,q,h2,T2⟩ ⟨v1,v2,⟨kc,k0,k1,k2⟩,v3,v4,v5,v6,v7⟩
  dsimp only at v1 v2 kc k0 k1 k2 v3 v4 v5 v6 v7 ⊢
  cases l with
  | zero =>
   repeat' (first
 | (conv=>whnf)
   first
   | refine Br.f ?_
   | (refine Bnd.i64 ?_ ?_ ?_;(focus omega);(focus omega))
   | refine fLen.mk ?_
   | refine fB.i0 ?_
   | refine fB.i1 ?_
   | refine Get.mk _ v4 ?_
   | refine Get.mk _ v3 ?_
   | refine Get.newj 0 rfl rfl ?_
   | refine fB.newj 0 rfl ?_
   | refine fB.mk ?_
   | refine Get.mk _ rfl ?_
   | (refine Req.mk ?_ ?_;(focus first | rfl | decide | exact ⟨rfl,rfl⟩ | exact ⟨rfl,by decide⟩ | exact (fun _=>rfl) | exact (fun h=>nomatch h) | (simp;done) | omega | (simp [big];done) | exact le_big (by omega) | exact lt_big (by omega))))
   all_goals try (exfalso;omega)
   obtain ⟨q2,hq2⟩:∃ q2,h2.length=q2+3:=⟨h2.length - 3,by omega⟩
   have hnew:bget (h2++[.blk [.int .i64 ((i:Int) - 1)] false]) (q2+3)=some (.blk [.int .i64 ((i:Nat) - 1)] false):=by rw [← hq2];exact bget_new (i:=0)
   have hll:4≤(h2++[B.blk [.int .i64 ((i:Int) - 1)] false]).length:=by rw [List.length_append];simp;omega
   have e3:cAll (shA x.l y.l s) (openT x y s) x.l.length y.l.length (i+1) T=cAll (shA x.l y.l s) (openT x y s) x.l.length y.l.length i T2:=by
    show cAll _ _ _ _ i (cRow _ _ _ _ i (y.l.length+1) T)=_
    rw [v5];rfl
   refine NextP.of (fun N=>(⟨i,q2,N,T2⟩:BS)) ⟨by (try dsimp only);omega,⟨norm_cl hll (kc.app rfl),norm_keep (i:=3) hll (fun k hk=>of_decide_eq_true hk) (bget_app k0),norm_keep (i:=4) hll (fun k hk=>of_decide_eq_true hk) (bget_app k1),norm_keep (i:=10) hll (fun k hk=>of_decide_eq_true hk) (bget_app k2)⟩,norm_keep (i:=11) hll (fun k hk=>by have h9:h2.length<k:=of_decide_eq_true hk;show q2+3<k;omega) hnew,w3.trans e3,v6,fun i' j' h' => v7 i' j' (.inl h')⟩ (Nat.lt_succ_self _) ?_
   rw [← hq2];rfl
  | succ j =>
   have e6:((j+1:Nat):Int) - 1=(j:Nat):=by omega
   rw [e6] at v4
   have hi41:i<41:=by omega
   have hj41:j<41:=by omega
   have cij:=pC_t (a:=x.sh) (b:=y.sh) (s:=s) (f:=openT x y s) (i:=i) (j:=j) hi41 hj41
   have fx:∀ p q:Nat,0+3+p * 41+q * 1=3+p * 41+q:=fun p q=>by omega
   rw [← fx] at cij
   have hq2:=bget_lt v4
   by_cases hz:openT x y s i j=0
   ·have ts:over (tC T2) (0+i * 41+j * 1) [.int .i64 1]=tC (upT T2 i j (cvT (shA x.l y.l s) (openT x y s) x.l.length y.l.length T2 i j)):=by unfold cvT;rw [if_pos hz,tC_set hi41 hj41]
    have hcv:0≤cvT (shA x.l y.l s) (openT x y s) x.l.length y.l.length T2 i j∧cvT (shA x.l y.l s) (openT x y s) x.l.length y.l.length T2 i j≤1000000:=by unfold cvT;rw [if_pos hz];decide
    have hvg:∀ i' j', 0≤upT T2 i j (cvT (shA x.l y.l s) (openT x y s) x.l.length y.l.length T2 i j) i' j' ∧ upT T2 i j (cvT (shA x.l y.l s) (openT x y s) x.l.length y.l.length T2 i j) i' j' ≤ 1000000:=fun i' j' => by
     unfold upT
     split
     ·exact hcv
     ·exact v6 _ _
    have hzr:∀ i' j', i' < i∨i' = i∧j' < j→upT T2 i j (cvT (shA x.l y.l s) (openT x y s) x.l.length y.l.length T2 i j) i' j' = 0:=fun i' j' h' => by
     unfold upT
     rw [if_neg (by omega)]
     exact v7 i' j' (by omega)
    have hl2:(tC T2).length=zC.length∧0+i * 41+j * 1+1≤(tC T2).length:=⟨hlz T2,by rw [tC_len];omega⟩
    repeat' (first
 | (conv=>whnf)
   first
   | refine Idx.nat (Nat.le_of_lt_succ hi41) ?_
   | refine Idx.nat (Nat.le_of_lt_succ hj41) ?_
   | refine Br.t ?_
   | (refine Br.decT ?_ ?_;(focus first | assumption | omega))
   | refine fLen.mk ?_
   | refine fB.i0 ?_
   | refine fB.gen (bget_lt k2) kc tC_blk ?_
   | refine fB.mk ?_
   | refine Get.mk _ v3 ?_
   | refine Get.mk _ v4 ?_
   | refine Get.mk _ k2 ?_
   | refine Get.mk _ cij ?_
   | refine Req.mk hl2 ?_
   | refine fV.as ts ?_
   | refine Get.mk _ rfl ?_
   | (refine Req.mk ?_ ?_;(focus first | rfl | decide | exact ⟨rfl,rfl⟩ | exact ⟨rfl,by decide⟩ | exact (fun _=>rfl) | exact (fun h=>nomatch h) | (simp;done) | omega | (simp [big];done) | exact le_big (by omega) | exact lt_big (by omega))))
    all_goals try (exfalso;omega;done)
    intro h3 h3c e1 e2 e3
    have r3:bget h3 (p+3)=some (.blk [.int .i64 (i:Nat)] false):=(e3 _ (by omega)).trans v3
    have r4:bget h3 (q+3)=some (.blk [.int .i64 (j:Nat)] false):=(e3 _ (by omega)).trans v4
    have s0:bget h3 0=some (elB x):=(e3 0 (by decide)).trans k0
    have s1:bget h3 1=some (elB y):=(e3 1 (by decide)).trans k1
    repeat' (first
 | (conv=>whnf)
   first
   | (refine Bnd.i64 ?_ ?_ ?_;(focus omega);(focus omega))
   | refine fLen.mk ?_
   | refine fB.i0 ?_
   | refine fB.i1 ?_
   | refine Get.mk _ r4 ?_
   | refine Get.newj 0 rfl rfl ?_
   | refine fB.newj 0 rfl ?_
   | refine Get.mk _ rfl ?_
   | (refine Req.mk ?_ ?_;(focus first | rfl | decide | exact ⟨rfl,rfl⟩ | exact ⟨rfl,by decide⟩ | exact (fun _=>rfl) | exact (fun h=>nomatch h) | (simp;done) | omega | (simp [big];done) | exact le_big (by omega) | exact lt_big (by omega))))
    all_goals try (exfalso;omega;done)
    obtain ⟨q2,hq3⟩:∃ q2,h3.length=q2+3:=⟨h3.length - 3,by omega⟩
    have hnew:bget (h3++[.blk [.int .i64 ((j:Int) - 1)] false]) (q2+3)=some (.blk [.int .i64 ((j:Nat) - 1)] false):=by rw [← hq3];exact bget_new (i:=0)
    have hll:∀ b:B,(h++[b]).length≤(h3++[B.blk [.int .i64 ((j:Int) - 1)] false]).length:=fun b=>by rw [List.length_append,List.length_append];simp;omega
    have hlh:∀ b:B,h.length+1≤(h++[b]).length:=fun b=>by simp
    refine NextP.of (fun N=>(⟨j,q2,N,upT T2 i j (cvT (shA x.l y.l s) (openT x y s) x.l.length y.l.length T2 i j)⟩:BS)) ⟨by (try dsimp only);omega,Nat.le_trans (hlh _) (norm_len (hll _)),⟨norm_cl (hll _) (h3c.app rfl),norm_keep (i:=3) (hll _) (fun k hk=>of_decide_eq_true hk) (bget_app s0),norm_keep (i:=4) (hll _) (fun k hk=>of_decide_eq_true hk) (bget_app s1),norm_keep (i:=10) (hll _) (fun k hk=>of_decide_eq_true hk) (bget_app e2)⟩,norm_keep (i:=11) (hll _) (fun k hk=>of_decide_eq_true hk) (bget_app r3),norm_keep (i:=12) (hll _) (fun k hk=>by have h9:h3.length<k:=of_decide_eq_true hk;show q2+3<k;omega) hnew,v5,hvg,hzr⟩ (Nat.lt_succ_self _) ?_
    rw [← hq3];rfl
   ·have hbg:=begins_ok (a:=x.sh) (b:=y.sh) (s:=s) (i:=(i:Nat)) (j:=(j:Nat)) (f:=openT x y s)
    have hcv:0≤cvT (shA x.l y.l s) (openT x y s) x.l.length y.l.length T2 i j∧cvT (shA x.l y.l s) (openT x y s) x.l.length y.l.length T2 i j≤1000000:=by
     unfold cvT;rw [if_neg hz]
     exact fold_rng v6 ⟨by decide,by decide⟩
    have hvg:∀ i' j', 0≤upT T2 i j (cvT (shA x.l y.l s) (openT x y s) x.l.length y.l.length T2 i j) i' j' ∧ upT T2 i j (cvT (shA x.l y.l s) (openT x y s) x.l.length y.l.length T2 i j) i' j' ≤ 1000000:=fun i' j' => by
     unfold upT
     split
     ·exact hcv
     ·exact v6 _ _
    have hzr:∀ i' j', i' < i∨i' = i∧j' < j→upT T2 i j (cvT (shA x.l y.l s) (openT x y s) x.l.length y.l.length T2 i j) i' j' = 0:=fun i' j' h' => by
     unfold upT
     rw [if_neg (by omega)]
     exact v7 i' j' (by omega)
    repeat' (first
 | (conv=>whnf)
   first
   | refine Idx.nat (Nat.le_of_lt_succ hi41) ?_
   | refine Idx.nat (Nat.le_of_lt_succ hj41) ?_
   | refine Br.t ?_
   | (refine Br.decF ?_ ?_;(focus first | assumption | omega))
   | refine fLen.mk ?_
   | refine fB.i0 ?_
   | refine fB.mk ?_
   | refine Get.mk _ v3 ?_
   | refine Get.mk _ v4 ?_
   | refine Get.mk _ cij ?_
   | refine call_fun rfl rfl hbg (.inl rfl) ?_
   | refine Get.mk _ rfl ?_
   | (refine Req.mk ?_ ?_;(focus first | rfl | decide | exact ⟨rfl,rfl⟩ | exact ⟨rfl,by decide⟩ | exact (fun _=>rfl) | exact (fun h=>nomatch h) | (simp;done) | omega | (simp [big];done) | exact le_big (by omega) | exact lt_big (by omega))))
    all_goals try (exfalso;omega;done)
    have hT0:upT T2 i j 0=T2:=by
     funext i' j'
     unfold upT
     split
     ·rename_i hc;rw [hc.1,hc.2];exact (v7 i j (by show i<i∨i=i∧j<j+1;omega)).symm
     ·rfl
    refine CallP.heap (h' := bset h2 2 (.blk (tC (upT T2 i j 0)) false)++[_]) (by rw [hT0,bset_same k2]) ?_
    refine begins_call (σ:=Int) (Lh:=h2.length+1) (Bl:=fun c=>bset h2 2 (.blk (tC (upT T2 i j c)) false)++[_]) (ok:=fun _ _=>true) (nx:=fun c p=>min 1000000 (c+T2 (p.1+1) (p.2+1))) (Iv:=fun c=>0≤c∧c≤1000000) (s0:=0) ha hb hs (openT_rng ha hb) (show i≤x.l.length by omega) (show j≤y.l.length by omega) (fun c=>by rw [List.length_append,bset_len];rfl) (by decide) (fun c p hc _ => ?_) (fun c k l K hc hk1 hk2 hl1 hl2 hK => ?_) ?_
    ·have:=v6 (p.1+1) (p.2+1);omega
    ·replace hk2:k<x.l.length:=hk2
     replace hl2:l<y.l.length:=hl2
     have e1:(bset h2 2 (.blk (tC (upT T2 i j c)) false)).length=h2.length:=bset_len ..
     have e2:bget (bset h2 2 (.blk (tC (upT T2 i j c)) false)) 2=some (.blk (tC (upT T2 i j c)) false):=bget_same (bget_lt k2)
     have e3:∀ m,2≠m→bget (bset h2 2 (.blk (tC (upT T2 i j c)) false)) m=bget h2 m:=fun m hm=>bset_other hm
     have e4:∀ b,bset h2 2 b=bset (bset h2 2 (.blk (tC (upT T2 i j c)) false)) 2 b:=fun b=>bset_two.symm
     have ec:Cl (bset h2 2 (.blk (tC (upT T2 i j c)) false)):=kc.set tC_blk
     rw [e4] at hK
     generalize bset h2 2 (.blk (tC (upT T2 i j c)) false)=hh at e1 e2 e3 ec hK ⊢
     obtain ⟨q5,hq5⟩:∃ q5,h2.length=q5+3:=⟨h2.length - 3,by omega⟩
     rw [hq5] at e1 ⊢
     refine call_yld (bget_lop e1) (Nat.zero_le _) rfl ?_
     have hlen:∀ L,(hh++[L]).length=q5+4:=fun L=>by rw [List.length_append,e1];rfl
     have hlop:∀ L b,bget ((hh++[L])++[b]) (q5+3+0)=some L:=fun L b=>bget_app (bget_lop e1)
     have r2:∀ L b,bget ((hh++[L])++[b]) 2=some (.blk (tC (upT T2 i j c)) false):=fun L b=>bget_app (bget_app e2)
     have r3:∀ L b,bget ((hh++[L])++[b]) (p+3)=some (.blk [.int .i64 (i:Nat)] false):=fun L b=>bget_app (bget_app ((e3 _ (by omega)).trans v3))
     have r4:∀ L b,bget ((hh++[L])++[b]) (q+3)=some (.blk [.int .i64 (j:Nat)] false):=fun L b=>bget_app (bget_app ((e3 _ (by omega)).trans v4))
     repeat' (first
 | (conv=>whnf)
   first
   | refine fLen.as (hlen _) ?_
   | refine fB.i1 ?_
   | refine Get.newj 0 (hlen _).symm rfl ?_
   | refine fB.newj 0 (hlen _).symm ?_
   | refine ⟨rfl,?_⟩
   | refine Get.mk _ (hlop _ _) ?_
   | refine fB.lop e1 ?_
   | (refine Req.mk ?_ ?_;(focus first | rfl | decide | exact ⟨rfl,rfl⟩ | exact ⟨rfl,by decide⟩ | exact (fun _=>rfl) | exact (fun h=>nomatch h) | (simp;done) | omega | (simp [big];done) | exact le_big (by omega) | exact lt_big (by omega))))
     all_goals try (exfalso;omega;done)
     have hk41:k+1<41:=by omega
     have hl41:l+1<41:=by omega
     have hkw:IntKind.i64.wrap ((k:Int)+1)=((k+1:Nat):Int):=by rw [wrap_i64 (by omega) (by omega)];omega
     have hlw:IntKind.i64.wrap ((l:Int)+1)=((l+1:Nat):Int):=by rw [wrap_i64 (by omega) (by omega)];omega
     have cc:cellAt (tC (upT T2 i j c)) (0+i * 41+j * 1)=some (.int .i64 c):=by rw [tC_get hi41 hj41];unfold upT;rw [if_pos ⟨rfl,rfl⟩]
     have ck:cellAt (tC (upT T2 i j c)) (0+(k+1) * 41+(l+1) * 1)=some (.int .i64 (T2 (k+1) (l+1))):=by rw [tC_get hk41 hl41];unfold upT;rw [if_neg (by omega)]
     have ht:=v6 (k+1) (l+1)
     have h2lt:2<hh.length:=by rw [e1];omega
     have hl3:(tC (upT T2 i j c)).length=zC.length∧0+i * 41+j * 1+1≤(tC (upT T2 i j c)).length:=⟨hlz _,by rw [tC_len];omega⟩
     have ts:over (tC (upT T2 i j c)) (0+i * 41+j * 1) [.int .i64 (min 1000000 (c+T2 (k+1) (l+1)))]=tC (upT T2 i j (min 1000000 (c+T2 (k+1) (l+1)))):=by
      rw [tC_set hi41 hj41]
      congr 1
      funext i' j'
      unfold upT
      split <;> rfl
     have hlen1:(hh++[B.unborn]).length=q5+3+1:=by rw [List.length_append,e1];rfl
     repeat' (first
 | (conv=>whnf)
   first
   | refine fB.two h2lt ?_
   | refine Bnd.eq hkw ?_
   | refine Bnd.eq hlw ?_
   | refine Idx.nat (Nat.le_of_lt_succ hi41) ?_
   | refine Idx.nat (Nat.le_of_lt_succ hj41) ?_
   | refine Idx.nat (Nat.le_of_lt_succ hk41) ?_
   | refine Idx.nat (Nat.le_of_lt_succ hl41) ?_
   | refine Bnd.eq (e' := min 1000000 (c+T2 (k+1) (l+1))) rfl ?_
   | (refine Bnd.i64 ?_ ?_ ?_;(focus omega);(focus omega))
   | refine fLen.mk ?_
   | refine fB.i0 ?_
   | refine fB.mk ?_
   | refine Get.mk _ (r3 _ _) ?_
   | refine Get.mk _ (r4 _ _) ?_
   | refine Get.mk _ (r2 _ _) ?_
   | refine Get.mk _ cc ?_
   | refine Get.mk _ ck ?_
   | refine Get.newj 0 (hlen _).symm rfl ?_
   | refine Req.mk (hlz _) ?_
   | refine Req.mk hl3 ?_
   | refine fV.as ts ?_
   | refine Get.mk _ rfl ?_
   | (refine Req.mk ?_ ?_;(focus first | rfl | decide | exact ⟨rfl,rfl⟩ | exact ⟨rfl,by decide⟩ | exact (fun _=>rfl) | exact (fun h=>nomatch h) | (simp;done) | omega | (simp [big];done) | exact le_big (by omega) | exact lt_big (by omega))))
     all_goals try (exfalso;omega;done)
     refine end_eq (n:=q5+3) (K:=K) (v:=.bool true) hK ((bset_len ..).trans e1) (hlen _) (ec.set tC_blk) ?_
     have hp5:p+3<q5+3:=by have:=bget_lt v3;omega
     have hq6:q+3<q5+3:=by have:=bget_lt v4;omega
     simp only [B.blo]
     simp [blos,V.blo,hp5,hq6]
     exact ⟨rfl,rfl⟩
    ·have ecv:goY (fun _ _=>true) (fun c p=>min 1000000 (c+T2 (p.1+1) (p.2+1))) 0 (bgs (shA x.sh.l y.sh.l s) (openT x y s) x.sh.l.length y.sh.l.length i j)=cvT (shA x.l y.l s) (openT x y s) x.l.length y.l.length T2 i j:=by
      rw [goY_all];unfold cvT;rw [if_neg hz];rfl
     rw [ecv]
     have e1:(bset h2 2 (.blk (tC (upT T2 i j (cvT (shA x.l y.l s) (openT x y s) x.l.length y.l.length T2 i j))) false)).length=h2.length:=bset_len ..
     have e2:bget (bset h2 2 (.blk (tC (upT T2 i j (cvT (shA x.l y.l s) (openT x y s) x.l.length y.l.length T2 i j))) false)) 2=some (.blk (tC (upT T2 i j (cvT (shA x.l y.l s) (openT x y s) x.l.length y.l.length T2 i j))) false):=bget_same (bget_lt k2)
     have e3:∀ m,2≠m→bget (bset h2 2 (.blk (tC (upT T2 i j (cvT (shA x.l y.l s) (openT x y s) x.l.length y.l.length T2 i j))) false)) m=bget h2 m:=fun m hm=>bset_other hm
     have ec:Cl (bset h2 2 (.blk (tC (upT T2 i j (cvT (shA x.l y.l s) (openT x y s) x.l.length y.l.length T2 i j))) false)):=kc.set tC_blk
     generalize bset h2 2 (.blk (tC (upT T2 i j (cvT (shA x.l y.l s) (openT x y s) x.l.length y.l.length T2 i j))) false)=hh at e1 e2 e3 ec ⊢
     rw [bget_lop e1]
     refine fB.lop1 e1 ?_
     intro h3 hh3
     have hl3:h3.length=h2.length+1:=by rw [hh3,List.length_append,e1];rfl
     have f2:=(by rw [hh3];exact bget_app e2:bget h3 2=some (.blk (tC (upT T2 i j (cvT (shA x.l y.l s) (openT x y s) x.l.length y.l.length T2 i j))) false))
     have h3c:Cl h3:=by
      rw [hh3]
      refine ec.app ?_
      rw [e1]
      have hp5:p+3<h2.length:=bget_lt v3
      have hq6:q+3<h2.length:=bget_lt v4
      have z0:0<h2.length:=by omega
      have z1:1<h2.length:=by omega
      have z2:2<h2.length:=by omega
      simp only [B.blo]
      simp [blos,V.blo,hp5,hq6,z0,z1,z2]
      exact ⟨rfl,rfl⟩
     have r3:bget h3 (p+3)=some (.blk [.int .i64 (i:Nat)] false):=by rw [hh3];exact bget_app ((e3 _ (by omega)).trans v3)
     have r4:bget h3 (q+3)=some (.blk [.int .i64 (j:Nat)] false):=by rw [hh3];exact bget_app ((e3 _ (by omega)).trans v4)
     have s0:bget h3 0=some (elB x):=by rw [hh3];exact bget_app ((e3 0 (by decide)).trans k0)
     have s1:bget h3 1=some (elB y):=by rw [hh3];exact bget_app ((e3 1 (by decide)).trans k1)
     repeat' (first
 | (conv=>whnf)
   first
   | (refine Bnd.i64 ?_ ?_ ?_;(focus omega);(focus omega))
   | refine fLen.mk ?_
   | refine fB.i0 ?_
   | refine fB.i1 ?_
   | refine Get.mk _ r4 ?_
   | refine Get.newj 0 rfl rfl ?_
   | refine fB.newj 0 rfl ?_
   | refine Get.mk _ rfl ?_
   | (refine Req.mk ?_ ?_;(focus first | rfl | decide | exact ⟨rfl,rfl⟩ | exact ⟨rfl,by decide⟩ | exact (fun _=>rfl) | exact (fun h=>nomatch h) | (simp;done) | omega | (simp [big];done) | exact le_big (by omega) | exact lt_big (by omega))))
     all_goals try (exfalso;omega;done)
     obtain ⟨q2,hq3⟩:∃ q2,h3.length=q2+3:=⟨h3.length - 3,by omega⟩
     have hnew:bget (h3++[.blk [.int .i64 ((j:Int) - 1)] false]) (q2+3)=some (.blk [.int .i64 ((j:Nat) - 1)] false):=by rw [← hq3];exact bget_new (i:=0)
     have hll:∀ b:B,(h++[b]).length≤(h3++[B.blk [.int .i64 ((j:Int) - 1)] false]).length:=fun b=>by rw [List.length_append,List.length_append];simp;omega
     have hlh:∀ b:B,h.length+1≤(h++[b]).length:=fun b=>by simp
     refine NextP.of (fun N=>(⟨j,q2,N,upT T2 i j (cvT (shA x.l y.l s) (openT x y s) x.l.length y.l.length T2 i j)⟩:BS)) ⟨by (try dsimp only);omega,Nat.le_trans (hlh _) (norm_len (hll _)),⟨norm_cl (hll _) (h3c.app rfl),norm_keep (i:=3) (hll _) (fun k hk=>of_decide_eq_true hk) (bget_app s0),norm_keep (i:=4) (hll _) (fun k hk=>of_decide_eq_true hk) (bget_app s1),norm_keep (i:=10) (hll _) (fun k hk=>of_decide_eq_true hk) (bget_app f2)⟩,norm_keep (i:=11) (hll _) (fun k hk=>of_decide_eq_true hk) (bget_app r3),norm_keep (i:=12) (hll _) (fun k hk=>by have h9:h3.length<k:=of_decide_eq_true hk;show q2+3<k;omega) hnew,v5,hvg,hzr⟩ (Nat.lt_succ_self _) ?_
     rw [← hq3];rfl
end Go.Dr.T
namespace Go.Dr.T
set_option maxRecDepth 100000 in
set_option maxHeartbeats 20000000 in
theorem pairs_ok {c d:Bool} {l:List (Int × Int)} (hl:l.length≤1000000):Fun FB md 29 [.sl c l.length (shC l),.sl d l.length (shC l)] (.bool true):=by
 refine fun_of rfl rfl ?_
 repeat' (first
 | (conv=>whnf)
   first
   | (refine Br.decT ?_ ?_;(focus first | assumption | omega))
   | refine Br.not ?_)
 all_goals try (exfalso;omega;done)
 refine LoopP.by (fun i:Nat=>i≤l.length) (fun i=>[(5,.int .i64 (i:Nat))]) (fun _=>[]) (fun i=>l.length - i) 0 (Nat.zero_le _) rfl ?_
 rintro i hi'
 dsimp only
 by_cases hi:i<l.length
 rotate_left
 ·repeat' (first
 | (conv=>whnf)
   first
   | (refine Br.decF ?_ ?_;(focus first | assumption | omega))
   | refine Get.mk _ rfl ?_
   | refine Leaves.of ?_
   | refine Vw.bool ?_)
  all_goals first | rfl | (exfalso;omega)
 obtain ⟨p,hp⟩:∃ p,l[i]?=some p:=⟨_,List.getElem?_eq_getElem hi⟩
 have hpp:=shC_part hp
 repeat' (first
 | (conv=>whnf)
   first
   | refine Br.t ?_
   | (refine Br.decT ?_ ?_;(focus first | assumption | omega))
   | refine Br.not ?_
   | refine Br.and ?_
   | (refine Bnd.i64 ?_ ?_ ?_;(focus omega);(focus omega))
   | refine Get.mk _ hpp ?_
   | (refine Idx.nat ?_ ?_;(focus omega))
   | refine Get.mk _ rfl ?_
   | (refine Req.mk ?_ ?_;(focus first | rfl | decide | exact ⟨rfl,rfl⟩ | exact ⟨rfl,by decide⟩ | exact (fun _=>rfl) | exact (fun h=>nomatch h) | (simp;done) | omega | (simp [big];done) | exact le_big (by omega) | exact lt_big (by omega))))
 all_goals first | (exfalso;omega;done) | exact NextP.mk (i+1) hi (by omega) rfl
end Go.Dr.T
