/- Chapter 06: before, the document's worths of what is before two places, walked. -/
import Derived.Test.YtfhphjloaelgoaaGreatDoorG6
import Derived.Test.YtfhphjloaelgoaaGreatDoorR06S3
import Derived.Test.YtfhphjloaelgoaaGreatDoorR06V2
namespace Go.Dr.T
def ridF (i:Nat):Nat:=3+i
def hvF (k:Nat) (i:Nat):Bool:=decide (i<k)
structure FA where
 k:Nat
 h:List B
 T:Nat→Nat→Int
structure FB' (x y:El) (s:Int) (a:FA):Prop where
 le:a.k≤x.l.length+1
 ln:a.h.length=3+a.k
 cl:Cl a.h
 b0:bget a.h 0=some (elB x)
 b1:bget a.h 1=some (elB y)
 b2:bget a.h 2=some (.blk (outC x.l.length y.l.length ridF (hvF a.k)) false)
 br:∀ i,i<a.k→i≤x.l.length→bget a.h (ridF i)=some (.blk (rowC y.l.length (a.T i)) true)
 eq:∀ i j,i<a.k→i≤x.l.length→j≤y.l.length→a.T i j=vT (shA x.l y.l s) i j
structure FI where
 l:Nat
 f:Nat→Int
theorem vT_rng {a b:List (Int × Int)} {s:Int} (ha:shOk a) (hb:shOk b):∀ i j,i≤a.length→j≤b.length→0≤vT (shA a b s) i j∧vT (shA a b s) i j≤200000 * (i:Int)
 | 0,j,_,_=>by rw [vT_0];omega
 | i+1,0,_,_=>by rw [vT_1];omega
 | i+1,j+1,hi,hj=>by
  have a1:=vT_rng ha hb (s:=s) i (j+1) (by omega) hj
  have a2:=vT_rng ha hb (s:=s) (i+1) j hi (by omega)
  have a3:=vT_rng ha hb (s:=s) i j (by omega) (by omega)
  have a4:=shA_rng (s:=s) ha hb (i:=i) (j:=j) (by omega) (by omega)
  rw [vT_S]
  split <;> omega
termination_by i j=>i+j
set_option maxRecDepth 100000 in
set_option maxHeartbeats 20000000 in
theorem before_ok {x y:El} {s:Int} (ha:shOk x.l) (hb:shOk y.l) (hs:0≤s∧s≤200000):FunF FB md 81 [elA' x,elA' y,.int .i64 s] (tabV x.l.length y.l.length (vT (shA x.l y.l s))):=by
 have hal:=ha.1
 have hbl:=hb.1
 have hbn:IntKind.i64.wrap ((x.l.length:Int)+1)=((x.l.length+1:Nat):Int):=by rw [wrap_i64 (by omega) (by omega)];omega
 have hbm:IntKind.i64.wrap ((y.l.length:Int)+1)=((y.l.length+1:Nat):Int):=by rw [wrap_i64 (by omega) (by omega)];omega
 refine funF_rn rfl rfl ?_
 repeat' (first
 | (conv=>whnf)
   first
   | refine Bnd.eq hbn ?_
   | refine Rn.seq ?_
   | refine Rn.block ?_
   | refine Rn.reg ?_
   | (refine Idx.nat ?_ ?_;(focus omega))
   | refine Idx.nat (le_big (by omega)) ?_
   | refine Get.mk _ rfl ?_
   | (refine Req.mk ?_ ?_;(focus first | rfl | decide | exact ⟨rfl,rfl⟩ | exact ⟨rfl,by decide⟩ | exact (fun _=>rfl) | exact (fun h=>nomatch h) | (simp;done) | omega | (simp [big];done) | exact le_big (by omega) | exact lt_big (by omega))))
 have hout:outC x.l.length y.l.length ridF (hvF 0)=reps (x.l.length+1) [.nilsl]:=by
  rw [outC_none (m:=y.l.length) (rid:=ridF)]
  exact outC_ext fun k hk=>by unfold hvF;simp
 have hcl:Cl [elB x,elB y,.blk (outC x.l.length y.l.length ridF (hvF 0)) false] :=
  (show Cl [elB x,elB y] from rfl).app (outC_ok fun i hi hh=>by unfold hvF at hh;simp at hh)
 have hdn:decide (x.l.length+1=x.l.length+1)=true:=decide_eq_true rfl
 refine Rn.loop (FB' x y s) (fun a=>[(10,.int .i64 (a.k:Nat))]) (fun a=>a.h) (fun a=>x.l.length+1 - a.k) ⟨0,[elB x,elB y,.blk (outC x.l.length y.l.length ridF (hvF 0)) false],fun _ _=>0⟩ ⟨Nat.zero_le _,rfl,hcl,rfl,rfl,rfl,fun i h1 h2=>by (try dsimp only at h1);omega,fun i j h1 h2=>by (try dsimp only at h1);omega⟩ (by dsimp only;rw [hout];rfl) ?_
 rintro ⟨i,h,T⟩ ⟨w1,ln,cl,b0,b1,b3,br,eq⟩
 dsimp only at w1 ln cl b0 b1 b3 br eq ⊢
 by_cases hil:i≤x.l.length
 rotate_left
 ·have hvw:VwF h depth (.ms 1 2 ((x.l.length+1) * 1) 0 (x.l.length+1) (decide (x.l.length+1=x.l.length+1))) (tabV x.l.length y.l.length (vT (shA x.l y.l s))) :=
   tab_view (d:=61) hdn b3 (fun i' hi' => by unfold hvF;simp;omega) (fun i' hi' => by rw [br i' (by omega) hi'];congr 2;exact rowC_ext fun j hj=>eq i' j (by omega) hi' hj)
  repeat' (first
 | (conv=>whnf)
   first
   | refine hvw
   | (refine Br.decF ?_ ?_;(focus first | assumption | omega))
   | refine Rn.seq ?_
   | refine Rn.cond ?_
   | refine Rn.reg ?_
   | refine Rn.exit ?_
   | refine Rn.ret ?_
   | refine fLen.mk ?_
   | refine fB.i0 ?_
   | refine fB.mk ?_
   | refine Get.mk _ rfl ?_
   | refine LeavesF.of ?_)
  all_goals first | (exfalso;omega;done)
 have hr:h.length+0=ridF i:=by unfold ridF;omega
 have hq3:(outC x.l.length y.l.length ridF (hvF i)).length=(x.l.length+1) * 1∧0+i * 1+1≤(outC x.l.length y.l.length ridF (hvF i)).length:=by rw [outC_len];omega
 have hov:over (outC x.l.length y.l.length ridF (hvF i)) (0+i * 1) [.ms 1 (h.length+0) ((y.l.length+1) * 1) 0 (y.l.length+1) (decide (y.l.length+1=y.l.length+1))]=outC x.l.length y.l.length ridF (hvF (i+1)):=by
  rw [decide_eq_true rfl,hr,outC_set hil]
  exact outC_ext fun k hk=>by unfold hvF;by_cases h1:k=i <;> by_cases h2:k<i <;> simp [h1,h2] <;> omega
 repeat' (first
 | (conv=>whnf)
   first
   | refine Bnd.eq hbm ?_
   | (refine Br.decT ?_ ?_;(focus first | assumption | omega))
   | refine Rn.seq ?_
   | refine Rn.block ?_
   | refine Rn.cond ?_
   | refine Rn.reg ?_
   | refine Rn.skip ?_
   | refine fLen.mk ?_
   | refine fB.i0 ?_
   | refine fB.i1 ?_
   | refine Get.newj 0 rfl rfl ?_
   | refine fB.newj 0 rfl ?_
   | refine fB.mk ?_
   | refine Get.mk _ (bget_app b3) ?_
   | refine Req.mk hq3 ?_
   | refine fVg' hov ?_
   | (refine Idx.nat ?_ ?_;(focus omega))
   | refine Idx.nat (le_big (by omega)) ?_
   | (refine Req.mk ?_ ?_;(focus first | rfl | decide | exact ⟨rfl,rfl⟩ | exact ⟨rfl,by decide⟩ | exact (fun _=>rfl) | exact (fun h=>nomatch h) | (simp;done) | omega | (simp [big];done) | exact le_big (by omega) | exact lt_big (by omega))))
 all_goals try (exfalso;omega;done)
 obtain ⟨r,hrd⟩:∃ r,r=ridF i:=⟨_,rfl⟩
 have hr4:r=h.length:=by rw [hrd];omega
 have hb3l:=bget_lt b3
 have hr3:2<r:=by omega
 obtain ⟨H,hH⟩:∃ H,H=bset (h++[.blk (rowC y.l.length (fun _=>0)) true]) 2 (.blk (outC x.l.length y.l.length ridF (hvF (i+1))) false):=⟨_,rfl⟩
 have hHl:H.length=h.length+1:=by rw [hH,bset_len,List.length_append];rfl
 have hHr:bget H r=some (.blk (rowC y.l.length (fun _=>0)) true):=by rw [hH,bset_other (by omega),hr4];exact bget_new (i:=0)
 have hH3:bget H 2=some (.blk (outC x.l.length y.l.length ridF (hvF (i+1))) false):=by rw [hH];exact bget_same (by rw [List.length_append];omega)
 have hHo:∀ o b,o≠2→bget h o=some b→bget H o=some b:=fun o b ho hb=>by rw [hH,bset_other (fun e=>ho e.symm)];exact bget_app hb
 have hHc:Cl H:=by
  rw [hH]
  refine (cl.app rowC_blo).set (outC_ok fun i' hi' hh => ?_)
  rw [List.length_append]
  unfold ridF
  unfold hvF at hh
  simp at hh ⊢
  omega
 have hL:∀ f,(bset H r (.blk (rowC y.l.length f) true)).length=h.length+1:=fun f=>by rw [bset_len,hHl]
 have hO:∀ f,bget (bset H r (.blk (rowC y.l.length f) true)) 2=some (.blk (outC x.l.length y.l.length ridF (hvF (i+1))) false):=fun f=>by rw [bset_other (by omega)];exact hH3
 have hR:∀ f,bget (bset H r (.blk (rowC y.l.length f) true)) r=some (.blk (rowC y.l.length f) true):=fun f=>bget_same (bget_lt hHr)
 have hE:∀ f o b,o≠2→o<r→bget h o=some b→bget (bset H r (.blk (rowC y.l.length f) true)) o=some b:=fun f o b h1 h2 h3=>by rw [bset_other (by omega)];exact hHo o b h1 h3
 have hS:∀ f f', bset (bset H r (.blk (rowC y.l.length f) true)) r (.blk (rowC y.l.length f') true)=bset H r (.blk (rowC y.l.length f') true):=fun f f' => bset_two
 have hst0:bset H r (.blk (rowC y.l.length (fun _=>0)) true)=H:=bset_same hHr
 refine Rn.loop (fun a:FI=>1≤a.l∧a.l≤y.l.length+1∧∀ j,(j<a.l∨i=0)→j≤y.l.length→a.f j=vT (shA x.l y.l s) i j) (fun a=>[(11,.int .i64 (a.l:Nat))]) (fun a=>bset H r (.blk (rowC y.l.length a.f) true)) (fun a=>y.l.length+1 - a.l) ⟨1,fun _=>0⟩ ⟨Nat.le_refl _,by (try dsimp only);omega,fun j h1 h2=>by
  rcases h1 with h1 | h1
  ·rw [show j=0 by (try dsimp only at h1);omega,vT_1]
  ·rw [h1,vT_0]⟩ (by dsimp only;rw [hst0,hH,rowC_zero];rfl) ?_
 rintro ⟨l,f⟩ ⟨v0,v1,v2⟩
 dsimp only at v0 v1 v2 ⊢
 have hdone:(y.l.length<l∨i=0)→∀ j,j≤y.l.length→f j=vT (shA x.l y.l s) i j:=fun h1 j h2=>v2 j (by omega) h2
 have hnext:(y.l.length<l∨i=0)→FB' x y s ⟨i+1,bset H r (.blk (rowC y.l.length f) true),fun i' => if i' = i then f else T i'⟩:=fun h1=>by
  refine ⟨by (try dsimp only);omega,by (try dsimp only);rw [hL];omega,hHc.set rowC_blo,hE f 0 _ (by decide) (by omega) b0,hE f 1 _ (by decide) (by omega) b1,hO f,fun i' h2 h3 => ?_,fun i' j h2 h3 h4 => ?_⟩
  ·dsimp only at h2 h3 ⊢
   by_cases he:i' = i
   ·subst he
    rw [if_pos rfl, ← hrd]
    exact hR f
   ·rw [if_neg he]
    exact hE f _ _ (by unfold ridF;omega) (by rw [hrd];unfold ridF;omega) (br i' (by omega) h3)
  ·dsimp only at h2 h3 h4 ⊢
   by_cases he:i' = i
   ·subst he
    rw [if_pos rfl]
    exact hdone h1 j h4
   ·rw [if_neg he]
    exact eq i' j (by omega) h3 h4
 have hnorm:∀ mk tm,norm mk 3 ⟨tm,bset H r (.blk (rowC y.l.length f) true)⟩=⟨masked mk tm,bset H r (.blk (rowC y.l.length f) true)⟩:=fun mk tm =>
  norm_all (r:=r) (o:=2) (by rw [hL];omega) (by omega) (by decide) (hO f) (fun k hk=>by rw [hrd];exact outC_blo hk hil (by unfold hvF;simp))
 by_cases hl:l≤y.l.length
 rotate_left
 ·repeat' (first
 | (conv=>whnf)
   first
   | refine Br.f ?_
   | (refine Br.decF ?_ ?_;(focus first | assumption | omega))
   | (refine Bnd.i64 ?_ ?_ ?_;(focus omega);(focus omega))
   | refine Rn.seq ?_
   | refine Rn.cond ?_
   | refine Rn.reg ?_
   | refine Rn.exit ?_
   | refine fLen.mk ?_
   | refine fB.i0 ?_
   | refine fB.mk ?_)
  all_goals first | (exfalso;omega;done) | exact NextP.mk ⟨i+1,_,_⟩ (hnext (.inl (by omega))) (by (try dsimp only);omega) (hnorm _ _)
 cases i with
 | zero =>
  repeat' (first
 | (conv=>whnf)
   first
   | refine Br.f ?_
   | (refine Br.decT ?_ ?_;(focus first | assumption | omega))
   | (refine Bnd.i64 ?_ ?_ ?_;(focus omega);(focus omega))
   | refine Rn.seq ?_
   | refine Rn.cond ?_
   | refine Rn.reg ?_
   | refine Rn.exit ?_
   | refine fLen.mk ?_
   | refine fB.i0 ?_
   | refine fB.mk ?_)
  all_goals first | (exfalso;omega;done) | exact NextP.mk ⟨0+1,_,_⟩ (hnext (.inr rfl)) (by (try dsimp only);omega) (hnorm _ _)
 | succ i =>
  clear hnext hdone hnorm
  obtain ⟨j,rfl⟩:∃ j,l=j+1:=⟨l - 1,by omega⟩
  obtain ⟨u,hu⟩:∃ u,x.l[i]?=some u:=⟨_,List.getElem?_eq_getElem (by omega)⟩
  obtain ⟨w,hw⟩:∃ w,y.l[j]?=some w:=⟨_,List.getElem?_eq_getElem (by omega)⟩
  have hum:=ha.2 u (List.mem_of_getElem? hu)
  have hwm:=hb.2 w (List.mem_of_getElem? hw)
  have rs:=shr_rng (s:=s) (x:=u) (y:=w) ⟨hum.2.2.1,hum.2.2.2⟩ ⟨hwm.2.2.1,hwm.2.2.2⟩
  have hsh:=refShare_ok (s:=s) (x:=u) (y:=w) hs hum hwm
  have hpu:=shC_part hu
  have hpw:=shC_part hw
  have hSA:shA x.l y.l s i j=shr s u w:=by unfold shA;rw [List.getD_eq_getElem?_getD,hu,List.getD_eq_getElem?_getD,hw];rfl
  have hT:=Hid.mk (vT_S (S:=shA x.l y.l s) (i:=i) (j:=j))
  rw [hSA] at hT
  have hbi:IntKind.i64.wrap (((i+1:Nat):Int) - 1)=((i:Nat):Int):=by rw [wrap_i64 (by omega) (by omega)];omega
  have hbj:IntKind.i64.wrap (((j+1:Nat):Int) - 1)=((j:Nat):Int):=by rw [wrap_i64 (by omega) (by omega)];omega
  have r3:=vT_rng (s:=s) ha hb i j (by omega) (by omega)
  have hI0:i≤x.l.length+1 - 1:=by omega
  have hI1:i+1≤x.l.length+1 - 1:=by omega
  have hJ0:j≤y.l.length+1 - 1:=by omega
  have hJ1:j+1≤y.l.length+1 - 1:=by omega
  have go1:=outC_get (n:=x.l.length) (m:=y.l.length) (rid:=ridF) (hv:=hvF (i+1+1)) (i:=i+1) (by omega) (by unfold hvF;simp)
  have go:=outC_get (n:=x.l.length) (m:=y.l.length) (rid:=ridF) (hv:=hvF (i+1+1)) (i:=i) (by omega) (by unfold hvF;simp;omega)
  rw [← hrd] at go1
  have hU:∀ f,bget (bset H r (.blk (rowC y.l.length f) true)) (ridF i)=some (.blk (rowC y.l.length (T i)) true):=fun f=>hE f _ _ (by unfold ridF;omega) (by rw [hrd];unfold ridF;omega) (br i (by omega) (by omega))
  have cu0:=rowC_get (m:=y.l.length) (j:=j) (f:=T i) (by omega)
  have cu1:=rowC_get (m:=y.l.length) (j:=j+1) (f:=T i) (by omega)
  rw [eq i j (by omega) (by omega) (by omega)] at cu0
  rw [eq i (j+1) (by omega) (by omega) (by omega)] at cu1
  have cr0:=rowC_get (m:=y.l.length) (j:=j) (f:=f) (by omega)
  rw [v2 j (by omega) (by omega)] at cr0
  have cs:∀ v,cellAt (rowC y.l.length (up1 f (j+1) v)) (0+(j+1) * 1)=some (.int .i64 v):=fun v=>by rw [rowC_get (by omega),up1_same]
  have ho1:∀ v,over (rowC y.l.length f) (0+(j+1) * 1) [.int .i64 v]=rowC y.l.length (up1 f (j+1) v):=fun v=>rowC_set (by omega)
  have ho2:∀ v w,over (rowC y.l.length (up1 f (j+1) v)) (0+(j+1) * 1) [.int .i64 w]=rowC y.l.length (up1 f (j+1) w):=fun v w=>by rw [rowC_set (by omega),up1_two]
  have hlr:∀ f,(rowC y.l.length f).length=(y.l.length+1) * 1:=fun f=>by rw [rowC_len,Nat.mul_one]
  have hlr2:∀ f,(rowC y.l.length f).length=(y.l.length+1) * 1∧0+(j+1) * 1+1≤(rowC y.l.length f).length:=fun f=>by rw [rowC_len];omega
  have hlo:(outC x.l.length y.l.length ridF (hvF (i+1+1))).length=(x.l.length+1) * 1:=by rw [outC_len,Nat.mul_one]
  have hB0:=fun f=>hE f 0 _ (by decide) (by omega) b0
  have hB1:=fun f=>hE f 1 _ (by decide) (by omega) b1
  have hv3:∀ v,v=vT (shA x.l y.l s) (i+1) (j+1)→∀ j', (j' < j+1+1∨i+1=0)→j' ≤ y.l.length→up1 f (j+1) v j' = vT (shA x.l y.l s) (i+1) j' := fun v hv j' h1 h2=>by
   by_cases he:j' = j+1
   ·subst he;rw [up1_same];exact hv
   ·rw [up1_other he];exact v2 j' (by omega) h2
  generalize vT (shA x.l y.l s) i (j+1)=A at *
  generalize vT (shA x.l y.l s) (i+1) j=B' at *
  generalize vT (shA x.l y.l s) i j=C at *
  generalize shr s u w=S at *
  repeat' (first
 | (conv=>whnf)
   first
   | refine Bnd.eq hbi ?_
   | refine Bnd.eq hbj ?_
   | refine Idx.nat hI0 ?_
   | refine Idx.nat hI1 ?_
   | refine Idx.nat hJ0 ?_
   | refine Idx.nat hJ1 ?_
   | (refine Br.decT ?_ ?_;(focus first | assumption | omega))
   | refine Br.dec (fun _ => ?_) (fun _ => ?_)
   | (refine Bnd.i64 ?_ ?_ ?_;(focus omega);(focus omega))
   | refine Rn.seq ?_
   | refine Rn.block ?_
   | refine Rn.cond ?_
   | refine Rn.reg ?_
   | refine Rn.skip ?_
   | refine fLen.mk ?_
   | refine fB.i0 ?_
   | refine fB.as (hS _ _) ?_
   | refine fB.mk ?_
   | refine Get.mk _ (hO _) ?_
   | refine Get.mk _ (hU _) ?_
   | refine Get.mk _ (hR _) ?_
   | refine Get.mk _ (hB0 _) ?_
   | refine Get.mk _ (hB1 _) ?_
   | refine Get.mk _ go1 ?_
   | refine Get.mk _ go ?_
   | refine Get.mk _ cu0 ?_
   | refine Get.mk _ cu1 ?_
   | refine Get.mk _ cr0 ?_
   | refine Get.mk _ (cs _) ?_
   | refine Get.mk _ hpu ?_
   | refine Get.mk _ hpw ?_
   | refine Req.mk hlo ?_
   | refine Req.mk (hlr _) ?_
   | refine Req.mk (hlr2 _) ?_
   | refine fVg' (ho1 _) ?_
   | refine fVg' (ho2 _ _) ?_
   | refine call_fun rfl rfl hsh (.inl rfl) ?_
   | refine Bnd.any ?_
   | (refine Idx.nat ?_ ?_;(focus omega))
   | refine Get.mk _ rfl ?_
   | (refine Req.mk ?_ ?_;(focus first | rfl | decide | exact ⟨rfl,rfl⟩ | exact ⟨rfl,by decide⟩ | exact (fun _=>rfl) | exact (fun h=>nomatch h) | (simp;done) | omega | (simp [big];done) | exact le_big (by omega) | exact lt_big (by omega))))
  all_goals try (exfalso;omega;done)
  all_goals obtain ⟨hT⟩:=hT
  all_goals first
   | exact NextP.mk ⟨j+1+1,up1 f (j+1) (max (max A B') (S+C))⟩ ⟨by (try dsimp only);omega,by (try dsimp only);omega,hv3 _ (by rw [hT,if_pos (by omega)])⟩ (by (try dsimp only);omega) (norm_same ((hL _).trans (by rw [bset_len,List.length_append];rfl)))
   | exact NextP.mk ⟨j+1+1,up1 f (j+1) (max A B')⟩ ⟨by (try dsimp only);omega,by (try dsimp only);omega,hv3 _ (by rw [hT,if_neg (by omega)])⟩ (by (try dsimp only);omega) (norm_same ((hL _).trans (by rw [bset_len,List.length_append];rfl)))
   
end Go.Dr.T
namespace Go.Dr.T
def Lw (h:List B) (l:List (Int × Int)) (v:V):Prop:=(l=[]∧v = .nilsl)∨∃ q,l≠[]∧v = .ms 2 (q+2) (l.length * 2) 0 l.length false∧bget h (q+2)=some (.blk (shC l) true)
theorem Lw.app {h:List B} {l:List (Int × Int)} {v:V} {b:B} (e:Lw h l v):Lw (h++[b]) l v:=by
 rcases e with e | ⟨q,e1,e2,e3⟩
 ·exact .inl e
 ·exact .inr ⟨q,e1,e2,bget_app e3⟩
theorem Lw.set {h:List B} {l:List (Int × Int)} {v:V} {b:B} {n:Nat} (e:Lw h l v) (hn:n<2∨idOf v≠n):Lw (bset h n b) l v:=by
 rcases e with e | ⟨q,e1,e2,e3⟩
 ·exact .inl e
 ·subst e2
  refine .inr ⟨q,e1,rfl,?_⟩
  have hne:n≠q+2:=by
   rcases hn with h | h
   ·omega
   ·exact fun e=>h e.symm
  rw [bset_other hne]
  exact e3
theorem Lw.view {h:List B} {l:List (Int × Int)} {v:V} {d:Nat} (e:Lw h l v):Vw h (d+2) v (lsP l):=by
 rcases e with ⟨rfl,rfl⟩ | ⟨q,e1,rfl,e3⟩
 ·exact Vw.nil
 ·unfold lsP
  rw [if_neg e1]
  refine Vw.ms (d:=d+1) e3 (shC_length _) (part_all (shC_length _)) ?_
  have key:∀ l:List (Int × Int),VwL h (d+1) (shC l) (shC l):=by
   intro l
   induction l with
   | nil=>exact VwL.nil
   | cons p l ih=>exact VwL.cons (Vw.int rfl) (VwL.cons (Vw.int rfl) ih)
  exact key l
theorem Lw.alive {h:List B} {l:List (Int × Int)} {v:V} (e:Lw h l v):v ≠ .dead:=by
 rcases e with ⟨_,rfl⟩ | ⟨q,_,rfl,_⟩ <;> simp
theorem Lw.norm {h:List B} {l:List (Int × Int)} {v:V} {m:List Bool} {n i:Nat} {tm:List V} (hn:n≤h.length) (e:Lw h l v) (hv:tg (masked m tm) i=v):Lw (norm m n ⟨tm,h⟩).h l v:=by
 rcases e with e | ⟨q,e1,rfl,e3⟩
 ·exact .inl e
 ·exact .inr ⟨q,e1,rfl,norm_keep (i:=i) hn (fun k hk=>by rw [hv] at hk;exact of_decide_eq_true hk) e3⟩
theorem tab_get {n m i:Nat} {T:Nat→Nat→Int} (h:i≤n):cellAt ((List.range (n+1)).map fun i=>rowV m (T i)) (i * 1)=some (rowV m (T i)):=by
 rw [cellAt_eq,Nat.mul_one]
 simp [show i<n+1 by omega]
theorem row_get {m j:Nat} {f:Nat→Int} (h:j≤m):cellAt (rowC m f) (j * 1)=some (.int .i64 (f j)):=by
 have:=rowC_get (f:=f) h
 rwa [Nat.zero_add] at this
theorem wN_none {a b:List (Int × Int)} {s:Int}:∀ k l,wN a b s (-1) (-1) k l=wN a b s (-1) 0 k l:=by
 intro k
 induction k with
 | zero=>intro l;rfl
 | succ k ihk =>
  intro l
  induction l with
  | zero=>rfl
  | succ l ihl =>
   rw [wN_S,wN_S,ihk,ihk,ihl]
   dsimp only
   by_cases h:0<shA a b s (a.length - (k+1)) (b.length - (l+1))
   ·rw [if_pos ⟨h,by omega⟩,if_pos ⟨h,by omega⟩]
   ·rw [if_neg (fun q=>h q.1),if_neg (fun q=>h q.1)]
theorem wT_none {x y:El} {s:Int}:wT x.l y.l s (-1) (-1)=openT x y s:=by
 funext i j
 rw [openT_eq]
 exact wN_none _ _
theorem none_ok:Fun FB md 57 [] (.agg [.int .i64 (-1),.int .i64 (-1)]):=by
 refine fun_of rfl rfl ?_
 repeat' (first
 | (conv=>whnf)
   first
   | refine Get.mk _ rfl ?_
   | refine Leaves.of ?_
   | refine Vw.int ?_
   | refine Vw.agg ?_
   | refine VwL.cons ?_ ?_
   | refine VwL.nil
   | (refine Req.mk ?_ ?_;(focus first | rfl | decide | exact ⟨rfl,rfl⟩ | exact ⟨rfl,by decide⟩ | exact (fun _=>rfl) | exact (fun h=>nomatch h) | (simp;done) | omega | (simp [big];done) | exact le_big (by omega) | exact lt_big (by omega))))
 all_goals rfl
end Go.Dr.T
