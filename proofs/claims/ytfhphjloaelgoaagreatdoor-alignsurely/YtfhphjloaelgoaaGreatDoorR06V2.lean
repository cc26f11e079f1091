/- Chapter 06: behind, the document's worths, walked. -/
import Derived.Test.YtfhphjloaelgoaaGreatDoorG6
namespace Go.Dr.T
structure VA where
 k:Nat
 h:List B
 T:Nat→Nat→Int
def ridB (n:Nat) (i:Nat):Nat:=4+(n - i)
def hvB (k:Nat) (i:Nat):Bool:=decide (k≤i)
structure VB (x y:El) (s bi bj:Int) (a:VA):Prop where
 le:a.k≤x.l.length+1
 ln:a.h.length=4+(x.l.length+1 - a.k)
 cl:Cl a.h
 b0:bget a.h 0=some (elB x)
 b1:bget a.h 1=some (elB y)
 b2:bget a.h 2=some (.blk [.int .i64 bi,.int .i64 bj] false)
 b3:bget a.h 3=some (.blk (outC x.l.length y.l.length (ridB x.l.length) (hvB a.k)) false)
 br:∀ i,a.k≤i→i≤x.l.length→bget a.h (ridB x.l.length i)=some (.blk (rowC y.l.length (a.T i)) true)
 eq:∀ i j,a.k≤i→i≤x.l.length→j≤y.l.length→a.T i j=wT x.l y.l s bi bj i j
structure VI where
 l:Nat
 f:Nat→Int
set_option maxRecDepth 100000 in
set_option maxHeartbeats 20000000 in
theorem behind_ok {x y:El} {s bi bj:Int} (ha:shOk x.l) (hb:shOk y.l) (hs:0≤s∧s≤200000):FunF FB md 56 [elA' x,elA' y,.int .i64 s,.agg [.int .i64 bi,.int .i64 bj]] (tabV x.l.length y.l.length (wT x.l y.l s bi bj)):=by
 have hal:=ha.1
 have hbl:=hb.1
 have hbn:IntKind.i64.wrap ((x.l.length:Int)+1)=((x.l.length+1:Nat):Int):=by rw [wrap_i64 (by omega) (by omega)];omega
 have hbm:IntKind.i64.wrap ((y.l.length:Int)+1)=((y.l.length+1:Nat):Int):=by rw [wrap_i64 (by omega) (by omega)];omega
 refine funF_rn rfl rfl ?_
 repeat' (first
 | (conv=>whnf)
   first
   | refine Bnd.eq hbn ?_
   | refine Rn.seq ?_
   | refine Rn.block ?_
   | refine Rn.reg ?_
   | (refine Idx.nat ?_ ?_;(focus omega))
   | refine Idx.nat (le_big (by omega)) ?_
   | refine Get.mk _ rfl ?_
   | (refine Req.mk ?_ ?_;(focus first | rfl | decide | exact ⟨rfl,rfl⟩ | exact ⟨rfl,by decide⟩ | exact (fun _=>rfl) | exact (fun h=>nomatch h) | (simp;done) | omega | (simp [big];done) | exact le_big (by omega) | exact lt_big (by omega))))
 have hout:outC x.l.length y.l.length (ridB x.l.length) (hvB (x.l.length+1))=reps (x.l.length+1) [.nilsl]:=by
  rw [outC_none (m:=y.l.length) (rid:=ridB x.l.length)]
  exact outC_ext fun k hk=>by unfold hvB;simp;omega
 have hcl:Cl [elB x,elB y,.blk [.int .i64 bi,.int .i64 bj] false,.blk (outC x.l.length y.l.length (ridB x.l.length) (hvB (x.l.length+1))) false] :=
  (show Cl [elB x,elB y,.blk [.int .i64 bi,.int .i64 bj] false] from rfl).app (outC_ok fun i hi hh=>by unfold hvB at hh;simp at hh;omega)
 have hdn:decide (x.l.length+1=x.l.length+1)=true:=decide_eq_true rfl
 refine Rn.loop (VB x y s bi bj) (fun a=>[(12,.int .i64 ((a.k:Nat) - 1))]) (fun a=>a.h) (fun a=>a.k) ⟨x.l.length+1,[elB x,elB y,.blk [.int .i64 bi,.int .i64 bj] false,.blk (outC x.l.length y.l.length (ridB x.l.length) (hvB (x.l.length+1))) false],fun _ _=>0⟩ ⟨Nat.le_refl _,by show 4=4+(x.l.length+1 - (x.l.length+1));omega,hcl,rfl,rfl,rfl,rfl,fun i h1 h2=>by (try dsimp only at h1);omega,fun i j h1 h2=>by (try dsimp only at h1);omega⟩ (by dsimp only;rw [hout,show (((x.l.length+1:Nat):Int) - 1)=(x.l.length:Int) by omega];rfl) ?_
 rintro ⟨k,h,T⟩ ⟨w1,ln,cl,b0,b1,b2,b3,br,eq⟩
 dsimp only at w1 ln cl b0 b1 b2 b3 br eq ⊢
 cases k with
 | zero =>
  have hvw:VwF h depth (.ms 1 3 ((x.l.length+1) * 1) 0 (x.l.length+1) (decide (x.l.length+1=x.l.length+1))) (tabV x.l.length y.l.length (wT x.l y.l s bi bj)) :=
   tab_view (d:=61) hdn b3 (fun i _=>by unfold hvB;simp) (fun i hi=>by rw [br i (Nat.zero_le _) hi];congr 2;exact rowC_ext fun j hj=>eq i j (Nat.zero_le _) hi hj)
  repeat' (first
 | (conv=>whnf)
   first
   | refine hvw
   | refine Br.f ?_
   | refine Rn.seq ?_
   | refine Rn.cond ?_
   | refine Rn.reg ?_
   | refine Rn.exit ?_
   | refine Rn.ret ?_
   | refine fLen.mk ?_
   | refine fB.i0 ?_
   | refine fB.mk ?_
   | refine Get.mk _ rfl ?_
   | refine LeavesF.of ?_)
  all_goals first | (exfalso;omega;done)
 | succ i =>
  have e5:((i+1:Nat):Int) - 1=(i:Nat):=by omega
  rw [e5]
  have hil:i≤x.l.length:=by omega
  have hr:h.length+0=ridB x.l.length i:=by unfold ridB;omega
  have hq3:(outC x.l.length y.l.length (ridB x.l.length) (hvB (i+1))).length=(x.l.length+1) * 1∧0+i * 1+1≤(outC x.l.length y.l.length (ridB x.l.length) (hvB (i+1))).length:=by rw [outC_len];omega
  have hov:over (outC x.l.length y.l.length (ridB x.l.length) (hvB (i+1))) (0+i * 1) [.ms 1 (h.length+0) ((y.l.length+1) * 1) 0 (y.l.length+1) (decide (y.l.length+1=y.l.length+1))]=outC x.l.length y.l.length (ridB x.l.length) (hvB i):=by
   rw [decide_eq_true rfl,hr,outC_set hil]
   exact outC_ext fun k hk=>by unfold hvB;by_cases h1:k=i <;> by_cases h2:i+1≤k <;> simp [h1,h2] <;> omega
  repeat' (first
 | (conv=>whnf)
   first
   | refine Bnd.eq hbm ?_
   | refine Br.t ?_
   | (refine Bnd.i64 ?_ ?_ ?_;(focus omega);(focus omega))
   | refine Rn.seq ?_
   | refine Rn.block ?_
   | refine Rn.cond ?_
   | refine Rn.reg ?_
   | refine Rn.skip ?_
   | refine fLen.mk ?_
   | refine fB.i0 ?_
   | refine fB.i1 ?_
   | refine Get.newj 0 rfl rfl ?_
   | refine fB.newj 0 rfl ?_
   | refine fB.mk ?_
   | refine Get.mk _ (bget_app b3) ?_
   | refine Req.mk hq3 ?_
   | refine fVg' hov ?_
   | (refine Idx.nat ?_ ?_;(focus omega))
   | refine Idx.nat (le_big (by omega)) ?_
   | (refine Req.mk ?_ ?_;(focus first | rfl | decide | exact ⟨rfl,rfl⟩ | exact ⟨rfl,by decide⟩ | exact (fun _=>rfl) | exact (fun h=>nomatch h) | (simp;done) | omega | (simp [big];done) | exact le_big (by omega) | exact lt_big (by omega))))
  all_goals try (exfalso;omega;done)
  obtain ⟨r,hrd⟩:∃ r,r=ridB x.l.length i:=⟨_,rfl⟩
  have hr4:r=h.length:=by rw [hrd];omega
  have hb3l:=bget_lt b3
  have hr3:3<r:=by omega
  obtain ⟨H,hH⟩:∃ H,H=bset (h++[.blk (rowC y.l.length (fun _=>0)) true]) 3 (.blk (outC x.l.length y.l.length (ridB x.l.length) (hvB i)) false):=⟨_,rfl⟩
  have hHl:H.length=h.length+1:=by rw [hH,bset_len,List.length_append];rfl
  have hHr:bget H r=some (.blk (rowC y.l.length (fun _=>0)) true):=by rw [hH,bset_other (by omega),hr4];exact bget_new (i:=0)
  have hH3:bget H 3=some (.blk (outC x.l.length y.l.length (ridB x.l.length) (hvB i)) false):=by rw [hH];exact bget_same (by rw [List.length_append];omega)
  have hHo:∀ o b,o≠3→bget h o=some b→bget H o=some b:=fun o b ho hb=>by rw [hH,bset_other (fun e=>ho e.symm)];exact bget_app hb
  have hHc:Cl H:=by
   rw [hH]
   refine (cl.app rowC_blo).set (outC_ok fun i' hi' hh => ?_)
   rw [List.length_append]
   unfold ridB
   unfold hvB at hh
   simp at hh ⊢
   omega
  have hL:∀ f,(bset H r (.blk (rowC y.l.length f) true)).length=h.length+1:=fun f=>by rw [bset_len,hHl]
  have hO:∀ f,bget (bset H r (.blk (rowC y.l.length f) true)) 3=some (.blk (outC x.l.length y.l.length (ridB x.l.length) (hvB i)) false):=fun f=>by rw [bset_other (by omega)];exact hH3
  have hR:∀ f,bget (bset H r (.blk (rowC y.l.length f) true)) r=some (.blk (rowC y.l.length f) true):=fun f=>bget_same (bget_lt hHr)
  have hE:∀ f o b,o≠3→o<r→bget h o=some b→bget (bset H r (.blk (rowC y.l.length f) true)) o=some b:=fun f o b h1 h2 h3=>by rw [bset_other (by omega)];exact hHo o b h1 h3
  have hS:∀ f f', bset (bset H r (.blk (rowC y.l.length f) true)) r (.blk (rowC y.l.length f') true)=bset H r (.blk (rowC y.l.length f') true):=fun f f' => bset_two
  have hst0:bset H r (.blk (rowC y.l.length (fun _=>0)) true)=H:=bset_same hHr
  refine Rn.loop (fun a:VI=>a.l≤y.l.length∧∀ j,(a.l≤j∨x.l.length≤i)→j≤y.l.length→a.f j=wT x.l y.l s bi bj i j) (fun a=>[(13,.int .i64 ((a.l:Nat) - 1))]) (fun a=>bset H r (.blk (rowC y.l.length a.f) true)) (fun a=>a.l) ⟨y.l.length,fun _=>0⟩ ⟨Nat.le_refl _,fun j h1 h2=>by
   rcases h1 with h1 | h1
   ·exact (wT_end2 h1).symm
   ·exact (wT_end1 h1).symm⟩ (by dsimp only;rw [hst0,hH,rowC_zero];rfl) ?_
  rintro ⟨l,f⟩ ⟨v1,v2⟩
  dsimp only at v1 v2 ⊢
  have hdone:(l=0∨x.l.length≤i)→∀ j,j≤y.l.length→f j=wT x.l y.l s bi bj i j:=fun h1 j h2=>v2 j (by omega) h2
  have hnext:(l=0∨x.l.length≤i)→VB x y s bi bj ⟨i,bset H r (.blk (rowC y.l.length f) true),fun i' => if i' = i then f else T i'⟩:=fun h1=>by
   refine ⟨by (try dsimp only);omega,by (try dsimp only);rw [hL];omega,hHc.set rowC_blo,hE f 0 _ (by decide) (by omega) b0,hE f 1 _ (by decide) (by omega) b1,hE f 2 _ (by decide) (by omega) b2,hO f,fun i' h2 h3 => ?_,fun i' j h2 h3 h4 => ?_⟩
   ·dsimp only at h2 h3 ⊢
    by_cases he:i' = i
    ·subst he
     rw [if_pos rfl, ← hrd]
     exact hR f
    ·rw [if_neg he]
     exact hE f _ _ (by unfold ridB;omega) (by rw [hrd];unfold ridB;omega) (br i' (by omega) h3)
   ·dsimp only at h2 h3 h4 ⊢
    by_cases he:i' = i
    ·subst he
     rw [if_pos rfl]
     exact hdone h1 j h4
    ·rw [if_neg he]
     exact eq i' j (by omega) h3 h4
  have hnorm:∀ mk tm,norm mk 4 ⟨tm,bset H r (.blk (rowC y.l.length f) true)⟩=⟨masked mk tm,bset H r (.blk (rowC y.l.length f) true)⟩:=fun mk tm =>
   norm_all (r:=r) (o:=3) (by rw [hL];omega) (by omega) (by decide) (hO f) (fun k hk=>by rw [hrd];exact outC_blo hk hil (by unfold hvB;simp))
  by_cases hin:i<x.l.length
  rotate_left
  ·cases l with
   | zero =>
    repeat' (first
 | (conv=>whnf)
   first
   | refine Br.f ?_
   | (refine Bnd.i64 ?_ ?_ ?_;(focus omega);(focus omega))
   | refine Rn.seq ?_
   | refine Rn.cond ?_
   | refine Rn.reg ?_
   | refine Rn.exit ?_
   | refine fLen.mk ?_
   | refine fB.i0 ?_
   | refine fB.mk ?_)
    all_goals first | (exfalso;omega;done) | exact NextP.mk ⟨i,_,_⟩ (hnext (.inr (by omega))) (Nat.lt_succ_self _) (hnorm _ _)
   | succ j =>
    repeat' (first
 | (conv=>whnf)
   first
   | (refine Br.decT ?_ ?_;(focus first | assumption | omega))
   | (refine Br.decF ?_ ?_;(focus first | assumption | omega))
   | (refine Bnd.i64 ?_ ?_ ?_;(focus omega);(focus omega))
   | refine Rn.seq ?_
   | refine Rn.cond ?_
   | refine Rn.reg ?_
   | refine Rn.exit ?_
   | refine fLen.mk ?_
   | refine fB.i0 ?_
   | refine fB.mk ?_)
    all_goals first | (exfalso;omega;done) | exact NextP.mk ⟨i,_,_⟩ (hnext (.inr (by omega))) (Nat.lt_succ_self _) (hnorm _ _)
  cases l with
  | zero =>
   repeat' (first
 | (conv=>whnf)
   first
   | refine Br.f ?_
   | (refine Bnd.i64 ?_ ?_ ?_;(focus omega);(focus omega))
   | refine Rn.seq ?_
   | refine Rn.cond ?_
   | refine Rn.reg ?_
   | refine Rn.exit ?_
   | refine fLen.mk ?_
   | refine fB.i0 ?_
   | refine fB.mk ?_)
   all_goals first | (exfalso;omega;done) | exact NextP.mk ⟨i,_,_⟩ (hnext (.inl rfl)) (Nat.lt_succ_self _) (hnorm _ _)
  | succ j =>
   clear hnext hdone hnorm
   have e6:((j+1:Nat):Int) - 1=(j:Nat):=by omega
   rw [e6]
   obtain ⟨u,hu⟩:∃ u,x.l[i]?=some u:=⟨_,List.getElem?_eq_getElem hin⟩
   obtain ⟨w,hw⟩:∃ w,y.l[j]?=some w:=⟨_,List.getElem?_eq_getElem (by omega)⟩
   have hum:=ha.2 u (List.mem_of_getElem? hu)
   have hwm:=hb.2 w (List.mem_of_getElem? hw)
   have rs:=shr_rng (s:=s) (x:=u) (y:=w) ⟨hum.2.2.1,hum.2.2.2⟩ ⟨hwm.2.2.1,hwm.2.2.2⟩
   have hsh:=refShare_ok (s:=s) (x:=u) (y:=w) hs hum hwm
   have hpu:=shC_part hu
   have hpw:=shC_part hw
   have hT:=Hid.mk (wT_step (s:=s) (bi:=bi) (bj:=bj) hu hw)
   have hbi:IntKind.i64.wrap ((i:Int)+1)=((i+1:Nat):Int):=by rw [wrap_i64 (by omega) (by omega)];omega
   have hbj:IntKind.i64.wrap ((j:Int)+1)=((j+1:Nat):Int):=by rw [wrap_i64 (by omega) (by omega)];omega
   have r3:=wT_rng (s:=s) (bi:=bi) (bj:=bj) ha hb (i+1) (j+1)
   have hI0:i≤x.l.length+1 - 1:=by omega
   have hI1:i+1≤x.l.length+1 - 1:=by omega
   have hJ0:j≤y.l.length+1 - 1:=by omega
   have hJ1:j+1≤y.l.length+1 - 1:=by omega
   have go:=outC_get (n:=x.l.length) (m:=y.l.length) (rid:=ridB x.l.length) (hv:=hvB i) (i:=i) (by omega) (by unfold hvB;simp)
   have go1:=outC_get (n:=x.l.length) (m:=y.l.length) (rid:=ridB x.l.length) (hv:=hvB i) (i:=i+1) (by omega) (by unfold hvB;simp)
   rw [← hrd] at go
   have hU:∀ f,bget (bset H r (.blk (rowC y.l.length f) true)) (ridB x.l.length (i+1))=some (.blk (rowC y.l.length (T (i+1))) true):=fun f=>hE f _ _ (by unfold ridB;omega) (by rw [hrd];unfold ridB;omega) (br (i+1) (by omega) (by omega))
   have cu0:=rowC_get (m:=y.l.length) (j:=j) (f:=T (i+1)) (by omega)
   have cu1:=rowC_get (m:=y.l.length) (j:=j+1) (f:=T (i+1)) (by omega)
   rw [eq (i+1) j (by omega) (by omega) (by omega)] at cu0
   rw [eq (i+1) (j+1) (by omega) (by omega) (by omega)] at cu1
   have cr1:=rowC_get (m:=y.l.length) (j:=j+1) (f:=f) (by omega)
   rw [v2 (j+1) (by omega) (by omega)] at cr1
   have cs:∀ v,cellAt (rowC y.l.length (up1 f j v)) (0+j * 1)=some (.int .i64 v):=fun v=>by rw [rowC_get (by omega),up1_same]
   have ho1:∀ v,over (rowC y.l.length f) (0+j * 1) [.int .i64 v]=rowC y.l.length (up1 f j v):=fun v=>rowC_set (by omega)
   have ho2:∀ v w,over (rowC y.l.length (up1 f j v)) (0+j * 1) [.int .i64 w]=rowC y.l.length (up1 f j w):=fun v w=>by rw [rowC_set (by omega),up1_two]
   have hlr:∀ f,(rowC y.l.length f).length=(y.l.length+1) * 1:=fun f=>by rw [rowC_len,Nat.mul_one]
   have hlr2:∀ f,(rowC y.l.length f).length=(y.l.length+1) * 1∧0+j * 1+1≤(rowC y.l.length f).length:=fun f=>by rw [rowC_len];omega
   have hlo:(outC x.l.length y.l.length (ridB x.l.length) (hvB i)).length=(x.l.length+1) * 1:=by rw [outC_len,Nat.mul_one]
   have hB0:=fun f=>hE f 0 _ (by decide) (by omega) b0
   have hB1:=fun f=>hE f 1 _ (by decide) (by omega) b1
   have hB2:=fun f=>hE f 2 _ (by decide) (by omega) b2
   have hv3:∀ v,v=wT x.l y.l s bi bj i j→∀ j', (j≤j' ∨ x.l.length≤i)→j' ≤ y.l.length→up1 f j v j' = wT x.l y.l s bi bj i j' := fun v hv j' h1 h2=>by
    by_cases he:j' = j
    ·subst he;rw [up1_same];exact hv
    ·rw [up1_other he];exact v2 j' (by omega) h2
   have hmu:∀ f g:Nat→Int,(bset H r (.blk (rowC y.l.length f) true)).length=(bset H r (.blk (rowC y.l.length g) true)).length:=fun f g=>by rw [hL,hL]
   generalize wT x.l y.l s bi bj (i+1) j=A at *
   generalize wT x.l y.l s bi bj i (j+1)=B' at *
   generalize wT x.l y.l s bi bj (i+1) (j+1)=C at *
   generalize shr s u w=S at *
   repeat' (first
 | (conv=>whnf)
   first
   | refine Bnd.eq hbi ?_
   | refine Bnd.eq hbj ?_
   | refine Idx.nat hI0 ?_
   | refine Idx.nat hI1 ?_
   | refine Idx.nat hJ0 ?_
   | refine Idx.nat hJ1 ?_
   | refine Br.t ?_
   | refine Br.f ?_
   | (refine Br.decT ?_ ?_;(focus first | assumption | omega))
   | (refine Br.decF ?_ ?_;(focus first | assumption | omega))
   | refine Br.dec (fun _ => ?_) (fun _ => ?_)
   | refine Br.not ?_
   | refine Br.and ?_
   | (refine Bnd.i64 ?_ ?_ ?_;(focus omega);(focus omega))
   | refine Rn.seq ?_
   | refine Rn.block ?_
   | refine Rn.cond ?_
   | refine Rn.reg ?_
   | refine Rn.skip ?_
   | refine fLen.mk ?_
   | refine fB.i0 ?_
   | refine fB.as (hS _ _) ?_
   | refine fB.mk ?_
   | refine Get.mk _ (hO _) ?_
   | refine Get.mk _ (hU _) ?_
   | refine Get.mk _ (hR _) ?_
   | refine Get.mk _ (hB0 _) ?_
   | refine Get.mk _ (hB1 _) ?_
   | refine Get.mk _ (hB2 _) ?_
   | refine Get.mk _ go ?_
   | refine Get.mk _ go1 ?_
   | refine Get.mk _ cu0 ?_
   | refine Get.mk _ cu1 ?_
   | refine Get.mk _ cr1 ?_
   | refine Get.mk _ (cs _) ?_
   | refine Get.mk _ hpu ?_
   | refine Get.mk _ hpw ?_
   | refine Req.mk hlo ?_
   | refine Req.mk (hlr _) ?_
   | refine Req.mk (hlr2 _) ?_
   | refine fVg' (ho1 _) ?_
   | refine fVg' (ho2 _ _) ?_
   | refine call_fun rfl rfl hsh (.inl rfl) ?_
   | refine Bnd.any ?_
   | (refine Idx.nat ?_ ?_;(focus omega))
   | refine Get.mk _ rfl ?_
   | (refine Req.mk ?_ ?_;(focus first | rfl | decide | exact ⟨rfl,rfl⟩ | exact ⟨rfl,by decide⟩ | exact (fun _=>rfl) | exact (fun h=>nomatch h) | (simp;done) | omega | (simp [big];done) | exact le_big (by omega) | exact lt_big (by omega))))
   all_goals try (exfalso;omega;done)
   all_goals obtain ⟨hT⟩:=hT
   all_goals first
    | exact NextP.mk ⟨j,up1 f j (max (max A B') (S+C))⟩ ⟨by (try dsimp only);omega,hv3 _ (by rw [hT,if_pos (by omega)])⟩ (by (try dsimp only);omega) (norm_same ((hL _).trans (by rw [bset_len,List.length_append];rfl)))
    | exact NextP.mk ⟨j,up1 f j (max A B')⟩ ⟨by (try dsimp only);omega,hv3 _ (by rw [hT,if_neg (by omega)])⟩ (by (try dsimp only);omega) (norm_same ((hL _).trans (by rw [bset_len,List.length_append];rfl)))
    
end Go.Dr.T
