/- Chapter 06: Best of the document, walked. -/
import Derived.Test.YtfhphjloaelgoaaGreatDoorR06N1
import Derived.Test.YtfhphjloaelgoaaGreatDoorG9
import Derived.Test.YtfhphjloaelgoaaGreatDoorR06B5
namespace Go.Dr.T
def rBestV (x y:El) (s:Int):V :=
 if openE x y s≠0 then .tup [.int .i64 0,.int .i64 0,.int .i64 (openE x y s)] else .tup [.int .i64 (openT x y s 0 0),.int .i64 (cT x y s 0 0),.int .i64 0]
theorem bestV2_r {x y:El} {s:Int}:bestV2 x y s=rBestV x y s:=rfl
theorem bgA_zero {S W:Nat→Nat→Int} {n m i j:Nat} (hW:∀ k l,0≤W k l) (h:W i j=0):bgA S W n m i j=[]:=by
 unfold bgA
 rw [List.flatMap_eq_nil_iff]
 intro k _
 unfold bgR
 rw [List.map_eq_nil_iff,List.filter_eq_nil_iff]
 intro l _ hc
 have:=hW (k+1) (l+1)
 simp only [decide_eq_true_eq] at hc
 omega
theorem cT_le {x y:El} {s:Int} (ha:shOk x.l) (hb:shOk y.l) {i j:Nat} (hi:i≤x.l.length) (hj:j≤y.l.length):cT x y s i j≤1000000:=by
 rw [cT_eq ha hb hi hj]
 split
 ·decide
 ·rw [fold_sum (f:=fun p=>cT x y s (p.1+1) (p.2+1)) (fun p=>cT_pos ha hb _ _) (by decide) (by decide)]
  omega
def ridG (n:Nat) (i:Nat):Nat:=3+(n - i)
def hvG (k:Nat) (i:Nat):Bool:=decide (k≤i)
structure GA where
 k:Nat
 h:List B
 T:Nat→Nat→Int
structure GI where
 l:Nat
 f:Nat→Int
structure GK where
 k:Nat
 c:Int
structure VG (x y:El) (s:Int) (a:GA):Prop where
 le:a.k≤x.l.length+1
 ln:a.h.length=3+(x.l.length+1 - a.k)
 cl:Cl a.h
 b0:bget a.h 0=some (elB x)
 b1:bget a.h 1=some (elB y)
 b3:bget a.h 2=some (.blk (outC x.l.length y.l.length (ridG x.l.length) (hvG a.k)) false)
 br:∀ i,a.k≤i→i≤x.l.length→bget a.h (ridG x.l.length i)=some (.blk (rowC y.l.length (a.T i)) true)
 eq:∀ i j,a.k≤i→i≤x.l.length→j≤y.l.length→a.T i j=cT x y s i j
theorem pI_c {P:List (Nat × Nat)} {k:Nat} {p:Nat × Nat} (h:P[k]?=some p):cellAt (shC (P.map pI)) (k * 2+0)=some (.int .i64 (p.1:Nat))∧cellAt (shC (P.map pI)) (k * 2+1)=some (.int .i64 (p.2:Nat)):=by
 have key:∀ {l:List (Int × Int)} {k:Nat} {p:Int × Int},l[k]?=some p→(shC l)[k * 2+0]?=some (.int .i64 p.1)∧(shC l)[k * 2+1]?=some (.int .i64 p.2):=by
  intro l
  induction l with
  | nil=>intro k p h;simp at h
  | cons q l ih =>
   intro k p h
   cases k with
   | zero =>
    simp only [List.getElem?_cons_zero,Option.some.injEq] at h
    subst h
    exact ⟨rfl,rfl⟩
   | succ k =>
    have:=ih (k:=k) (p:=p) (by simpa using h)
    rw [show (k+1) * 2+0=(k * 2+0)+1+1 by omega,show (k+1) * 2+1=(k * 2+1)+1+1 by omega]
    exact this
 rw [cellAt_eq,cellAt_eq]
 exact key (p:=pI p) (by rw [List.getElem?_map,h];rfl)
set_option maxRecDepth 100000 in
set_option maxHeartbeats 20000000 in
theorem refBest_ok {x y:El} {s:Int}:Fun FB md 22 [elA' x,elA' y,.int .i64 s] (rBestV x y s):=by
 have ho:=two_ok (x:=x) (y:=y) (s:=s)
 unfold rBestV
 by_cases he:openE x y s=0
 rotate_left
 ·rw [if_pos he]
  generalize openE x y s=e at *
  refine fun_of rfl rfl ?_
  repeat' (first
 | (conv=>whnf)
   first
   | (refine Br.decF ?_ ?_;(focus first | assumption | omega))
   | refine Br.not ?_
   | refine call_fun rfl rfl ho (.inl rfl) ?_
   | refine Get.mk _ rfl ?_
   | refine Leaves.of ?_
   | refine Vw.int ?_
   | refine Vw.tup ?_
   | refine VwL.cons ?_ ?_
   | refine VwL.nil
   | (refine Req.mk ?_ ?_;(focus first | rfl | decide | exact ⟨rfl,rfl⟩ | exact ⟨rfl,by decide⟩ | exact (fun _=>rfl) | exact (fun h=>nomatch h) | (simp;done) | omega | (simp [big];done) | exact le_big (by omega) | exact lt_big (by omega))))
  all_goals first | rfl | (exfalso;omega)
 obtain ⟨ha,hb,hs⟩:=open_good he
 rw [if_neg (fun h=>h he)]
 rw [he] at ho
 have hal:=ha.1
 have hbl:=hb.1
 have hbh:=(behind_ok (x:=x) (y:=y) (s:=s) (bi := -1) (bj := -1) ha hb hs).any
 rw [wT_none] at hbh
 have hno:=none_ok
 have hbn:IntKind.i64.wrap ((x.l.length:Int)+1)=((x.l.length+1:Nat):Int):=by rw [wrap_i64 (by omega) (by omega)];omega
 have hbm:IntKind.i64.wrap ((y.l.length:Int)+1)=((y.l.length+1:Nat):Int):=by rw [wrap_i64 (by omega) (by omega)];omega
 have hWr:=openT_rng (s:=s) ha hb
 have hcr:=fun i j hi hj=>(⟨cT_pos (s:=s) ha hb i j,cT_le (s:=s) ha hb hi hj⟩:0≤cT x y s i j∧cT x y s i j≤1000000)
 refine fun_rn rfl rfl ?_
 repeat' (first
 | (conv=>whnf)
   first
   | refine Bnd.eq hbn ?_
   | refine Br.f ?_
   | refine Rn.seq ?_
   | refine Rn.block ?_
   | refine Rn.cond ?_
   | refine Rn.reg ?_
   | refine Rn.skip ?_
   | refine call_fun rfl rfl ho (.inl rfl) ?_
   | refine call_fun rfl rfl hno (.inl rfl) ?_
   | refine call_fun rfl rfl hbh (.inl rfl) ?_
   | (refine Idx.nat ?_ ?_;(focus omega))
   | refine Idx.nat (le_big (by omega)) ?_
   | refine Get.mk _ rfl ?_
   | (refine Req.mk ?_ ?_;(focus first | rfl | decide | exact ⟨rfl,rfl⟩ | exact ⟨rfl,by decide⟩ | exact (fun _=>rfl) | exact (fun h=>nomatch h) | (simp;done) | omega | (simp [big];done) | exact le_big (by omega) | exact lt_big (by omega))))
 all_goals try (exfalso;omega;done)
 have hout:outC x.l.length y.l.length (ridG x.l.length) (hvG (x.l.length+1))=reps (x.l.length+1) [.nilsl]:=by
  rw [outC_none (m:=y.l.length) (rid:=ridG x.l.length)]
  exact outC_ext fun k hk=>by unfold hvG;simp;omega
 have hcl:Cl [elB x,elB y,.blk (outC x.l.length y.l.length (ridG x.l.length) (hvG (x.l.length+1))) false] :=
  (show Cl [elB x,elB y] from rfl).app (outC_ok fun i hi hh=>by unfold hvG at hh;simp at hh;omega)
 refine Rn.loop (VG x y s) (fun a=>[(12,.int .i64 ((a.k:Nat) - 1))]) (fun a=>a.h) (fun a=>a.k) ⟨x.l.length+1,[elB x,elB y,.blk (outC x.l.length y.l.length (ridG x.l.length) (hvG (x.l.length+1))) false],fun _ _=>0⟩ ⟨Nat.le_refl _,by show 3=3+(x.l.length+1 - (x.l.length+1));omega,hcl,rfl,rfl,rfl,fun i h1 h2=>by (try dsimp only at h1);omega,fun i j h1 h2=>by (try dsimp only at h1);omega⟩ (by dsimp only;rw [hout,show ((x.l.length+1:Nat):Int) - 1=(x.l.length:Nat) by omega];rfl) ?_
 rintro ⟨k,h,T⟩ ⟨w1,ln,cl,b0,b1,b3,br,eq⟩
 dsimp only at w1 ln cl b0 b1 b3 br eq ⊢
 have hlo:∀ q,(outC x.l.length y.l.length (ridG x.l.length) q).length=(x.l.length+1) * 1:=fun q=>by rw [outC_len,Nat.mul_one]
 have hlr:∀ f,(rowC y.l.length f).length=(y.l.length+1) * 1:=fun f=>by rw [rowC_len,Nat.mul_one]
 cases k with
 | zero =>
  have t0:=tab_get (n:=x.l.length) (m:=y.l.length) (i:=0) (T:=openT x y s) (by omega)
  have c0:=row_get (m:=y.l.length) (j:=0) (f:=openT x y s 0) (by omega)
  have o0:=outC_get (n:=x.l.length) (m:=y.l.length) (rid:=ridG x.l.length) (hv:=hvG 0) (i:=0) (by omega) (by unfold hvG;simp)
  have r0:=br 0 (Nat.le_refl _) (by omega)
  have q0:=rowC_get (m:=y.l.length) (j:=0) (f:=T 0) (by omega)
  rw [eq 0 0 (Nat.le_refl _) (by omega) (by omega)] at q0
  have z0:0<x.l.length+1:=by omega
  have z1:0<y.l.length+1:=by omega
  repeat' (first
 | (conv=>whnf)
   first
   | refine Br.f ?_
   | refine Rn.seq ?_
   | refine Rn.cond ?_
   | refine Rn.reg ?_
   | refine Rn.exit ?_
   | refine Rn.ret ?_
   | refine fLen.mk ?_
   | refine fB.i0 ?_
   | refine fB.mk ?_
   | refine Get.mk _ t0 ?_
   | refine Get.mk _ c0 ?_
   | refine Get.mk _ b3 ?_
   | refine Req.mk (hlo _) ?_
   | refine Get.mk _ o0 ?_
   | refine Get.mk _ r0 ?_
   | refine Req.mk (hlr _) ?_
   | refine Get.mk _ q0 ?_
   | (refine Idx.int ?_ ?_ ?_;(focus omega);(focus omega))
   | refine Get.mk _ rfl ?_
   | refine Leaves.of ?_
   | refine Vw.int ?_
   | refine Vw.tup ?_
   | refine VwL.cons ?_ ?_
   | refine VwL.nil
   | (refine Req.mk ?_ ?_;(focus first | rfl | decide | exact ⟨rfl,rfl⟩ | exact ⟨rfl,by decide⟩ | exact (fun _=>rfl) | exact (fun h=>nomatch h) | (simp;done) | omega | (simp [big];done) | exact le_big (by omega) | exact lt_big (by omega))))
  all_goals first | rfl | (exfalso;omega;done)
 | succ i =>
  have e5:((i+1:Nat):Int) - 1=(i:Nat):=by omega
  rw [e5]
  have hil:i≤x.l.length:=by omega
  have hr:h.length+0=ridG x.l.length i:=by unfold ridG;omega
  have hq3:(outC x.l.length y.l.length (ridG x.l.length) (hvG (i+1))).length=(x.l.length+1) * 1∧0+i * 1+1≤(outC x.l.length y.l.length (ridG x.l.length) (hvG (i+1))).length:=by rw [outC_len];omega
  have hov:over (outC x.l.length y.l.length (ridG x.l.length) (hvG (i+1))) (0+i * 1) [.ms 1 (h.length+0) ((y.l.length+1) * 1) 0 (y.l.length+1) (decide (y.l.length+1=y.l.length+1))]=outC x.l.length y.l.length (ridG x.l.length) (hvG i):=by
   rw [decide_eq_true rfl,hr,outC_set hil]
   exact outC_ext fun k hk=>by unfold hvG;by_cases h1:k=i <;> by_cases h2:i+1≤k <;> simp [h1,h2] <;> omega
  have hb1' : ∀ B0 B1:B,bget (bset (h++[B0]) (0+1+1+0) B1) (0+1)=some (elB y):=fun B0 B1=>by rw [bset_other (by decide)];exact bget_app b1
  repeat' (first
 | (conv=>whnf)
   first
   | refine Bnd.eq hbm ?_
   | refine Br.t ?_
   | refine Rn.seq ?_
   | refine Rn.block ?_
   | refine Rn.cond ?_
   | refine Rn.reg ?_
   | refine Rn.skip ?_
   | refine fLen.mk ?_
   | refine fB.i0 ?_
   | refine fB.i1 ?_
   | refine Get.newj 0 rfl rfl ?_
   | refine fB.newj 0 rfl ?_
   | refine fB.mk ?_
   | refine Get.mk _ (bget_app b1) ?_
   | refine Get.mk _ (hb1' _ _) ?_
   | refine Get.mk _ (bget_app b3) ?_
   | refine Req.mk hq3 ?_
   | refine fVg' hov ?_
   | (refine Idx.nat ?_ ?_;(focus omega))
   | refine Idx.nat (le_big (by omega)) ?_
   | refine Get.mk _ rfl ?_
   | (refine Req.mk ?_ ?_;(focus first | rfl | decide | exact ⟨rfl,rfl⟩ | exact ⟨rfl,by decide⟩ | exact (fun _=>rfl) | exact (fun h=>nomatch h) | (simp;done) | omega | (simp [big];done) | exact le_big (by omega) | exact lt_big (by omega))))
  all_goals try (exfalso;omega;done)
  obtain ⟨r,hrd⟩:∃ r,r=ridG x.l.length i:=⟨_,rfl⟩
  have hr4:r=h.length:=by rw [hrd];omega
  have hb3l:=bget_lt b3
  have hr3:2<r:=by omega
  obtain ⟨H,hH⟩:∃ H,H=bset (h++[.blk (rowC y.l.length (fun _=>0)) true]) 2 (.blk (outC x.l.length y.l.length (ridG x.l.length) (hvG i)) false):=⟨_,rfl⟩
  have hHl:H.length=h.length+1:=by rw [hH,bset_len,List.length_append];rfl
  have hHr:bget H r=some (.blk (rowC y.l.length (fun _=>0)) true):=by rw [hH,bset_other (by omega),hr4];exact bget_new (i:=0)
  have hH3:bget H 2=some (.blk (outC x.l.length y.l.length (ridG x.l.length) (hvG i)) false):=by rw [hH];exact bget_same (by rw [List.length_append];omega)
  have hHo:∀ o b,o≠2→bget h o=some b→bget H o=some b:=fun o b ho hb=>by rw [hH,bset_other (fun e=>ho e.symm)];exact bget_app hb
  have hHc:Cl H:=by
   rw [hH]
   refine (cl.app rowC_blo).set (outC_ok fun i' hi' hh => ?_)
   rw [List.length_append]
   unfold ridG
   unfold hvG at hh
   simp at hh ⊢
   omega
  have hL:∀ f,(bset H r (.blk (rowC y.l.length f) true)).length=h.length+1:=fun f=>by rw [bset_len,hHl]
  have hO:∀ f,bget (bset H r (.blk (rowC y.l.length f) true)) 2=some (.blk (outC x.l.length y.l.length (ridG x.l.length) (hvG i)) false):=fun f=>by rw [bset_other (by omega)];exact hH3
  have hR:∀ f,bget (bset H r (.blk (rowC y.l.length f) true)) r=some (.blk (rowC y.l.length f) true):=fun f=>bget_same (bget_lt hHr)
  have hE:∀ f o b,o≠2→o<r→bget h o=some b→bget (bset H r (.blk (rowC y.l.length f) true)) o=some b:=fun f o b h1 h2 h3=>by rw [bset_other (by omega)];exact hHo o b h1 h3
  have hS:∀ f f', bset (bset H r (.blk (rowC y.l.length f) true)) r (.blk (rowC y.l.length f') true)=bset H r (.blk (rowC y.l.length f') true):=fun f f' => bset_two
  have hst0:bset H r (.blk (rowC y.l.length (fun _=>0)) true)=H:=bset_same hHr
  refine Rn.loop (fun a:GI=>a.l≤y.l.length+1∧(∀ j,a.l≤j→j≤y.l.length→a.f j=cT x y s i j)∧∀ j,j<a.l→a.f j=0) (fun a=>[(13,.int .i64 ((a.l:Nat) - 1))]) (fun a=>bset H r (.blk (rowC y.l.length a.f) true)) (fun a=>a.l) ⟨y.l.length+1,fun _=>0⟩ ⟨Nat.le_refl _,fun j h1 h2=>by (try dsimp only at h1);omega,fun _ _=>rfl⟩ (by dsimp only;rw [hst0,hH,rowC_zero,show ((y.l.length+1:Nat):Int) - 1=(y.l.length:Nat) by omega];rfl) ?_
  rintro ⟨l,f⟩ ⟨v1,v2,v3⟩
  dsimp only at v1 v2 v3 ⊢
  have hB1:=fun f=>hE f 1 _ (by decide) (by omega) b1
  have hB0:=fun f=>hE f 0 _ (by decide) (by omega) b0
  have hnorm:∀ mk tm f,norm mk 3 ⟨tm,bset H r (.blk (rowC y.l.length f) true)⟩=⟨masked mk tm,bset H r (.blk (rowC y.l.length f) true)⟩:=fun mk tm f =>
   norm_all (r:=r) (o:=2) (by rw [hL];omega) (by omega) (by decide) (hO f) (fun k hk=>by rw [hrd];exact outC_blo hk hil (by unfold hvG;simp))
  cases l with
  | zero =>
   have hnext:VG x y s ⟨i,bset H r (.blk (rowC y.l.length f) true),fun i' => if i' = i then f else T i'⟩:=by
    refine ⟨by (try dsimp only);omega,by (try dsimp only);rw [hL];omega,hHc.set rowC_blo,hE f 0 _ (by decide) (by omega) b0,hE f 1 _ (by decide) (by omega) b1,hO f,fun i' h2 h3 => ?_,fun i' j h2 h3 h4 => ?_⟩
    ·dsimp only at h2 h3 ⊢
     by_cases he:i' = i
     ·subst he
      rw [if_pos rfl, ← hrd]
      exact hR f
     ·rw [if_neg he]
      exact hE f _ _ (by unfold ridG;omega) (by rw [hrd];unfold ridG;omega) (br i' (by omega) h3)
    ·dsimp only at h2 h3 h4 ⊢
     by_cases he:i' = i
     ·subst he
      rw [if_pos rfl]
      exact v2 j (Nat.zero_le _) h4
     ·rw [if_neg he]
      exact eq i' j (by omega) h3 h4
   repeat' (first
 | (conv=>whnf)
   first
   | refine Br.f ?_
   | (refine Bnd.i64 ?_ ?_ ?_;(focus omega);(focus omega))
   | refine Rn.seq ?_
   | refine Rn.cond ?_
   | refine Rn.reg ?_
   | refine Rn.exit ?_
   | refine fLen.mk ?_
   | refine fB.i0 ?_
   | refine fB.mk ?_)
   all_goals first | (exfalso;omega;done) | exact NextP.mk ⟨i,_,_⟩ hnext (Nat.lt_succ_self _) (hnorm _ _ _)
  | succ j =>
   have e6:((j+1:Nat):Int) - 1=(j:Nat):=by omega
   rw [e6]
   have hjl:j≤y.l.length:=by omega
   have hI0:i≤x.l.length+1 - 1:=by omega
   have hJ0:j≤y.l.length+1 - 1:=by omega
   have tw:=tab_get (n:=x.l.length) (m:=y.l.length) (i:=i) (T:=openT x y s) hil
   have cw:=row_get (m:=y.l.length) (j:=j) (f:=openT x y s i) hjl
   have go:=outC_get (n:=x.l.length) (m:=y.l.length) (rid:=ridG x.l.length) (hv:=hvG i) (i:=i) (by omega) (by unfold hvG;simp)
   rw [← hrd] at go
   have hnx:=next_ok (x:=x) (y:=y) (s:=s) (W:=openT x y s) (i:=i) (j:=j) ha hb hs hWr hil hjl
   have hct:=cT_eq (s:=s) ha hb hil hjl
   have hv:∀ c,c=cT x y s i j→(∀ j', j≤j' → j' ≤ y.l.length→up1 f j c j' = cT x y s i j')∧∀ j', j' < j→up1 f j c j' = 0:=fun c hc=>⟨fun j' h1 h2=>by
    by_cases he:j' = j
    ·subst he;rw [up1_same];exact hc
    ·rw [up1_other he];exact v2 j' (by omega) h2,fun j' h1=>by rw [up1_other (by omega)];exact v3 j' (by omega)⟩
   have hlr2:∀ f,(rowC y.l.length f).length=(y.l.length+1) * 1∧0+j * 1+1≤(rowC y.l.length f).length:=fun f=>by rw [rowC_len];omega
   have ho1:∀ v,over (rowC y.l.length f) (0+j * 1) [.int .i64 v]=rowC y.l.length (up1 f j v):=fun v=>rowC_set (by omega)
   have ho2:∀ v w,over (rowC y.l.length (up1 f j v)) (0+j * 1) [.int .i64 w]=rowC y.l.length (up1 f j w):=fun v w=>by rw [rowC_set (by omega),up1_two]
   by_cases hW:openT x y s i j=0
   ·rw [if_pos hW] at hct
    rw [bgA_zero (fun k l=>(hWr k l).1) hW] at hnx
    have hnx' : Fun FB md 58 [elA' x,elA' y,.int .i64 s,tabV x.l.length y.l.length (openT x y s),.int .i64 (i:Nat),.int .i64 (j:Nat)] (.sl true 0 []):=hnx
    have hv1:=hv 1 hct.symm
    repeat' (first
 | (conv=>whnf)
   first
   | refine Idx.nat hI0 ?_
   | refine Idx.nat hJ0 ?_
   | refine Br.t ?_
   | (refine Br.decT ?_ ?_;(focus first | assumption | omega))
   | refine Rn.seq ?_
   | refine Rn.block ?_
   | refine Rn.cond ?_
   | refine Rn.reg ?_
   | refine Rn.skip ?_
   | refine fLen.mk ?_
   | refine fB.i0 ?_
   | refine fB.as (hS _ _) ?_
   | refine fB.mk ?_
   | refine Get.mk _ (hO _) ?_
   | refine Get.mk _ (hR _) ?_
   | refine Get.mk _ (hB0 _) ?_
   | refine Get.mk _ (hB1 _) ?_
   | refine Get.mk _ go ?_
   | refine Get.mk _ tw ?_
   | refine Get.mk _ cw ?_
   | refine Req.mk (hlo _) ?_
   | refine Req.mk (hlr2 _) ?_
   | refine fVg' (ho1 _) ?_
   | refine call_fun rfl rfl hnx' (.inl rfl) ?_
   | refine Get.mk _ rfl ?_
   | (refine Req.mk ?_ ?_;(focus first | rfl | decide | exact ⟨rfl,rfl⟩ | exact ⟨rfl,by decide⟩ | exact (fun _=>rfl) | exact (fun h=>nomatch h) | (simp;done) | omega | (simp [big];done) | exact le_big (by omega) | exact lt_big (by omega))))
    all_goals try (exfalso;omega;done)
    refine Rn.loop (fun _:Unit=>True) (fun _=>[(15,.int .i64 0)]) (fun _=>bset H r (.blk (rowC y.l.length (up1 f j 1)) true)) (fun _=>0) () trivial rfl ?_
    rintro _ _
    repeat' (first
 | (conv=>whnf)
   first
   | refine Br.f ?_
   | (refine Bnd.i64 ?_ ?_ ?_;(focus omega);(focus omega))
   | refine Rn.seq ?_
   | refine Rn.cond ?_
   | refine Rn.reg ?_
   | refine Rn.exit ?_
   | refine fLen.mk ?_
   | refine fB.i0 ?_
   | refine fB.mk ?_)
    all_goals first | (exfalso;omega;done) | exact NextP.mk (⟨j,up1 f j 1⟩:GI) ⟨by (try dsimp only);omega,hv1.1,hv1.2⟩ (by (try dsimp only);omega) (norm_same ((hL _).trans (by rw [bset_len,List.length_append];rfl)))
   ·rw [if_neg hW] at hct
    have hPm:∀ p∈bgA (shA x.l y.l s) (openT x y s) x.l.length y.l.length i j,i≤p.1∧p.1<x.l.length∧j≤p.2∧p.2<y.l.length:=fun p hp=>bgs_mem (begins_same (s:=s) ha hb i j ▸ hp)
    have hPl:(bgA (shA x.l y.l s) (openT x y s) x.l.length y.l.length i j).length≤1600:=by
     have:=bgB_len (S:=shA x.l y.l s) (W:=openT x y s) (n:=x.l.length) (m:=y.l.length) (v:=openT x y s i j) (j:=j) hbl _ i rfl
     have e:(bgA (shA x.l y.l s) (openT x y s) x.l.length y.l.length i j).length≤40 * (x.l.length - i):=this
     omega
    generalize bgA (shA x.l y.l s) (openT x y s) x.l.length y.l.length i j=P at *
    obtain ⟨cl,hcl⟩:=lsP_eq (P.map pI)
    rw [List.length_map] at hcl
    rw [hcl] at hnx
    have hf0:up1 f j 0=f:=by
     funext j'
     by_cases he:j' = j
     ·subst he;rw [up1_same];exact (v3 j' (Nat.lt_succ_self _)).symm
     ·exact up1_other he
    repeat' (first
 | (conv=>whnf)
   first
   | refine Idx.nat hI0 ?_
   | refine Idx.nat hJ0 ?_
   | refine Br.t ?_
   | (refine Br.decF ?_ ?_;(focus first | assumption | omega))
   | refine Rn.seq ?_
   | refine Rn.block ?_
   | refine Rn.cond ?_
   | refine Rn.reg ?_
   | refine Rn.skip ?_
   | refine fLen.mk ?_
   | refine fB.i0 ?_
   | refine fB.mk ?_
   | refine Get.mk _ (hB0 _) ?_
   | refine Get.mk _ (hB1 _) ?_
   | refine Get.mk _ tw ?_
   | refine Get.mk _ cw ?_
   | refine call_fun rfl rfl hnx (.inl rfl) ?_
   | refine Get.mk _ rfl ?_
   | (refine Req.mk ?_ ?_;(focus first | rfl | decide | exact ⟨rfl,rfl⟩ | exact ⟨rfl,by decide⟩ | exact (fun _=>rfl) | exact (fun h=>nomatch h) | (simp;done) | omega | (simp [big];done) | exact le_big (by omega) | exact lt_big (by omega))))
    all_goals try (exfalso;omega;done)
    refine Rn.loop (fun a:GK=>a.k≤P.length∧a.c=(P.take a.k).foldl (fun c p=>min 1000000 (c+cT x y s (p.1+1) (p.2+1))) 0∧0≤a.c∧a.c≤1000000) (fun a=>[(15,.int .i64 (a.k:Nat))]) (fun a=>bset H r (.blk (rowC y.l.length (up1 f j a.c)) true)) (fun a=>P.length - a.k) ⟨0,0⟩ ⟨Nat.zero_le _,rfl,by (try dsimp only);decide,by (try dsimp only);decide⟩ (by dsimp only;rw [hf0];rfl) ?_
    rintro ⟨k,c⟩ ⟨u1,u2,u3,u4⟩
    dsimp only at u1 u2 u3 u4 ⊢
    by_cases hk:k<P.length
    rotate_left
    ·rw [List.take_of_length_le (by omega), ← hct] at u2
     have hv1:=hv c u2
     repeat' (first
 | (conv=>whnf)
   first
   | (refine Br.decF ?_ ?_;(focus first | assumption | omega))
   | (refine Bnd.i64 ?_ ?_ ?_;(focus omega);(focus omega))
   | refine Rn.seq ?_
   | refine Rn.cond ?_
   | refine Rn.reg ?_
   | refine Rn.exit ?_
   | refine fLen.mk ?_
   | refine fB.i0 ?_
   | refine fB.mk ?_)
     all_goals first | (exfalso;omega;done) | exact NextP.mk (⟨j,up1 f j c⟩:GI) ⟨by (try dsimp only);omega,hv1.1,hv1.2⟩ (by (try dsimp only);omega) (norm_same ((hL _).trans (by rw [bset_len,List.length_append];rfl)))
    obtain ⟨p,hp⟩:∃ p,P[k]?=some p:=⟨_,List.getElem?_eq_getElem hk⟩
    obtain ⟨m1,m2,m3,m4⟩:=hPm p (List.mem_of_getElem? hp)
    obtain ⟨hc0,hc1⟩:=pI_c hp
    have hw1:IntKind.i64.wrap ((p.1:Int)+1)=((p.1+1:Nat):Int):=by rw [wrap_i64 (by omega) (by omega)];omega
    have hw2:IntKind.i64.wrap ((p.2:Int)+1)=((p.2+1:Nat):Int):=by rw [wrap_i64 (by omega) (by omega)];omega
    have hkP:k≤P.length - 1:=by omega
    have hP0:0<P.length:=by omega
    have hI1:p.1+1≤x.l.length+1 - 1:=by omega
    have hJ1:p.2+1≤y.l.length+1 - 1:=by omega
    have go1:=outC_get (n:=x.l.length) (m:=y.l.length) (rid:=ridG x.l.length) (hv:=hvG i) (i:=p.1+1) (by omega) (by unfold hvG;simp;omega)
    have hU:∀ f,bget (bset H r (.blk (rowC y.l.length f) true)) (ridG x.l.length (p.1+1))=some (.blk (rowC y.l.length (T (p.1+1))) true):=fun f=>hE f _ _ (by unfold ridG;omega) (by rw [hrd];unfold ridG;omega) (br (p.1+1) (by omega) (by omega))
    have cu:=rowC_get (m:=y.l.length) (j:=p.2+1) (f:=T (p.1+1)) (by omega)
    rw [eq (p.1+1) (p.2+1) (by omega) (by omega) (by omega)] at cu
    have cs:∀ v,cellAt (rowC y.l.length (up1 f j v)) (0+j * 1)=some (.int .i64 v):=fun v=>by rw [rowC_get (by omega),up1_same]
    have rc:=hcr (p.1+1) (p.2+1) (by omega) (by omega)
    have hn1:∀ c', c' = min 1000000 (c+cT x y s (p.1+1) (p.2+1))→c' = (P.take (k+1)).foldl (fun c p=>min 1000000 (c+cT x y s (p.1+1) (p.2+1))) 0:=fun c' h=>by
     obtain ⟨h1,h2⟩:=List.getElem?_eq_some_iff.1 hp
     rw [← List.take_append_getElem h1,List.foldl_append, ← u2,h2]
     exact h
    generalize cT x y s (p.1+1) (p.2+1)=A at *
    repeat' (first
 | (conv=>whnf)
   first
   | refine Bnd.eq hw1 ?_
   | refine Bnd.eq hw2 ?_
   | refine Idx.nat hI0 ?_
   | refine Idx.nat hJ0 ?_
   | refine Idx.nat hI1 ?_
   | refine Idx.nat hJ1 ?_
   | refine Idx.nat hkP ?_
   | (refine Br.decT ?_ ?_;(focus first | assumption | omega))
   | (refine Bnd.i64 ?_ ?_ ?_;(focus omega);(focus omega))
   | refine Rn.seq ?_
   | refine Rn.block ?_
   | refine Rn.cond ?_
   | refine Rn.reg ?_
   | refine Rn.skip ?_
   | refine Req.mk hP0 ?_
   | refine fLen.mk ?_
   | refine fB.i0 ?_
   | refine fB.as (hS _ _) ?_
   | refine fB.mk ?_
   | refine Get.mk _ (hO _) ?_
   | refine Get.mk _ (hR _) ?_
   | refine Get.mk _ (hU _) ?_
   | refine Get.mk _ go ?_
   | refine Get.mk _ go1 ?_
   | refine Get.mk _ (cs _) ?_
   | refine Get.mk _ cu ?_
   | refine Get.mk _ hc0 ?_
   | refine Get.mk _ hc1 ?_
   | refine Req.mk (hlo _) ?_
   | refine Req.mk (hlr _) ?_
   | refine Req.mk (hlr2 _) ?_
   | refine fVg' (ho2 _ _) ?_
   | refine Bnd.any ?_
   | (refine Req.mk ?_ ?_;(focus first | rfl | decide | exact ⟨rfl,rfl⟩ | exact ⟨rfl,by decide⟩ | exact (fun _=>rfl) | exact (fun h=>nomatch h) | (simp;done) | omega | (simp [big];done) | exact le_big (by omega) | exact lt_big (by omega))))
    all_goals first | (exfalso;omega;done) | exact NextP.mk (⟨k+1,min 1000000 (c+A)⟩:GK) ⟨by (try dsimp only);omega,hn1 _ rfl,by (try dsimp only);omega,by (try dsimp only);omega⟩ (by (try dsimp only);omega) (norm_same ((hL _).trans (hL _).symm))
end Go.Dr.T
