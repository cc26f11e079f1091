/- Chapter 06: Surely, walked. -/
import Derived.Test.YtfhphjloaelgoaaGreatDoorR06S1
namespace Go.Dr.T
structure SA where
 j:Nat
 v6:V
 v7:V
 h:List B
 st:SS
 g:Nat→Nat→Int
structure SI (x y:El) (s:Int) (i L:Nat) (st0:SS) (a:SA):Prop where
 le:a.j≤y.l.length
 ln:L≤a.h.length
 sb:SB x y s a.h a.v6 a.v7 a.st a.g
 rg:∀ i j,0≤a.st.R i j∧a.st.R i j≤1
 lm:a.st.M.length≤41 * i+a.j∧a.st.S.length≤41 * i+a.j
 eq:sRow (openT x y s) (shA x.l y.l s) (wbT x.l y.l s) y.l.length i y.l.length st0=sRow (openT x y s) (shA x.l y.l s) (wbT x.l y.l s) y.l.length i (y.l.length - a.j) a.st
structure SO (x y:El) (s:Int) (L:Nat) (a:SA):Prop where
 le:a.j≤x.l.length
 ln:L≤a.h.length
 sb:SB x y s a.h a.v6 a.v7 a.st a.g
 rg:∀ i j,0≤a.st.R i j∧a.st.R i j≤1
 lm:a.st.M.length≤41 * a.j∧a.st.S.length≤41 * a.j
 eq:surelyS x y s=sAll (openT x y s) (shA x.l y.l s) (wbT x.l y.l s) x.l.length y.l.length (x.l.length - a.j) a.st
theorem fill_genG {a b:Sh} {s bi bj:Int} {g:Nat→Nat→Int} {h:List B} {p G:Nat} {K:V→List B→Prop} (hG:G=1684) (ha:shOk a.l) (hb:shOk b.l) (hs:0≤s∧s≤200000) (hg:∀ i j,a.l.length≤i∨b.l.length≤j→g i j=0) (hc:Cl h) (hp:bget h p=some (pB a b s g))
  (hk:K (.int .i64 (mixT g (wT a.l b.l s bi bj) a.l.length b.l.length 0 b.l.length 0 0)) (bset h p (pB a b s (mixT g (wT a.l b.l s bi bj) a.l.length b.l.length 0 b.l.length)))):CallP FB md 0 (.fn 80 []) [.ref p G 0,.agg [.int .i64 bi,.int .i64 bj]] h K:=by
 subst hG;exact fill_gen ha hb hs hg hc hp hk
theorem free_by {b:Bool} {A:Prop} (h:b=true) (hk:A):(match b with | true=>A | false=>False):=by subst h;exact hk
theorem sRow_step {W Sh Wb:Nat→Nat→Int} {m i j:Nat} {st:SS} (h:j<m):sRow W Sh Wb m i (m - j) st=sRow W Sh Wb m i (m - (j+1)) (sStep W Sh Wb i j st):=by
 rw [show m - j=(m - (j+1))+1 by omega,sRow,show m - (m - (j+1)+1)=j by omega]
theorem sAll_step {W Sh Wb:Nat→Nat→Int} {n m i:Nat} {st:SS} (h:i<n):sAll W Sh Wb n m (n - i) st=sAll W Sh Wb n m (n - (i+1)) (sRow W Sh Wb m i m st):=by
 rw [show n - i=(n - (i+1))+1 by omega,sAll,show n - (n - (i+1)+1)=i by omega]
set_option maxRecDepth 100000 in
set_option maxHeartbeats 20000000 in
theorem surely_ok {x y:El} {s:Int}:Fun FB md 45 [elA' x,elA' y,.int .i64 s] (surelyV x y s):=by
 have ho:=open_ok (x:=x) (y:=y) (s:=s)
 unfold openV at ho
 unfold surelyV
 by_cases he:openE x y s=0
 rotate_left
 ·rw [if_pos he] at ho ⊢
  generalize openE x y s=e at *
  refine fun_of c45_eq rfl ?_
  repeat' (first
 | (conv=>whnf)
   first
   | (refine Br.decF ?_ ?_;(focus first | assumption | omega))
   | refine Br.not ?_
   | refine call_fun rfl rfl ho (.inl rfl) ?_
   | refine Get.mk _ rfl ?_
   | refine Leaves.of ?_
   | refine Vw.int ?_
   | refine Vw.nil
   | refine Vw.tup ?_
   | refine VwL.cons ?_ ?_
   | refine VwL.nil
   | (refine Req.mk ?_ ?_;(focus first | rfl | decide | exact ⟨rfl,rfl⟩ | exact ⟨rfl,by decide⟩ | exact (fun _=>rfl) | exact (fun h=>nomatch h) | (simp;done) | omega | (simp [big];done) | exact le_big (by omega) | exact lt_big (by omega))))
  all_goals first | rfl | (exfalso;omega)
 obtain ⟨ha,hb,hs⟩:=open_good he
 rw [if_neg (fun h=>h he)] at ho ⊢
 have hal:=ha.1
 have hbl:=hb.1
 have hlz:∀ T,(tC T).length=zC.length:=fun T=>by rw [tC_len,zC_len]
 have c00:=pC_t (a:=x.sh) (b:=y.sh) (s:=s) (f:=openT x y s) (i:=0) (j:=0) (by decide) (by decide)
 have hWr:=openT_rng (s:=s) ha hb
 refine fun_rn c45_eq rfl ?_
 have hov2:over zC (0+0 * 41+0 * 1) [.int .i64 1]=tC (upT zT 0 0 1):=by rw [zC_eq];exact tC_set (by decide) (by decide)
 have hpt:part (pC x.sh y.sh s (openT x y s)) 0 1684=some (pC x.sh y.sh s (openT x y s)):=part_all pC_len
 have hc0:Cl [elB x,elB y,pB x.sh y.sh s (openT x y s),.blk (tC (upT zT 0 0 1)) false]:=((show Cl [elB x,elB y] from rfl).app (b:=pB x.sh y.sh s (openT x y s)) (pB_blo _)).app (b:=.blk (tC (upT zT 0 0 1)) false) tC_blk
 have hT0:∀ i j,x.l.length≤i∨y.l.length≤j→openT x y s i j=0:=fun i j h=>by
  rw [openT_eq]
  rcases h with h | h
  ·exact wT_end1 h
  ·exact wT_end2 h
 have hR0:∀ i j,0≤upT zT 0 0 1 i j∧upT zT 0 0 1 i j≤1:=fun i j=>by
  unfold upT zT
  split <;> decide
 have hl2:zC.length=zC.length∧0+0 * 41+0 * 1+1≤zC.length:=⟨rfl,by rw [zC_len];decide⟩
 repeat' (first
 | (conv=>whnf)
   first
   | refine Br.f ?_
   | refine Rn.seq ?_
   | refine Rn.cond ?_
   | refine Rn.reg ?_
   | refine Rn.skip ?_
   | refine call_fun rfl rfl ho (.inl rfl) ?_
   | refine Get.mk _ rfl ?_
   | (refine Req.mk ?_ ?_;(focus first | rfl | decide | exact ⟨rfl,rfl⟩ | exact ⟨rfl,by decide⟩ | exact (fun _=>rfl) | exact (fun h=>nomatch h) | (simp;done) | omega | (simp [big];done) | exact le_big (by omega) | exact lt_big (by omega))))
 refine Rn.meet msPre (fun f h' => f 10 = .int .i64 (openT x y s 0 0)∧f 11 = .ref 2 zP.length 0∧f 27 = .rp (pC x.sh y.sh s (openT x y s)) 0∧f 28 = .rp (pC x.sh y.sh s (openT x y s)) 0∧f 29 = .rp (pC x.sh y.sh s (openT x y s)) 3∧f 30 = .rp (pC x.sh y.sh s (openT x y s)) 3∧f 31 = .rp (pC x.sh y.sh s (openT x y s)) 3∧f 32 = .int .i64 (openT x y s 0 0)∧f 33 = .rp (pC x.sh y.sh s (openT x y s)) 0∧f 34 = .rp (pC x.sh y.sh s (openT x y s)) 0∧f 35 = .agg (pC x.sh y.sh s (openT x y s))∧h' = [elB x,elB y,.blk (pC x.sh y.sh s (openT x y s)) false]) ?_ ?_
 ·unfold kPre
  clear ho
  have hzz:=zP_len
  have hC1:=pC_len (a:=x.sh) (b:=y.sh) (s:=s) (f:=openT x y s)
  have hC2:=pC_ones (a:=x.sh) (b:=y.sh) (s:=s) (f:=openT x y s)
  generalize pC x.sh y.sh s (openT x y s)=C at *
  generalize zP=Z at *
  conv=>whnf
  refine Rn.reg ?_
  conv=>whnf
  refine Idx.int (by decide) (by decide) ?_
  conv=>whnf
  refine Idx.int (by decide) (by decide) ?_
  conv=>whnf
  refine Get.mk _ c00 ?_
  conv=>whnf
  refine Get.mk _ hpt ?_
  conv=>whnf
  refine fV.mk ?_
  conv=>whnf
  refine Get.mk _ rfl ?_
  refine fB.mk ?_
  unfold wPut
  refine fW.mk ?_
  refine fV.mk ?_
  refine free_by (by rfl) ?_
  unfold wDraw wG wop wPut
  refine fW.mk ?_
  refine fV.mk ?_
  refine free_by (by rfl) ?_
  unfold oSt
  refine wDraw_stP (id:=2) (Z:=Z) (C:=C) ?_ ?_ hC1 hzz hC2 ?_ ?_ ?_
  ·rfl
  ·rfl
  ·rfl
  ·rfl
  ·refine Meets.of rfl (by repeat (first | exact trivial | refine ⟨rfl,?_⟩ | exact rfl)) ⟨rfl,rfl,rfl,rfl,rfl,rfl,rfl,rfl,rfl,rfl,rfl,rfl⟩
 rintro f h' ⟨e10,e11,e27,e28,e29,e30,e31,e32,e33,e34,e35,rfl⟩
 repeat' (first
 | (conv=>whnf)
   first
   | refine Rn.seq ?_)
 rw [e10,e11,e27,e28,e29,e30,e31,e32,e33,e34,e35]
 unfold kZer
 repeat' (first
 | (conv=>whnf)
   first
   | refine Rn.seq ?_
   | refine Rn.reg ?_
   | refine Get.mk _ rfl ?_)
 unfold kOne
 repeat' (first
 | (conv=>whnf)
   first
   | refine Rn.seq ?_
   | refine Rn.reg ?_
   | refine Req.mk hl2 ?_
   | refine fVg' hov2 ?_
   | (refine Idx.int ?_ ?_ ?_;(focus omega);(focus omega))
   | refine Get.mk _ rfl ?_
   | (refine Req.mk ?_ ?_;(focus first | rfl | decide | exact ⟨rfl,rfl⟩ | exact ⟨rfl,by decide⟩ | exact (fun _=>rfl) | exact (fun h=>nomatch h) | (simp;done) | omega | (simp [big];done) | exact le_big (by omega) | exact lt_big (by omega))))
 unfold kLoops
 refine Rn.block ?_
 refine Rn.loop (SO x y s 4) (fun a=>[(6,a.v6),(7,a.v7),(41,.int .i64 (a.j:Nat))]) (fun a=>a.h) (fun a=>x.l.length - a.j) ⟨0,.nilsl,.nilsl,[elB x,elB y,pB x.sh y.sh s (openT x y s),.blk (tC (upT zT 0 0 1)) false],⟨upT zT 0 0 1,[],[]⟩,openT x y s⟩ ⟨Nat.zero_le _,Nat.le_refl _,⟨hc0,rfl,rfl,rfl,rfl,hT0,.inl ⟨rfl,rfl⟩,.inl ⟨rfl,rfl⟩,.inr (.inl rfl)⟩,hR0,⟨Nat.zero_le _,Nat.zero_le _⟩,rfl⟩ rfl ?_
 rintro ⟨i,v6,v7,h,st,g⟩ ⟨w1,w2,w3,w4,wl,w5⟩
 dsimp only at w1 w2 w3 w4 wl w5 ⊢
 have q0:=w3.b0
 have q1:=w3.b1
 by_cases hi:i<x.l.length
 rotate_left
 ·have hres:surelyS x y s=st:=by rw [w5,show x.l.length - i=0 by omega];rfl
  rw [hres]
  have hvw:Vw h depth (.tup [v6,v7,.int .i64 0]) (.tup [lsP st.S,lsP st.M,.int .i64 0]):=Vw.tup (d:=63) (VwL.cons (w3.l6.view (d:=61)) (VwL.cons (w3.l7.view (d:=61)) (VwL.cons (Vw.int (d:=62) rfl) VwL.nil)))
  rcases w3.l6 with ⟨_,e6⟩ | ⟨_,_,e6,_⟩ <;> rcases w3.l7 with ⟨_,e7⟩ | ⟨_,_,e7,_⟩ <;> subst e6 <;> subst e7
  all_goals
   repeat' (first
 | (conv=>whnf)
   first
   | refine hvw
   | (refine Br.decF ?_ ?_;(focus first | assumption | omega))
   | refine Rn.seq ?_
   | refine Rn.cond ?_
   | refine Rn.reg ?_
   | refine Rn.exit ?_
   | refine Rn.ret ?_
   | refine fLen.mk ?_
   | refine fB.i0 ?_
   | refine fB.mk ?_
   | refine Get.mk _ rfl ?_
   | refine Leaves.of ?_)
  all_goals first | (exfalso;omega;done)
 have hi0:i<41:=by omega
 repeat' (first
 | (conv=>whnf)
   first
   | (refine Br.decT ?_ ?_;(focus first | assumption | omega))
   | refine Rn.seq ?_
   | refine Rn.block ?_
   | refine Rn.cond ?_
   | refine Rn.reg ?_
   | refine Rn.skip ?_
   | refine fLen.mk ?_
   | refine fB.i0 ?_
   | refine fB.mk ?_
   | refine Get.mk _ q1 ?_
   | refine Get.mk _ rfl ?_
   | (refine Req.mk ?_ ?_;(focus first | rfl | decide | exact ⟨rfl,rfl⟩ | exact ⟨rfl,by decide⟩ | exact (fun _=>rfl) | exact (fun h=>nomatch h) | (simp;done) | omega | (simp [big];done) | exact le_big (by omega) | exact lt_big (by omega))))
 all_goals try (exfalso;omega)
 refine Rn.loopM ms67 ⟨w3.l6.alive,w3.l7.alive,trivial⟩ (SI x y s i h.length st) (fun a=>[(6,a.v6),(7,a.v7),(47,.int .i64 (a.j:Nat))]) (fun a=>a.h) (fun a=>y.l.length - a.j) ⟨0,v6,v7,h,st,g⟩ ⟨Nat.zero_le _,Nat.le_refl _,w3,w4,wl,rfl⟩ rfl ?_
 rintro ⟨j,u6,u7,k,st', g'⟩ ⟨z1,z2,z3,z4,zl,z5⟩
 dsimp only at z1 z2 z3 z4 zl z5 ⊢
 have p0:=z3.b0
 have p1:=z3.b1
 by_cases hj:j<y.l.length
 rotate_left
 ·repeat' (first
 | (conv=>whnf)
   first
   | (refine Br.decF ?_ ?_;(focus first | assumption | omega))
   | (refine Bnd.i64 ?_ ?_ ?_;(focus omega);(focus omega))
   | refine Rn.seq ?_
   | refine Rn.cond ?_
   | refine Rn.reg ?_
   | refine Rn.exit ?_
   | refine fLen.mk ?_
   | refine fB.i0 ?_
   | refine fB.mk ?_)
  all_goals try (exfalso;omega)
  have e3:sRow (openT x y s) (shA x.l y.l s) (wbT x.l y.l s) y.l.length i y.l.length st=st' := by rw [z5,show y.l.length - j=0 by omega];rfl
  refine NextP.of (fun N=>(⟨i+1,u6,u7,N,st', g'⟩:SA)) ⟨hi,?_,?_,z4,by (try dsimp only);omega,?_⟩ (by (try dsimp only);omega) rfl
  ·exact norm_len (Nat.le_trans w2 z2)
  ·exact SB.norm (Nat.le_trans w2 z2) z3 rfl rfl rfl rfl rfl rfl
  ·rw [w5,sAll_step hi,e3]
 have hj0:j<41:=by omega
 have hlk:=bget_lt z3.b3
 have hR:=tC_get (f:=st'.R) hi0 hj0
 repeat' (first
 | (conv=>whnf)
   first
   | refine Idx.nat (Nat.le_of_lt_succ hi0) ?_
   | refine Idx.nat (Nat.le_of_lt_succ hj0) ?_
   | (refine Br.decT ?_ ?_;(focus first | assumption | omega))
   | refine Rn.seq ?_
   | refine Rn.block ?_
   | refine Rn.cond ?_
   | refine Rn.reg ?_
   | refine Rn.skip ?_
   | refine fLen.mk ?_
   | refine fB.i0 ?_
   | refine fB.i1 ?_
   | refine Get.newj 0 rfl rfl ?_
   | refine fB.newj 0 rfl ?_
   | refine fB.mk ?_
   | refine Get.mk _ (bget_app z3.b3) ?_
   | refine Req.mk (hlz _) ?_
   | refine Get.mk _ hR ?_
   | refine Get.mk _ rfl ?_
   | (refine Req.mk ?_ ?_;(focus first | rfl | decide | exact ⟨rfl,rfl⟩ | exact ⟨rfl,by decide⟩ | exact (fun _=>rfl) | exact (fun h=>nomatch h) | (simp;done) | omega | (simp [big];done) | exact le_big (by omega) | exact lt_big (by omega))))
 all_goals try (exfalso;omega)
 generalize hkk:k++[B.blk [V.int .i64 (i:Nat),.int .i64 (j:Nat)] false]=kb at *
 have sbk:SB x y s kb u6 u7 st' g' := hkk ▸ z3.app rfl
 have lkb:kb.length=k.length+1:=by rw [← hkk];simp
 have bxk:bget kb (k.length+0)=some (.blk [V.int .i64 (i:Nat),.int .i64 (j:Nat)] false):=by rw [← hkk];exact bget_new (i:=0)
 obtain ⟨u,hu⟩:∃ u,x.l[i]?=some u:=⟨_,List.getElem?_eq_getElem hi⟩
 obtain ⟨w,hw⟩:∃ w,y.l[j]?=some w:=⟨_,List.getElem?_eq_getElem hj⟩
 have hS:shA x.l y.l s i j=shr s u w:=by unfold shA;rw [List.getD_eq_getElem?_getD,hu,List.getD_eq_getElem?_getD,hw];rfl
 have hum:=ha.2 u (List.mem_of_getElem? hu)
 have hwm:=hb.2 w (List.mem_of_getElem? hw)
 have rs:=shr_rng (s:=s) (x:=u) (y:=w) ⟨hum.2.2.1,hum.2.2.2⟩ ⟨hwm.2.2.1,hwm.2.2.2⟩
 have hsh:=share_fun (f:=openT x y s) (a:=x.sh) (b:=y.sh) ha hb hs hu hw
 have hi1:i+1<41:=by omega
 have hj1:j+1<41:=by omega
 have fx:∀ p q:Nat,0+3+p * 41+q * 1=3+p * 41+q:=fun p q=>by omega
 have cij:=pC_t (a:=x.sh) (b:=y.sh) (s:=s) (f:=openT x y s) (i:=i) (j:=j) hi0 hj0
 have cdj:=pC_t (a:=x.sh) (b:=y.sh) (s:=s) (f:=openT x y s) (i:=i+1) (j:=j) hi1 hj0
 have cir:=pC_t (a:=x.sh) (b:=y.sh) (s:=s) (f:=openT x y s) (i:=i) (j:=j+1) hi0 hj1
 have cdr:=pC_t (a:=x.sh) (b:=y.sh) (s:=s) (f:=openT x y s) (i:=i+1) (j:=j+1) hi1 hj1
 rw [← fx] at cij cdj cir cdr
 have hbi:IntKind.i64.wrap ((i:Int)+1)=((i+1:Nat):Int):=by rw [wrap_i64 (by omega) (by omega)];omega
 have hbj:IntKind.i64.wrap ((j:Int)+1)=((j+1:Nat):Int):=by rw [wrap_i64 (by omega) (by omega)];omega
 have rdr:=hWr (i+1) (j+1)
 have hst:=fun (T:Nat→Nat→Int) (p q:Nat) (hp:p<41) (hq:q<41)=>(⟨hlz T,by rw [tC_len];omega⟩:(tC T).length=zC.length∧0+p * 41+q * 1+1≤(tC T).length)
 have hrg:=sStep_rg (W:=openT x y s) (Sh:=shA x.l y.l s) (Wb:=wbT x.l y.l s) (i:=i) (j:=j) z4
 have hlen:=sStep_len (W:=openT x y s) (Sh:=shA x.l y.l s) (Wb:=wbT x.l y.l s) (i:=i) (j:=j) (st:=st')
 have hrow:=sRow_step (W:=openT x y s) (Sh:=shA x.l y.l s) (Wb:=wbT x.l y.l s) (i:=i) (st:=st') hj
 refine Rn.meet msBody (fun f h' => ∃ g'', SB x y s h' (f 6) (f 7) (sStep (openT x y s) (shA x.l y.l s) (wbT x.l y.l s) i j st') g'' ∧ k.length+1≤h'.length) ?_ ?_
 rotate_left
 ·rintro f h' ⟨g'', sb', hl'⟩
  repeat' (first
 | (conv=>whnf)
   first
   | (refine Bnd.i64 ?_ ?_ ?_;(focus omega);(focus omega))
   | refine Rn.reg ?_
   | refine fLen.mk ?_
   | refine fB.i0 ?_)
  all_goals try (exfalso;omega)
  have hlh:h.length≤h'.length:=by omega
  refine NextP.of (fun N=>(⟨j+1,f 6,f 7,N,sStep (openT x y s) (shA x.l y.l s) (wbT x.l y.l s) i j st', g''⟩:SA)) ⟨hj,?_,?_,hrg,by (try dsimp only);omega,?_⟩ (by (try dsimp only);omega) rfl
  ·exact norm_len hlh
  ·exact SB.norm hlh sb' rfl rfl rfl rfl rfl rfl
  ·rw [z5,hrow]
 have bx0:∀ n:Nat,n<4→n≠k.length+0:=fun n hn=>by omega
 unfold kBody
 by_cases hRp:0<st'.R i j
 rotate_left
 ·have hstep:sStep (openT x y s) (shA x.l y.l s) (wbT x.l y.l s) i j st' = st' := by unfold sStep;rw [if_neg hRp]
  repeat' (first
 | (conv=>whnf)
   first
   | (refine Br.decF ?_ ?_;(focus first | assumption | omega))
   | refine Rn.cond ?_
   | refine Rn.skip ?_)
  all_goals first | (exfalso;omega;done) | exact Meets.of rfl (by repeat (first | exact trivial | refine ⟨rfl,?_⟩ | exact rfl)) ⟨g', by rw [hstep];exact sbk,by omega⟩
 repeat' (first
 | (conv=>whnf)
   first
   | (refine Br.decT ?_ ?_;(focus first | assumption | omega))
   | refine Rn.seq ?_
   | refine Rn.cond ?_)
 all_goals try (exfalso;omega;done)
 refine Rn.meet msDown (fun f h' => ∃ R1,R1=sDown (openT x y s) i j st'.R∧SB x y s h' u6 u7 ⟨R1,st'.M,st'.S⟩ g' ∧ h'.length=kb.length∧bget h' (k.length+0)=some (.blk [V.int .i64 (i:Nat),.int .i64 (j:Nat)] false)) ?_ ?_
 ·unfold kDown
  by_cases hd:openT x y s (i+1) j=openT x y s i j
  ·have ts:=tC_set (f:=st'.R) (v:=1) hi1 hj0
   have hs2:=hst st'.R (i+1) j hi1 hj0
   repeat' (first
 | (conv=>whnf)
   first
   | refine Bnd.eq hbi ?_
   | refine Idx.nat (Nat.le_of_lt_succ hi0) ?_
   | refine Idx.nat (Nat.le_of_lt_succ hj0) ?_
   | refine Idx.nat (Nat.le_of_lt_succ hi1) ?_
   | (refine Br.decT ?_ ?_;(focus first | assumption | omega))
   | refine Rn.seq ?_
   | refine Rn.cond ?_
   | refine Rn.reg ?_
   | refine fLen.mk ?_
   | refine fB.i0 ?_
   | refine fB.mk ?_
   | refine Get.mk _ cij ?_
   | refine Get.mk _ cdj ?_
   | refine Get.mk _ sbk.b3 ?_
   | refine Req.mk hs2 ?_
   | refine fVg' ts ?_
   | (refine Req.mk ?_ ?_;(focus first | rfl | decide | exact ⟨rfl,rfl⟩ | exact ⟨rfl,by decide⟩ | exact (fun _=>rfl) | exact (fun h=>nomatch h) | (simp;done) | omega | (simp [big];done) | exact le_big (by omega) | exact lt_big (by omega))))
   all_goals first | (exfalso;omega;done) | exact Meets.of rfl (by repeat (first | exact trivial | refine ⟨rfl,?_⟩ | exact rfl)) ⟨upT st'.R (i+1) j 1,by unfold sDown;rw [if_pos hd],sbk.setR,bset_len .., by rw [bset_other (bx0 3 (by decide))];exact bxk⟩
  ·repeat' (first
 | (conv=>whnf)
   first
   | refine Bnd.eq hbi ?_
   | refine Idx.nat (Nat.le_of_lt_succ hi0) ?_
   | refine Idx.nat (Nat.le_of_lt_succ hj0) ?_
   | refine Idx.nat (Nat.le_of_lt_succ hi1) ?_
   | (refine Br.decF ?_ ?_;(focus first | assumption | omega))
   | refine Rn.seq ?_
   | refine Rn.cond ?_
   | refine Rn.reg ?_
   | refine Rn.skip ?_
   | refine fLen.mk ?_
   | refine fB.i0 ?_
   | refine Get.mk _ cij ?_
   | refine Get.mk _ cdj ?_)
   all_goals first | (exfalso;omega;done) | exact Meets.of rfl (by repeat (first | exact trivial | refine ⟨rfl,?_⟩ | exact rfl)) ⟨st'.R,by unfold sDown;rw [if_neg hd],sbk,rfl,bxk⟩
 rintro f1 h1 ⟨R1,e1,sb1,l1,bx1⟩
 repeat' (first
 | (conv=>whnf)
   first
   | refine Rn.seq ?_)
 refine Rn.meet msRight (fun f h' => ∃ R1,R1=sRight (openT x y s) i j (sDown (openT x y s) i j st'.R)∧SB x y s h' u6 u7 ⟨R1,st'.M,st'.S⟩ g' ∧ h'.length=kb.length∧bget h' (k.length+0)=some (.blk [V.int .i64 (i:Nat),.int .i64 (j:Nat)] false)) ?_ ?_
 ·unfold kRight
  by_cases hd:openT x y s i (j+1)=openT x y s i j
  ·have ts:=tC_set (f:=R1) (v:=1) hi0 hj1
   have hs2:=hst R1 i (j+1) hi0 hj1
   repeat' (first
 | (conv=>whnf)
   first
   | refine Bnd.eq hbj ?_
   | refine Idx.nat (Nat.le_of_lt_succ hi0) ?_
   | refine Idx.nat (Nat.le_of_lt_succ hj0) ?_
   | refine Idx.nat (Nat.le_of_lt_succ hj1) ?_
   | (refine Br.decT ?_ ?_;(focus first | assumption | omega))
   | refine Rn.seq ?_
   | refine Rn.cond ?_
   | refine Rn.reg ?_
   | refine fLen.mk ?_
   | refine fB.i0 ?_
   | refine fB.mk ?_
   | refine Get.mk _ cij ?_
   | refine Get.mk _ cir ?_
   | refine Get.mk _ sb1.b3 ?_
   | refine Req.mk hs2 ?_
   | refine fVg' ts ?_
   | (refine Req.mk ?_ ?_;(focus first | rfl | decide | exact ⟨rfl,rfl⟩ | exact ⟨rfl,by decide⟩ | exact (fun _=>rfl) | exact (fun h=>nomatch h) | (simp;done) | omega | (simp [big];done) | exact le_big (by omega) | exact lt_big (by omega))))
   all_goals first | (exfalso;omega;done) | exact Meets.of rfl (by repeat (first | exact trivial | refine ⟨rfl,?_⟩ | exact rfl)) ⟨upT R1 i (j+1) 1,by unfold sRight;rw [if_pos hd,e1],sb1.setR,(bset_len ..).trans l1,by rw [bset_other (bx0 3 (by decide))];exact bx1⟩
  ·repeat' (first
 | (conv=>whnf)
   first
   | refine Bnd.eq hbj ?_
   | refine Idx.nat (Nat.le_of_lt_succ hi0) ?_
   | refine Idx.nat (Nat.le_of_lt_succ hj0) ?_
   | refine Idx.nat (Nat.le_of_lt_succ hj1) ?_
   | (refine Br.decF ?_ ?_;(focus first | assumption | omega))
   | refine Rn.seq ?_
   | refine Rn.cond ?_
   | refine Rn.reg ?_
   | refine Rn.skip ?_
   | refine fLen.mk ?_
   | refine fB.i0 ?_
   | refine Get.mk _ cij ?_
   | refine Get.mk _ cir ?_)
   all_goals first | (exfalso;omega;done) | exact Meets.of rfl (by repeat (first | exact trivial | refine ⟨rfl,?_⟩ | exact rfl)) ⟨R1,by unfold sRight;rw [if_neg hd,e1],sb1,l1,bx1⟩
 clear sb1 l1 bx1 e1
 rintro f2 h2 ⟨R2,e2,sb2,l2,bx2⟩
 by_cases hp:0<shr s u w∧shr s u w+openT x y s (i+1) (j+1)=openT x y s i j
 rotate_left
 ·have hstep:sStep (openT x y s) (shA x.l y.l s) (wbT x.l y.l s) i j st' = ⟨R2,st'.M,st'.S⟩:=by unfold sStep;rw [if_pos hRp,hS,if_neg hp,e2]
  by_cases hS0:0<shr s u w
  ·have hne:¬ shr s u w+openT x y s (i+1) (j+1)=openT x y s i j:=fun h=>hp ⟨hS0,h⟩
   repeat' (first
 | (conv=>whnf)
   first
   | refine Bnd.eq hbi ?_
   | refine Bnd.eq hbj ?_
   | refine Idx.nat (Nat.le_of_lt_succ hi0) ?_
   | refine Idx.nat (Nat.le_of_lt_succ hj0) ?_
   | refine Idx.nat (Nat.le_of_lt_succ hi1) ?_
   | refine Idx.nat (Nat.le_of_lt_succ hj1) ?_
   | (refine Br.decT ?_ ?_;(focus first | assumption | omega))
   | (refine Br.decF ?_ ?_;(focus first | assumption | omega))
   | (refine Bnd.i64 ?_ ?_ ?_;(focus omega);(focus omega))
   | refine Rn.seq ?_
   | refine Rn.cond ?_
   | refine Rn.reg ?_
   | refine Rn.skip ?_
   | refine fLen.mk ?_
   | refine fB.i0 ?_
   | refine Get.mk _ cij ?_
   | refine Get.mk _ cdr ?_
   | refine call_fun rfl rfl hsh (.inl rfl) ?_)
   all_goals first | (exfalso;omega;done) | exact Meets.of rfl (by repeat (first | exact trivial | refine ⟨rfl,?_⟩ | exact rfl)) ⟨g', by rw [hstep];exact sb2,by omega⟩
  ·repeat' (first
 | (conv=>whnf)
   first
   | refine Br.f ?_
   | (refine Br.decF ?_ ?_;(focus first | assumption | omega))
   | refine Rn.seq ?_
   | refine Rn.cond ?_
   | refine Rn.reg ?_
   | refine Rn.skip ?_
   | refine fLen.mk ?_
   | refine fB.i0 ?_
   | refine call_fun rfl rfl hsh (.inl rfl) ?_)
   all_goals first | (exfalso;omega;done) | exact Meets.of rfl (by repeat (first | exact trivial | refine ⟨rfl,?_⟩ | exact rfl)) ⟨g', by rw [hstep];exact sb2,by omega⟩
 obtain ⟨hS0,heq⟩:=hp
 repeat' (first
 | (conv=>whnf)
   first
   | refine Bnd.eq hbi ?_
   | refine Bnd.eq hbj ?_
   | refine Idx.nat (Nat.le_of_lt_succ hi0) ?_
   | refine Idx.nat (Nat.le_of_lt_succ hj0) ?_
   | refine Idx.nat (Nat.le_of_lt_succ hi1) ?_
   | refine Idx.nat (Nat.le_of_lt_succ hj1) ?_
   | (refine Br.decT ?_ ?_;(focus first | assumption | omega))
   | (refine Bnd.i64 ?_ ?_ ?_;(focus omega);(focus omega))
   | refine Rn.seq ?_
   | refine Rn.cond ?_
   | refine Rn.reg ?_
   | refine fLen.mk ?_
   | refine fB.i0 ?_
   | refine Get.mk _ cij ?_
   | refine Get.mk _ cdr ?_
   | refine call_fun rfl rfl hsh (.inl rfl) ?_)
 all_goals try (exfalso;omega;done)
 obtain ⟨R,M,S⟩:=st'
 dsimp only at *
 have hst3:sStep (openT x y s) (shA x.l y.l s) (wbT x.l y.l s) i j ⟨R,M,S⟩=⟨upT R2 (i+1) (j+1) 1,M++[prI i j],if wbT x.l y.l s i j<openT x y s 0 0 then S++[prI i j] else S⟩:=by
  unfold sStep
  rw [if_pos hRp,hS,if_pos ⟨hS0,heq⟩]
  dsimp only
  rw [← e2]
 refine Rn.meet msR3 (fun f h' => SB x y s h' u6 u7 ⟨upT R2 (i+1) (j+1) 1,M,S⟩ g' ∧ h'.length=kb.length∧bget h' (k.length+0)=some (.blk [V.int .i64 (i:Nat),.int .i64 (j:Nat)] false)) ?_ ?_
 ·unfold kR3
  have ts:=tC_set (f:=R2) (v:=1) hi1 hj1
  have hs2:=hst R2 (i+1) (j+1) hi1 hj1
  repeat' (first
 | (conv=>whnf)
   first
   | refine Bnd.eq hbi ?_
   | refine Bnd.eq hbj ?_
   | refine Idx.nat (Nat.le_of_lt_succ hi1) ?_
   | refine Idx.nat (Nat.le_of_lt_succ hj1) ?_
   | refine Rn.reg ?_
   | refine fLen.mk ?_
   | refine fB.i0 ?_
   | refine fB.mk ?_
   | refine Get.mk _ sb2.b3 ?_
   | refine Req.mk hs2 ?_
   | refine fVg' ts ?_
   | (refine Req.mk ?_ ?_;(focus first | rfl | decide | exact ⟨rfl,rfl⟩ | exact ⟨rfl,by decide⟩ | exact (fun _=>rfl) | exact (fun h=>nomatch h) | (simp;done) | omega | (simp [big];done) | exact le_big (by omega) | exact lt_big (by omega))))
  all_goals first | (exfalso;omega;done) | exact Meets.of rfl (by repeat (first | exact trivial | refine ⟨rfl,?_⟩ | exact rfl)) ⟨sb2.setR,(bset_len ..).trans l2,by rw [bset_other (bx0 3 (by decide))];exact bx2⟩
 clear sb2 l2 bx2
 rintro f3 h3 ⟨sb3,l3,bx3⟩
 have hm40:M.length≤1681∧S.length≤1681:=by omega
 have bxp:part [V.int .i64 (i:Nat),.int .i64 (j:Nat)] 0 2=some [V.int .i64 (i:Nat),.int .i64 (j:Nat)]:=rfl
 repeat' (first
 | (conv=>whnf)
   first
   | refine Rn.seq ?_)
 refine Rn.meet msMay (fun f h' => SB x y s h' u6 (f 7) ⟨upT R2 (i+1) (j+1) 1,M++[prI i j],S⟩ g' ∧ kb.length≤h'.length∧bget h' (k.length+0)=some (.blk [V.int .i64 (i:Nat),.int .i64 (j:Nat)] false)) ?_ ?_
 ·unfold kMay
  have bx3' : ∀ r,bget (h3++r) (k.length+0)=some (.blk [V.int .i64 (i:Nat),.int .i64 (j:Nat)] false):=fun r=>bget_app bx3
  rcases sb3.l7 with ⟨e7,e8⟩ | ⟨q,e7,e8,e9⟩
  ·subst e7;subst e8
   repeat' (first
 | (conv=>whnf)
   first
   | refine Rn.reg ?_
   | refine fLen.mk ?_
   | refine fB.i1 ?_
   | refine Get.mk _ (bx3' _) ?_
   | refine Req.mk (bget_new (i:=0)) ?_
   | refine Get.newj 0 rfl rfl ?_
   | refine fB.newj 0 rfl ?_
   | (refine Ifz.pos ?_ ?_;(focus omega))
   | refine Get.mk _ rfl ?_
   | (refine Req.mk ?_ ?_;(focus first | rfl | decide | exact ⟨rfl,rfl⟩ | exact ⟨rfl,by decide⟩ | exact (fun _=>rfl) | exact (fun h=>nomatch h) | (simp;done) | omega | (simp [big];done) | exact le_big (by omega) | exact lt_big (by omega))))
   all_goals first | (exfalso;omega;done) | exact Meets.of rfl (by repeat (first | exact trivial | refine ⟨rfl,?_⟩ | exact rfl)) ⟨sb3.newM (p:=prI i j),by rw [List.length_append];omega,bx3' _⟩
  ·subst e8
   have hne:q+4≠k.length+0:=fun e=>by
    rw [e,bx3] at e9
    simp only [Option.some.injEq,B.blk.injEq] at e9
    exact absurd e9.2 (by decide)
   have hgr:=sb3.growM (p:=prI i j) e7
   have hrq:0+M.length * 2=M.length * 2∧((shC M).length+[V.int .i64 (i:Nat),.int .i64 (j:Nat)].length) * (16+1)<big:=by
    refine ⟨by omega,?_⟩
    rw [shC_length]
    simp only [List.length_cons,List.length_nil,big]
    omega
   have hval:V.ms 2 (q+4) ((M++[prI i j]).length * 2) 0 (M++[prI i j]).length false=V.ms 2 (q+4) (M.length * 2+[V.int .i64 (i:Nat),.int .i64 (j:Nat)].length) 0 (M.length+1) false:=by
    simp only [List.length_append,List.length_cons,List.length_nil,V.ms.injEq,true_and,and_true]
    omega
   rw [hval,shC_appS] at hgr
   repeat' (first
 | (conv=>whnf)
   first
   | refine Rn.reg ?_
   | refine fLen.mk ?_
   | refine fB.i1 ?_
   | refine Get.mk _ (bx3' _) ?_
   | refine Get.mk _ (bget_app e9) ?_
   | refine Req.mk (shC_length _) ?_
   | refine Req.mk hrq ?_
   | refine fB.as (bset_app (bget_lt e9)) ?_
   | (refine Ifz.pos ?_ ?_;(focus omega))
   | refine Get.mk _ rfl ?_
   | (refine Req.mk ?_ ?_;(focus first | rfl | decide | exact ⟨rfl,rfl⟩ | exact ⟨rfl,by decide⟩ | exact (fun _=>rfl) | exact (fun h=>nomatch h) | (simp;done) | omega | (simp [big];done) | exact le_big (by omega) | exact lt_big (by omega))))
   all_goals first | (exfalso;omega;done) | exact Meets.of rfl (by repeat (first | exact trivial | refine ⟨rfl,?_⟩ | exact rfl)) ⟨hgr.app rfl,by rw [List.length_append,bset_len];omega,bget_app (by rw [bset_other hne];exact bx3)⟩
 clear sb3 l3 bx3
 rintro f4 h4 ⟨sb4,l4,bx4⟩
 repeat' (first
 | (conv=>whnf)
   first
   | refine Rn.seq ?_)
 refine Rn.meet msFill (fun f h' => ∃ g'', f 147 = .bool (decide (wbT x.l y.l s i j<openT x y s 0 0))∧SB x y s h' u6 (f4 7) ⟨upT R2 (i+1) (j+1) 1,M++[prI i j],S⟩ g'' ∧ kb.length≤h'.length∧bget h' (k.length+0)=some (.blk [V.int .i64 (i:Nat),.int .i64 (j:Nat)] false)) ?_ ?_
 ·unfold kFill
  have hmx:mixT g' (wT x.sh.l y.sh.l s (i:Int) (j:Int)) x.sh.l.length y.sh.l.length 0 y.sh.l.length 0 0=wbT x.l y.l s i j:=by
   unfold mixT wbT
   rw [if_pos ⟨show 0<x.l.length by omega,show 0<y.l.length by omega,.inl (Nat.le_refl _)⟩]
   rfl
  have hg3:∀ p q,x.l.length≤p∨y.l.length≤q→mixT g' (wT x.sh.l y.sh.l s (i:Int) (j:Int)) x.sh.l.length y.sh.l.length 0 y.sh.l.length p q=0:=fun p q h=>by
   unfold mixT
   rw [if_neg (by show ¬ (p<x.l.length∧q<y.l.length∧_);omega)]
   exact sb4.hg p q h
  repeat' (first
 | (conv=>whnf)
   first
   | refine Rn.reg ?_
   | refine fLen.mk ?_
   | refine fB.i0 ?_
   | refine Get.mk _ bx4 ?_
   | refine fill_genG zP_len ha hb hs sb4.hg sb4.cl sb4.b2 ?_
   | refine Get.mk _ rfl ?_
   | (refine Req.mk ?_ ?_;(focus first | rfl | decide | exact ⟨rfl,rfl⟩ | exact ⟨rfl,by decide⟩ | exact (fun _=>rfl) | exact (fun h=>nomatch h) | (simp;done) | omega | (simp [big];done) | exact le_big (by omega) | exact lt_big (by omega))))
  all_goals first | (exfalso;omega;done) | exact Meets.of rfl (by repeat (first | exact trivial | refine ⟨rfl,?_⟩ | exact rfl)) ⟨_,by show V.bool (decide (mixT _ _ _ _ _ _ _ _<_))=_;rw [hmx],sb4.setG hg3,by rw [bset_len];exact l4,by rw [bset_other (bx0 2 (by decide))];exact bx4⟩
 clear sb4 l4 bx4
 rintro f5 h5 ⟨g5,e147,sb5,l5,bx5⟩
 conv=>whnf
 rw [e147]
 unfold kSure
 by_cases hW:wbT x.l y.l s i j<openT x y s 0 0
 rotate_left
 ·rw [if_neg hW] at hst3
  repeat' (first
 | (conv=>whnf)
   first
   | (refine Br.decF ?_ ?_;(focus first | assumption | omega))
   | refine Rn.cond ?_
   | refine Rn.skip ?_)
  all_goals first | (exfalso;omega;done) | exact Meets.of rfl (by repeat (first | exact trivial | refine ⟨rfl,?_⟩ | exact rfl)) ⟨g5,by rw [hst3];exact sb5,by omega⟩
 rw [if_pos hW] at hst3
 have bx5' : ∀ r,bget (h5++r) (k.length+0)=some (.blk [V.int .i64 (i:Nat),.int .i64 (j:Nat)] false):=fun r=>bget_app bx5
 rcases sb5.l6 with ⟨e7,e8⟩ | ⟨q,e7,e8,e9⟩
 ·subst e7;subst e8
  repeat' (first
 | (conv=>whnf)
   first
   | (refine Br.decT ?_ ?_;(focus first | assumption | omega))
   | refine Rn.cond ?_
   | refine Rn.reg ?_
   | refine fLen.mk ?_
   | refine fB.i1 ?_
   | refine Get.mk _ (bx5' _) ?_
   | refine Req.mk (bget_new (i:=0)) ?_
   | refine Get.newj 0 rfl rfl ?_
   | refine fB.newj 0 rfl ?_
   | (refine Ifz.pos ?_ ?_;(focus omega))
   | refine Get.mk _ rfl ?_
   | (refine Req.mk ?_ ?_;(focus first | rfl | decide | exact ⟨rfl,rfl⟩ | exact ⟨rfl,by decide⟩ | exact (fun _=>rfl) | exact (fun h=>nomatch h) | (simp;done) | omega | (simp [big];done) | exact le_big (by omega) | exact lt_big (by omega))))
  all_goals first | (exfalso;omega;done) | exact Meets.of rfl (by repeat (first | exact trivial | refine ⟨rfl,?_⟩ | exact rfl)) ⟨g5,by rw [hst3];exact sb5.newS (p:=prI i j),by rw [List.length_append];omega⟩
 ·subst e8
  have hgr:=sb5.growS (p:=prI i j) e7
  have hrq:0+S.length * 2=S.length * 2∧((shC S).length+[V.int .i64 (i:Nat),.int .i64 (j:Nat)].length) * (16+1)<big:=by
   refine ⟨by omega,?_⟩
   rw [shC_length]
   simp only [List.length_cons,List.length_nil,big]
   omega
  have hval:V.ms 2 (q+4) ((S++[prI i j]).length * 2) 0 (S++[prI i j]).length false=V.ms 2 (q+4) (S.length * 2+[V.int .i64 (i:Nat),.int .i64 (j:Nat)].length) 0 (S.length+1) false:=by
   simp only [List.length_append,List.length_cons,List.length_nil,V.ms.injEq,true_and,and_true]
   omega
  rw [hval,shC_appS] at hgr
  repeat' (first
 | (conv=>whnf)
   first
   | (refine Br.decT ?_ ?_;(focus first | assumption | omega))
   | refine Rn.cond ?_
   | refine Rn.reg ?_
   | refine fLen.mk ?_
   | refine fB.i1 ?_
   | refine Get.mk _ (bx5' _) ?_
   | refine Get.mk _ (bget_app e9) ?_
   | refine Req.mk (shC_length _) ?_
   | refine Req.mk hrq ?_
   | refine fB.as (bset_app (bget_lt e9)) ?_
   | (refine Ifz.pos ?_ ?_;(focus omega))
   | refine Get.mk _ rfl ?_
   | (refine Req.mk ?_ ?_;(focus first | rfl | decide | exact ⟨rfl,rfl⟩ | exact ⟨rfl,by decide⟩ | exact (fun _=>rfl) | exact (fun h=>nomatch h) | (simp;done) | omega | (simp [big];done) | exact le_big (by omega) | exact lt_big (by omega))))
  all_goals first | (exfalso;omega;done) | exact Meets.of rfl (by repeat (first | exact trivial | refine ⟨rfl,?_⟩ | exact rfl)) ⟨g5,by rw [hst3];exact hgr.app rfl,by rw [List.length_append,bset_len];omega⟩
end Go.Dr.T
