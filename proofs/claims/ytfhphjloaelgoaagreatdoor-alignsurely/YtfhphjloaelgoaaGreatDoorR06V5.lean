/- Chapter 06: Surely of the document, walked. -/
import Derived.Test.YtfhphjloaelgoaaGreatDoorR06V4
namespace Go.Dr.T
structure SU where
 j:Nat
 vS:V
 vM:V
 h:List B
 p:List (Int × Int) × List (Int × Int)
structure UI (x y:El) (s:Int) (i L:Nat) (p0:List (Int × Int) × List (Int × Int)) (a:SU):Prop where
 le:a.j≤y.l.length
 ln:L≤a.h.length
 sc:SC x y a.h a.vS a.vM a.p.2 a.p.1
 lm:a.p.1.length≤41 * i+a.j∧a.p.2.length≤41 * i+a.j
 eq:suRow (openT x y s) (vT (shA x.l y.l s)) (shA x.l y.l s) (wbT x.l y.l s) y.l.length i y.l.length p0=suRow (openT x y s) (vT (shA x.l y.l s)) (shA x.l y.l s) (wbT x.l y.l s) y.l.length i (y.l.length - a.j) a.p
structure UO (x y:El) (s:Int) (L:Nat) (a:SU):Prop where
 le:a.j≤x.l.length
 ln:L≤a.h.length
 sc:SC x y a.h a.vS a.vM a.p.2 a.p.1
 lm:a.p.1.length≤41 * a.j∧a.p.2.length≤41 * a.j
 eq:rSurely x y s=suAll (openT x y s) (vT (shA x.l y.l s)) (shA x.l y.l s) (wbT x.l y.l s) x.l.length y.l.length (x.l.length - a.j) a.p
def rSurelyV (x y:El) (s:Int):V :=
 if openE x y s≠0 then .tup [.sl true 0 [],.sl true 0 [],.int .i64 (openE x y s)] else .tup [lsP (rSurely x y s).2,lsP (rSurely x y s).1,.int .i64 0]
set_option maxRecDepth 100000 in
set_option maxHeartbeats 20000000 in
theorem refSurely_ok {x y:El} {s:Int}:Fun FB md 46 [elA' x,elA' y,.int .i64 s] (rSurelyV x y s):=by
 have ho:=two_ok (x:=x) (y:=y) (s:=s)
 unfold rSurelyV
 by_cases he:openE x y s=0
 rotate_left
 ·rw [if_pos he]
  generalize openE x y s=e at *
  refine fun_of c46_eq rfl ?_
  repeat' (first
 | (conv=>whnf)
   first
   | (refine Br.decF ?_ ?_;(focus first | assumption | omega))
   | refine Br.not ?_
   | refine call_fun rfl rfl ho (.inl rfl) ?_
   | refine Get.mk _ rfl ?_
   | refine Leaves.of ?_
   | refine Vw.int ?_
   | refine Vw.nil
   | refine Vw.tup ?_
   | refine VwL.cons ?_ ?_
   | refine VwL.nil
   | (refine Req.mk ?_ ?_;(focus first | rfl | decide | exact ⟨rfl,rfl⟩ | exact ⟨rfl,by decide⟩ | exact (fun _=>rfl) | exact (fun h=>nomatch h) | (simp;done) | omega | (simp [big];done) | exact le_big (by omega) | exact lt_big (by omega))))
  all_goals first | rfl | (exfalso;omega)
 obtain ⟨ha,hb,hs⟩:=open_good he
 rw [if_neg (fun h=>h he)]
 rw [he] at ho
 have hal:=ha.1
 have hbl:=hb.1
 have hWr:=openT_rng (s:=s) ha hb
 have hbe:=(before_ok (x:=x) (y:=y) (s:=s) ha hb hs).any
 have hbh:=(behind_ok (x:=x) (y:=y) (s:=s) (bi := -1) (bj := -1) ha hb hs).any
 rw [wT_none] at hbh
 have hno:=none_ok
 refine fun_rn c46_eq rfl ?_
 repeat' (first
 | (conv=>whnf)
   first
   | refine Br.f ?_
   | refine Rn.seq ?_
   | refine Rn.block ?_
   | refine Rn.cond ?_
   | refine Rn.reg ?_
   | refine Rn.skip ?_
   | refine call_fun rfl rfl ho (.inl rfl) ?_
   | refine call_fun rfl rfl hbe (.inl rfl) ?_
   | refine call_fun rfl rfl hno (.inl rfl) ?_
   | refine call_fun rfl rfl hbh (.inl rfl) ?_
   | refine Get.mk _ rfl ?_
   | (refine Req.mk ?_ ?_;(focus first | rfl | decide | exact ⟨rfl,rfl⟩ | exact ⟨rfl,by decide⟩ | exact (fun _=>rfl) | exact (fun h=>nomatch h) | (simp;done) | omega | (simp [big];done) | exact le_big (by omega) | exact lt_big (by omega))))
 refine Rn.loop (UO x y s 2) (fun a=>[(12,a.vS),(13,a.vM),(14,.int .i64 (a.j:Nat))]) (fun a=>a.h) (fun a=>x.l.length - a.j) ⟨0,.nilsl,.nilsl,[elB x,elB y],([],[])⟩ ⟨Nat.zero_le _,Nat.le_refl _,⟨rfl,rfl,rfl,.inl ⟨rfl,rfl⟩,.inl ⟨rfl,rfl⟩,.inr (.inl rfl)⟩,⟨Nat.zero_le _,Nat.zero_le _⟩,rfl⟩ rfl ?_
 rintro ⟨i,vS,vM,h,p⟩ ⟨w1,w2,w3,wl,w5⟩
 dsimp only at w1 w2 w3 wl w5 ⊢
 have q0:=w3.b0
 have q1:=w3.b1
 by_cases hi:i<x.l.length
 rotate_left
 ·have hres:rSurely x y s=p:=by rw [w5,show x.l.length - i=0 by omega];rfl
  rw [hres]
  have hvw:Vw h depth (.tup [vS,vM,.int .i64 0]) (.tup [lsP p.2,lsP p.1,.int .i64 0]):=Vw.tup (d:=63) (VwL.cons (w3.lS.view (d:=61)) (VwL.cons (w3.lM.view (d:=61)) (VwL.cons (Vw.int (d:=62) rfl) VwL.nil)))
  rcases w3.lS with ⟨_,e6⟩ | ⟨_,_,e6,_⟩ <;> rcases w3.lM with ⟨_,e7⟩ | ⟨_,_,e7,_⟩ <;> subst e6 <;> subst e7
  all_goals
   repeat' (first
 | (conv=>whnf)
   first
   | refine hvw
   | (refine Br.decF ?_ ?_;(focus first | assumption | omega))
   | refine Rn.seq ?_
   | refine Rn.cond ?_
   | refine Rn.reg ?_
   | refine Rn.exit ?_
   | refine Rn.ret ?_
   | refine fLen.mk ?_
   | refine fB.i0 ?_
   | refine fB.mk ?_
   | refine Get.mk _ q0 ?_
   | refine Get.mk _ rfl ?_
   | refine Leaves.of ?_
   | (refine Req.mk ?_ ?_;(focus first | rfl | decide | exact ⟨rfl,rfl⟩ | exact ⟨rfl,by decide⟩ | exact (fun _=>rfl) | exact (fun h=>nomatch h) | (simp;done) | omega | (simp [big];done) | exact le_big (by omega) | exact lt_big (by omega))))
  all_goals first | (exfalso;omega;done)
 repeat' (first
 | (conv=>whnf)
   first
   | (refine Br.decT ?_ ?_;(focus first | assumption | omega))
   | refine Rn.seq ?_
   | refine Rn.block ?_
   | refine Rn.cond ?_
   | refine Rn.reg ?_
   | refine Rn.skip ?_
   | refine fLen.mk ?_
   | refine fB.i0 ?_
   | refine fB.mk ?_
   | refine Get.mk _ q0 ?_
   | refine Get.mk _ rfl ?_
   | (refine Req.mk ?_ ?_;(focus first | rfl | decide | exact ⟨rfl,rfl⟩ | exact ⟨rfl,by decide⟩ | exact (fun _=>rfl) | exact (fun h=>nomatch h) | (simp;done) | omega | (simp [big];done) | exact le_big (by omega) | exact lt_big (by omega))))
 all_goals try (exfalso;omega)
 refine Rn.loopM ms1213 ⟨w3.lS.alive,w3.lM.alive,trivial⟩ (UI x y s i h.length p) (fun a=>[(12,a.vS),(13,a.vM),(15,.int .i64 (a.j:Nat))]) (fun a=>a.h) (fun a=>y.l.length - a.j) ⟨0,vS,vM,h,p⟩ ⟨Nat.zero_le _,Nat.le_refl _,w3,wl,rfl⟩ rfl ?_
 rintro ⟨j,uS,uM,k,p'⟩ ⟨z1,z2,z3,zl,z5⟩
 dsimp only at z1 z2 z3 zl z5 ⊢
 have p0:=z3.b0
 have p1:=z3.b1
 by_cases hj:j<y.l.length
 rotate_left
 ·repeat' (first
 | (conv=>whnf)
   first
   | (refine Br.decF ?_ ?_;(focus first | assumption | omega))
   | (refine Bnd.i64 ?_ ?_ ?_;(focus omega);(focus omega))
   | refine Rn.seq ?_
   | refine Rn.cond ?_
   | refine Rn.reg ?_
   | refine Rn.exit ?_
   | refine fLen.mk ?_
   | refine fB.i0 ?_
   | refine fB.mk ?_
   | refine Get.mk _ p1 ?_
   | refine Get.mk _ rfl ?_
   | (refine Req.mk ?_ ?_;(focus first | rfl | decide | exact ⟨rfl,rfl⟩ | exact ⟨rfl,by decide⟩ | exact (fun _=>rfl) | exact (fun h=>nomatch h) | (simp;done) | omega | (simp [big];done) | exact le_big (by omega) | exact lt_big (by omega))))
  all_goals try (exfalso;omega)
  have e3:suRow (openT x y s) (vT (shA x.l y.l s)) (shA x.l y.l s) (wbT x.l y.l s) y.l.length i y.l.length p=p' := by rw [z5,show y.l.length - j=0 by omega];rfl
  refine NextP.of (fun N=>(⟨i+1,uS,uM,N,p'⟩:SU)) ⟨hi,?_,?_,by (try dsimp only);omega,?_⟩ (by (try dsimp only);omega) rfl
  ·exact norm_len (Nat.le_trans w2 z2)
  ·exact SC.norm (Nat.le_trans w2 z2) z3 rfl rfl rfl rfl
  ·rw [w5,suAll_step hi,e3]
 repeat' (first
 | (conv=>whnf)
   first
   | (refine Br.decT ?_ ?_;(focus first | assumption | omega))
   | refine Rn.seq ?_
   | refine Rn.cond ?_
   | refine Rn.reg ?_
   | refine Rn.skip ?_
   | refine fLen.mk ?_
   | refine fB.i0 ?_
   | refine fB.mk ?_
   | refine Get.mk _ p1 ?_
   | refine Get.mk _ rfl ?_
   | (refine Req.mk ?_ ?_;(focus first | rfl | decide | exact ⟨rfl,rfl⟩ | exact ⟨rfl,by decide⟩ | exact (fun _=>rfl) | exact (fun h=>nomatch h) | (simp;done) | omega | (simp [big];done) | exact le_big (by omega) | exact lt_big (by omega))))
 all_goals try (exfalso;omega)
 have hlen:=suStep_len (W:=openT x y s) (V:=vT (shA x.l y.l s)) (Sh:=shA x.l y.l s) (Wb:=wbT x.l y.l s) (i:=i) (j:=j) (p:=p')
 have hrow:=suRow_step (W:=openT x y s) (V:=vT (shA x.l y.l s)) (Sh:=shA x.l y.l s) (Wb:=wbT x.l y.l s) (i:=i) (p:=p') hj
 refine Rn.meet msRB (fun f h' => SC x y h' (f 12) (f 13) (suStep (openT x y s) (vT (shA x.l y.l s)) (shA x.l y.l s) (wbT x.l y.l s) i j p').2 (suStep (openT x y s) (vT (shA x.l y.l s)) (shA x.l y.l s) (wbT x.l y.l s) i j p').1∧k.length≤h'.length) ?_ ?_
 rotate_left
 ·rintro f h' ⟨sb', hl'⟩
  repeat' (first
 | (conv=>whnf)
   first
   | (refine Bnd.i64 ?_ ?_ ?_;(focus omega);(focus omega))
   | refine Rn.reg ?_
   | refine fLen.mk ?_
   | refine fB.i0 ?_)
  all_goals try (exfalso;omega)
  have hlh:h.length≤h'.length:=by omega
  refine NextP.of (fun N=>(⟨j+1,f 12,f 13,N,suStep (openT x y s) (vT (shA x.l y.l s)) (shA x.l y.l s) (wbT x.l y.l s) i j p'⟩:SU)) ⟨hj,?_,?_,by (try dsimp only);omega,?_⟩ (by (try dsimp only);omega) rfl
  ·exact norm_len hlh
  ·exact SC.norm hlh sb' rfl rfl rfl rfl
  ·rw [z5,hrow]
 clear hlen hrow
 obtain ⟨u,hu⟩:∃ u,x.l[i]?=some u:=⟨_,List.getElem?_eq_getElem hi⟩
 obtain ⟨w,hw⟩:∃ w,y.l[j]?=some w:=⟨_,List.getElem?_eq_getElem hj⟩
 have hS:shA x.l y.l s i j=shr s u w:=by unfold shA;rw [List.getD_eq_getElem?_getD,hu,List.getD_eq_getElem?_getD,hw];rfl
 have hum:=ha.2 u (List.mem_of_getElem? hu)
 have hwm:=hb.2 w (List.mem_of_getElem? hw)
 have rs:=shr_rng (s:=s) (x:=u) (y:=w) ⟨hum.2.2.1,hum.2.2.2⟩ ⟨hwm.2.2.1,hwm.2.2.2⟩
 have hsh:=refShare_ok (s:=s) (x:=u) (y:=w) hs hum hwm
 have hpu:=shC_part hu
 have hpw:=shC_part hw
 have hbi:IntKind.i64.wrap ((i:Int)+1)=((i+1:Nat):Int):=by rw [wrap_i64 (by omega) (by omega)];omega
 have hbj:IntKind.i64.wrap ((j:Int)+1)=((j+1:Nat):Int):=by rw [wrap_i64 (by omega) (by omega)];omega
 have hI0:i≤x.l.length+1 - 1:=by omega
 have hI1:i+1≤x.l.length+1 - 1:=by omega
 have hJ0:j≤y.l.length+1 - 1:=by omega
 have hJ1:j+1≤y.l.length+1 - 1:=by omega
 have tv:=tab_get (n:=x.l.length) (m:=y.l.length) (i:=i) (T:=vT (shA x.l y.l s)) (by omega)
 have tw:=tab_get (n:=x.l.length) (m:=y.l.length) (i:=i+1) (T:=openT x y s) (by omega)
 have t0:=tab_get (n:=x.l.length) (m:=y.l.length) (i:=0) (T:=openT x y s) (by omega)
 have cv:=row_get (m:=y.l.length) (j:=j) (f:=vT (shA x.l y.l s) i) (by omega)
 have cw:=row_get (m:=y.l.length) (j:=j+1) (f:=openT x y s (i+1)) (by omega)
 have c0:=row_get (m:=y.l.length) (j:=0) (f:=openT x y s 0) (by omega)
 have rv:=vT_rng (s:=s) ha hb i j (by omega) (by omega)
 have rw' := hWr (i+1) (j+1)
 unfold rBody
 by_cases hS0:shr s u w=0
 ·have hstep:suStep (openT x y s) (vT (shA x.l y.l s)) (shA x.l y.l s) (wbT x.l y.l s) i j p' = p' := by unfold suStep;rw [if_pos (.inl (by rw [hS];exact hS0))]
  repeat' (first
 | (conv=>whnf)
   first
   | refine Br.t ?_
   | (refine Br.decT ?_ ?_;(focus first | assumption | omega))
   | refine Rn.seq ?_
   | refine Rn.block ?_
   | refine Rn.cond ?_
   | refine Rn.reg ?_
   | refine Rn.exit ?_
   | refine fLen.mk ?_
   | refine fB.i0 ?_
   | refine Get.mk _ p0 ?_
   | refine Get.mk _ p1 ?_
   | refine Get.mk _ hpu ?_
   | refine Get.mk _ hpw ?_
   | refine call_fun rfl rfl hsh (.inl rfl) ?_
   | (refine Idx.nat ?_ ?_;(focus omega))
   | refine Get.mk _ rfl ?_
   | (refine Req.mk ?_ ?_;(focus first | rfl | decide | exact ⟨rfl,rfl⟩ | exact ⟨rfl,by decide⟩ | exact (fun _=>rfl) | exact (fun h=>nomatch h) | (simp;done) | omega | (simp [big];done) | exact le_big (by omega) | exact lt_big (by omega))))
  all_goals first | (exfalso;omega;done) | exact Meets.of rfl (by repeat (first | exact trivial | refine ⟨rfl,?_⟩ | exact rfl)) ⟨by rw [hstep];exact z3,Nat.le_refl _⟩
 by_cases hne:vT (shA x.l y.l s) i j+shr s u w+openT x y s (i+1) (j+1)=openT x y s 0 0
 rotate_left
 ·have hstep:suStep (openT x y s) (vT (shA x.l y.l s)) (shA x.l y.l s) (wbT x.l y.l s) i j p' = p' := by unfold suStep;rw [if_pos (.inr (by rw [hS];exact hne))]
  repeat' (first
 | (conv=>whnf)
   first
   | refine Bnd.eq hbi ?_
   | refine Bnd.eq hbj ?_
   | refine Idx.nat hI0 ?_
   | refine Idx.nat hI1 ?_
   | refine Idx.nat hJ0 ?_
   | refine Idx.nat hJ1 ?_
   | (refine Br.decF ?_ ?_;(focus first | assumption | omega))
   | refine Br.not ?_
   | (refine Bnd.i64 ?_ ?_ ?_;(focus omega);(focus omega))
   | refine Rn.seq ?_
   | refine Rn.block ?_
   | refine Rn.cond ?_
   | refine Rn.reg ?_
   | refine Rn.exit ?_
   | refine fLen.mk ?_
   | refine fB.i0 ?_
   | refine Get.mk _ p0 ?_
   | refine Get.mk _ p1 ?_
   | refine Get.mk _ hpu ?_
   | refine Get.mk _ hpw ?_
   | refine Get.mk _ tv ?_
   | refine Get.mk _ tw ?_
   | refine Get.mk _ t0 ?_
   | refine Get.mk _ cv ?_
   | refine Get.mk _ cw ?_
   | refine Get.mk _ c0 ?_
   | refine call_fun rfl rfl hsh (.inl rfl) ?_
   | (refine Idx.nat ?_ ?_;(focus omega))
   | (refine Idx.int ?_ ?_ ?_;(focus omega);(focus omega))
   | refine Get.mk _ rfl ?_
   | (refine Req.mk ?_ ?_;(focus first | rfl | decide | exact ⟨rfl,rfl⟩ | exact ⟨rfl,by decide⟩ | exact (fun _=>rfl) | exact (fun h=>nomatch h) | (simp;done) | omega | (simp [big];done) | exact le_big (by omega) | exact lt_big (by omega))))
  all_goals first | (exfalso;omega;done) | exact Meets.of rfl (by repeat (first | exact trivial | refine ⟨rfl,?_⟩ | exact rfl)) ⟨by rw [hstep];exact z3,Nat.le_refl _⟩
 obtain ⟨M,S⟩:=p'
 dsimp only at *
 have hst3:suStep (openT x y s) (vT (shA x.l y.l s)) (shA x.l y.l s) (wbT x.l y.l s) i j (M,S)=(M++[prI i j],if wbT x.l y.l s i j<openT x y s 0 0 then S++[prI i j] else S):=by
  unfold suStep
  rw [if_neg (by rw [hS];rintro (e | e);exact hS0 e;exact e hne)]
 repeat' (first
 | (conv=>whnf)
   first
   | refine Bnd.eq hbi ?_
   | refine Bnd.eq hbj ?_
   | refine Idx.nat hI0 ?_
   | refine Idx.nat hI1 ?_
   | refine Idx.nat hJ0 ?_
   | refine Idx.nat hJ1 ?_
   | (refine Br.decT ?_ ?_;(focus first | assumption | omega))
   | (refine Br.decF ?_ ?_;(focus first | assumption | omega))
   | refine Br.not ?_
   | (refine Bnd.i64 ?_ ?_ ?_;(focus omega);(focus omega))
   | refine Rn.seq ?_
   | refine Rn.block ?_
   | refine Rn.cond ?_
   | refine Rn.reg ?_
   | refine Rn.skip ?_
   | refine fLen.mk ?_
   | refine fB.i0 ?_
   | refine fB.i1 ?_
   | refine Get.newj 0 rfl rfl ?_
   | refine fB.newj 0 rfl ?_
   | refine Get.mk _ p0 ?_
   | refine Get.mk _ p1 ?_
   | refine Get.mk _ hpu ?_
   | refine Get.mk _ hpw ?_
   | refine Get.mk _ tv ?_
   | refine Get.mk _ tw ?_
   | refine Get.mk _ t0 ?_
   | refine Get.mk _ cv ?_
   | refine Get.mk _ cw ?_
   | refine Get.mk _ c0 ?_
   | refine call_fun rfl rfl hsh (.inl rfl) ?_
   | (refine Idx.nat ?_ ?_;(focus omega))
   | (refine Idx.int ?_ ?_ ?_;(focus omega);(focus omega))
   | refine Get.mk _ rfl ?_
   | (refine Req.mk ?_ ?_;(focus first | rfl | decide | exact ⟨rfl,rfl⟩ | exact ⟨rfl,by decide⟩ | exact (fun _=>rfl) | exact (fun h=>nomatch h) | (simp;done) | omega | (simp [big];done) | exact le_big (by omega) | exact lt_big (by omega))))
 all_goals try (exfalso;omega;done)
 generalize hkk:k++[B.blk [V.int .i64 (i:Nat),.int .i64 (j:Nat)] false]=kb at *
 have sbk:SC x y kb uS uM S M:=hkk ▸ z3.app rfl
 have lkb:kb.length=k.length+1:=by rw [← hkk];simp
 have bxk:bget kb (k.length+0)=some (.blk [V.int .i64 (i:Nat),.int .i64 (j:Nat)] false):=by rw [← hkk];exact bget_new (i:=0)
 refine Rn.meet msRM (fun f h' => SC x y h' uS (f 13) S (M++[prI i j])∧kb.length≤h'.length∧bget h' (k.length+0)=some (.blk [V.int .i64 (i:Nat),.int .i64 (j:Nat)] false)) ?_ ?_
 ·unfold rMay
  have bx3' : ∀ r,bget (kb++r) (k.length+0)=some (.blk [V.int .i64 (i:Nat),.int .i64 (j:Nat)] false):=fun r=>bget_app bxk
  rcases sbk.lM with ⟨e7,e8⟩ | ⟨q,e7,e8,e9⟩
  ·subst e7;subst e8
   repeat' (first
 | (conv=>whnf)
   first
   | refine Rn.reg ?_
   | refine fLen.mk ?_
   | refine fB.i1 ?_
   | refine Get.mk _ (bx3' _) ?_
   | refine Req.mk (bget_new (i:=0)) ?_
   | refine Get.newj 0 rfl rfl ?_
   | refine fB.newj 0 rfl ?_
   | (refine Ifz.pos ?_ ?_;(focus omega))
   | refine Get.mk _ rfl ?_
   | (refine Req.mk ?_ ?_;(focus first | rfl | decide | exact ⟨rfl,rfl⟩ | exact ⟨rfl,by decide⟩ | exact (fun _=>rfl) | exact (fun h=>nomatch h) | (simp;done) | omega | (simp [big];done) | exact le_big (by omega) | exact lt_big (by omega))))
   all_goals first | (exfalso;omega;done) | exact Meets.of rfl (by repeat (first | exact trivial | refine ⟨rfl,?_⟩ | exact rfl)) ⟨sbk.newM (p:=prI i j),by rw [List.length_append];omega,bx3' _⟩
  ·subst e8
   have hne2:q+2≠k.length+0:=fun e=>by
    rw [e,bxk] at e9
    simp only [Option.some.injEq,B.blk.injEq] at e9
    exact absurd e9.2 (by decide)
   have hgr:=sbk.growM (p:=prI i j) e7
   have hrq:0+M.length * 2=M.length * 2∧((shC M).length+[V.int .i64 (i:Nat),.int .i64 (j:Nat)].length) * (16+1)<big:=by
    refine ⟨by omega,?_⟩
    rw [shC_length]
    simp only [List.length_cons,List.length_nil,big]
    omega
   have hval:V.ms 2 (q+2) ((M++[prI i j]).length * 2) 0 (M++[prI i j]).length false=V.ms 2 (q+2) (M.length * 2+[V.int .i64 (i:Nat),.int .i64 (j:Nat)].length) 0 (M.length+1) false:=by
    simp only [List.length_append,List.length_cons,List.length_nil,V.ms.injEq,true_and,and_true]
    omega
   rw [hval,shC_appS] at hgr
   repeat' (first
 | (conv=>whnf)
   first
   | refine Rn.reg ?_
   | refine fLen.mk ?_
   | refine fB.i1 ?_
   | refine Get.mk _ (bx3' _) ?_
   | refine Get.mk _ (bget_app e9) ?_
   | refine Req.mk (shC_length _) ?_
   | refine Req.mk hrq ?_
   | refine fB.as (bset_app (bget_lt e9)) ?_
   | (refine Ifz.pos ?_ ?_;(focus omega))
   | refine Get.mk _ rfl ?_
   | (refine Req.mk ?_ ?_;(focus first | rfl | decide | exact ⟨rfl,rfl⟩ | exact ⟨rfl,by decide⟩ | exact (fun _=>rfl) | exact (fun h=>nomatch h) | (simp;done) | omega | (simp [big];done) | exact le_big (by omega) | exact lt_big (by omega))))
   all_goals first | (exfalso;omega;done) | exact Meets.of rfl (by repeat (first | exact trivial | refine ⟨rfl,?_⟩ | exact rfl)) ⟨hgr.app rfl,by rw [List.length_append,bset_len];omega,bget_app (by rw [bset_other hne2];exact bxk)⟩
 clear sbk
 rintro f4 h4 ⟨sb4,l4,bx4⟩
 have hwb:=(behind_ok (x:=x) (y:=y) (s:=s) (bi:=(i:Nat)) (bj:=(j:Nat)) ha hb hs).any
 have s0:=tab_get (n:=x.l.length) (m:=y.l.length) (i:=0) (T:=wT x.l y.l s (i:Nat) (j:Nat)) (by omega)
 have d0:=row_get (m:=y.l.length) (j:=0) (f:=wT x.l y.l s (i:Nat) (j:Nat) 0) (by omega)
 have b40:=sb4.b0
 have b41:=sb4.b1
 repeat' (first
 | (conv=>whnf)
   first
   | refine Rn.seq ?_)
 refine Rn.meet msRW (fun f h' => f 110 = .bool (decide (wbT x.l y.l s i j<openT x y s 0 0))∧h' = h4) ?_ ?_
 ·unfold rWb
  repeat' (first
 | (conv=>whnf)
   first
   | refine Rn.reg ?_
   | refine fLen.mk ?_
   | refine fB.i0 ?_
   | refine Get.mk _ bx4 ?_
   | refine Get.mk _ b40 ?_
   | refine Get.mk _ b41 ?_
   | refine Get.mk _ s0 ?_
   | refine Get.mk _ d0 ?_
   | refine Get.mk _ t0 ?_
   | refine Get.mk _ c0 ?_
   | refine call_fun rfl rfl hwb (.inl rfl) ?_
   | (refine Idx.int ?_ ?_ ?_;(focus omega);(focus omega))
   | refine Get.mk _ rfl ?_
   | (refine Req.mk ?_ ?_;(focus first | rfl | decide | exact ⟨rfl,rfl⟩ | exact ⟨rfl,by decide⟩ | exact (fun _=>rfl) | exact (fun h=>nomatch h) | (simp;done) | omega | (simp [big];done) | exact le_big (by omega) | exact lt_big (by omega))))
  all_goals first | (exfalso;omega;done) | exact Meets.of rfl (by repeat (first | exact trivial | refine ⟨rfl,?_⟩ | exact rfl)) ⟨rfl,rfl⟩
 rintro f5 h5 ⟨e147,rfl⟩
 conv=>whnf
 rw [e147]
 unfold rSure
 by_cases hW:wbT x.l y.l s i j<openT x y s 0 0
 rotate_left
 ·rw [if_neg hW] at hst3
  repeat' (first
 | (conv=>whnf)
   first
   | (refine Br.decF ?_ ?_;(focus first | assumption | omega))
   | refine Rn.cond ?_
   | refine Rn.skip ?_)
  all_goals first | (exfalso;omega;done) | exact Meets.of rfl (by repeat (first | exact trivial | refine ⟨rfl,?_⟩ | exact rfl)) ⟨by rw [hst3];exact sb4,by omega⟩
 rw [if_pos hW] at hst3
 have bx5' : ∀ r,bget (h5++r) (k.length+0)=some (.blk [V.int .i64 (i:Nat),.int .i64 (j:Nat)] false):=fun r=>bget_app bx4
 rcases sb4.lS with ⟨e7,e8⟩ | ⟨q,e7,e8,e9⟩
 ·subst e7;subst e8
  repeat' (first
 | (conv=>whnf)
   first
   | (refine Br.decT ?_ ?_;(focus first | assumption | omega))
   | refine Rn.cond ?_
   | refine Rn.reg ?_
   | refine fLen.mk ?_
   | refine fB.i1 ?_
   | refine Get.mk _ (bx5' _) ?_
   | refine Req.mk (bget_new (i:=0)) ?_
   | refine Get.newj 0 rfl rfl ?_
   | refine fB.newj 0 rfl ?_
   | (refine Ifz.pos ?_ ?_;(focus omega))
   | refine Get.mk _ rfl ?_
   | (refine Req.mk ?_ ?_;(focus first | rfl | decide | exact ⟨rfl,rfl⟩ | exact ⟨rfl,by decide⟩ | exact (fun _=>rfl) | exact (fun h=>nomatch h) | (simp;done) | omega | (simp [big];done) | exact le_big (by omega) | exact lt_big (by omega))))
  all_goals first | (exfalso;omega;done) | exact Meets.of rfl (by repeat (first | exact trivial | refine ⟨rfl,?_⟩ | exact rfl)) ⟨by rw [hst3];exact (sb4.swap.newM (p:=prI i j)).swap,by rw [List.length_append];omega⟩
 ·subst e8
  have hgr:=(sb4.swap.growM (p:=prI i j) e7).swap
  have hrq:0+S.length * 2=S.length * 2∧((shC S).length+[V.int .i64 (i:Nat),.int .i64 (j:Nat)].length) * (16+1)<big:=by
   refine ⟨by omega,?_⟩
   rw [shC_length]
   simp only [List.length_cons,List.length_nil,big]
   omega
  have hval:V.ms 2 (q+2) ((S++[prI i j]).length * 2) 0 (S++[prI i j]).length false=V.ms 2 (q+2) (S.length * 2+[V.int .i64 (i:Nat),.int .i64 (j:Nat)].length) 0 (S.length+1) false:=by
   simp only [List.length_append,List.length_cons,List.length_nil,V.ms.injEq,true_and,and_true]
   omega
  rw [hval,shC_appS] at hgr
  repeat' (first
 | (conv=>whnf)
   first
   | (refine Br.decT ?_ ?_;(focus first | assumption | omega))
   | refine Rn.cond ?_
   | refine Rn.reg ?_
   | refine fLen.mk ?_
   | refine fB.i1 ?_
   | refine Get.mk _ (bx5' _) ?_
   | refine Get.mk _ (bget_app e9) ?_
   | refine Req.mk (shC_length _) ?_
   | refine Req.mk hrq ?_
   | refine fB.as (bset_app (bget_lt e9)) ?_
   | (refine Ifz.pos ?_ ?_;(focus omega))
   | refine Get.mk _ rfl ?_
   | (refine Req.mk ?_ ?_;(focus first | rfl | decide | exact ⟨rfl,rfl⟩ | exact ⟨rfl,by decide⟩ | exact (fun _=>rfl) | exact (fun h=>nomatch h) | (simp;done) | omega | (simp [big];done) | exact le_big (by omega) | exact lt_big (by omega))))
  all_goals first | (exfalso;omega;done) | exact Meets.of rfl (by repeat (first | exact trivial | refine ⟨rfl,?_⟩ | exact rfl)) ⟨by rw [hst3];exact hgr.app rfl,by rw [List.length_append,bset_len];omega⟩
end Go.Dr.T
