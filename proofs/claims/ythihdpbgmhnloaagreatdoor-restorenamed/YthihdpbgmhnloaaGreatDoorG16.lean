/- Chapter 08: Run and its reference. -/
import Derived.Test.YthihdpbgmhnloaaGreatDoorR08Gi
import Derived.Test.YthihdpbgmhnloaaGreatDoorR08Uc
namespace Go.Dr.T
theorem csF_zero {n:Nat} {w h:Int}:∀ {ss:List Sp} {i:Nat},(csF n w h ss i).2=0→∀ s∈ss,spE n w h s=0
 | [],_,_,s,hs=>by cases hs
 | t :: ss,i,e,s,hs=>by
  rw [csF] at e
  by_cases ht:spE n w h t=0
  ·rw [if_neg (fun q=>q ht)] at e
   rcases List.mem_cons.1 hs with rfl | hs
   ·exact ht
   ·exact csF_zero e s hs
  ·rw [if_pos ht] at e
   exact absurd e ht
theorem csE_zero {l:List Fm} {ss:List Sp} (h:(csE l ss).2=0):∃ W H,FOk l W H∧ss.length≤20∧∀ s∈ss,SOk s l.length W H:=by
 unfold csE at h
 split at h
 ·rename_i h1
  exact absurd h h1
 rename_i h1
 split at h
 ·exact absurd h (by decide)
 rename_i h2
 obtain ⟨W,H,o⟩:=FOk.of (Classical.not_not.1 h1)
 obtain ⟨f,hf,hw,hh,_⟩:=o.at o.n0
 rw [csG_eq hf,hw,hh] at h
 exact ⟨W,H,o,by omega,fun s hs=>SOk.of (csF_zero h s hs)⟩
theorem VwF.vw {h:List B} {d:Nat} {a b:V} (e:VwF h d a b):Vw h d a b:=by
 obtain ⟨h1,_⟩:=e
 exact ⟨h1⟩
theorem FH.cz {N M:Nat} {l:List Fm} {o:Nat} {P:Nat→Nat} {h:List B} {d:Nat} (e:FH N M l (pxL l) o P h):VwF h (d+1+1+1) (.ms 3 o (l.length * 3) 0 l.length false) (.sl false l.length (fmC (czF l))):=by
 have:=e.vw (l' := czF l) (d:=d) czF_len fun j f hf=>by rw [czF_get hf,pxL_at hf]
 rwa [czF_len] at this
theorem spv_vw {h:List B} {d:Nat} {s:Sp}:Vw h (d+2) (.agg (spV s)) (.agg (spV s)) :=
 Vw.agg (VwL.cons (Vw.int rfl) (VwL.cons (Vw.int rfl) (VwL.cons (Vw.int rfl) (VwL.cons Vw.sl (VwL.cons (Vw.int rfl) (VwL.cons (Vw.int rfl) (VwL.cons (Vw.int rfl) (VwL.cons Vw.sl VwL.nil))))))))
theorem lgC_vw {h:List B} {d:Nat}:∀ {A:List (List Cg)},VwL h (d+1) (lgC A) (lgC A)
 | []=>VwL.nil
 | x :: A=>VwL.cons Vw.sl (lgC_vw (A:=A))
structure RS where
 i:Nat
 fv:V
 lv:V
 G:List B
def RI (W H:Nat) (l:List Fm) (ss:List Sp) (G0:List B) (o i:Nat) (fv lv:V) (G:List B):Prop :=
 (i=0∧fv = .ms 3 o (l.length * 3) 0 l.length false∧lv = .nilsl∧G=G0) ∨
 (0<i∧fv = .sl false l.length (fmC (rnF W H (czF l) (ss.take i)))∧∃ q,lv = .ms 1 q i 0 i false∧bget G q=some (.blk (lgC (rnC W H (czF l) (ss.take i))) false)∧Cl G∧G0.length≤G.length)
theorem RI.first {W H:Nat} {l:List Fm} {ss:List Sp} {G0 X:List B} {o:Nat} {s:Sp} {mk:List Bool} {tm:List V} {n j q:Nat} (c:Cl G0) (hs:ss[0]?=some s) (hn:n=G0.length) (hX:hasc G0.length X) (hq:bget (G0++X) q=some (.blk [cgL (doC l W H s)] false)) (hv:tg (masked mk tm) j = .ms 1 q 1 0 1 false):RI W H l ss G0 o 1 (.sl false l.length (fmC (doF l W H s))) (.ms 1 q 1 0 1 false) (norm mk n ⟨tm,G0++X⟩).h:=by
 subst hn
 have ht:ss.take 1=[s]:=by
  cases ss with
  | nil=>cases hs
  | cons t ss=>simp only [List.getElem?_cons_zero,Option.some.injEq] at hs;subst hs;rfl
 have hl:G0.length≤(⟨tm,G0++X⟩:St).h.length:=by show _≤(G0++X).length;rw [List.length_append];omega
 refine .inr ⟨Nat.one_pos,?_,q,rfl,?_,norm_cl hl (cl_asc c hX),norm_len hl⟩
 ·rw [ht]
  show _=V.sl false l.length (fmC (doF (czF l) W H s))
  rw [doF_cz]
 ·rw [ht]
  show _=some (B.blk [cgL (doC (czF l) W H s)] false)
  rw [doC_cz]
  exact norm_keep (i:=j) hl (fun k hk=>by rw [hv] at hk;exact of_decide_eq_true hk) hq
theorem RI.more {W H:Nat} {l:List Fm} {ss:List Sp} {G0 G X:List B} {o i:Nat} {s:Sp} {mk:List Bool} {tm:List V} {n j q:Nat} (hi:0<i) (c:Cl G) (hl0:G0.length≤G.length) (hs:ss[i]?=some s) (hn:n=G0.length) (hX:hasc G.length X) (hq:q<G.length) (hv:tg (masked mk tm) j = .ms 1 q (i+1) 0 (i+1) false):RI W H l ss G0 o (i+1) (.sl false l.length (fmC (doF (rnF W H (czF l) (ss.take i)) W H s))) (.ms 1 q (i+1) 0 (i+1) false) (norm mk n ⟨tm,bset (G++X) q (.blk (lgC (rnC W H (czF l) (ss.take i))++[cgL (doC (rnF W H (czF l) (ss.take i)) W H s)]) false)⟩).h:=by
 subst hn
 have ht:ss.take (i+1)=ss.take i++[s]:=by
  rw [List.take_add_one,hs]
  rfl
 have hlX:(G++X).length=G.length+X.length:=List.length_append
 have hc:Cl (bset (G++X) q (.blk (lgC (rnC W H (czF l) (ss.take i))++[cgL (doC (rnF W H (czF l) (ss.take i)) W H s)]) false)):=(cl_asc c hX).set (by
  show (false || blos _ _)=true
  rw [Bool.false_or, ← lgC_snoc]
  exact lgC_blos)
 have hl:G0.length≤(⟨tm,bset (G++X) q (.blk (lgC (rnC W H (czF l) (ss.take i))++[cgL (doC (rnF W H (czF l) (ss.take i)) W H s)]) false)⟩:St).h.length:=by
  show _≤(bset _ _ _).length
  rw [bset_len,hlX];omega
 refine .inr ⟨Nat.succ_pos _,by rw [ht,rnF_snoc],q,rfl,?_,norm_cl hl hc,norm_len hl⟩
 rw [ht,rnC_snoc,lgC_snoc]
 exact norm_keep (i:=j) hl (fun k hk=>by rw [hv] at hk;exact of_decide_eq_true hk) (bget_same (by rw [hlX];omega))
set_option maxRecDepth 100000 in
set_option maxHeartbeats 20000000 in
theorem run_ok {c d:Bool} {l:List Fm} {ss:List Sp} {W H:Nat} (o:FOk l W H) (hs20:ss.length≤20) (p:∀ s∈ss,SOk s l.length W H) (he:(csE l ss).2=0):Fun FB md 20 [.sl c l.length (fmC l),.sl d ss.length (spC ss)] (.tup [.sl false l.length (fmC (rnF W H (czF l) ss)),lgL (rnC W H (czF l) ss),.int .i64 0]):=by
 have hcp:∀ {K:V→List B→Prop},(∀ G,Cl G→FH ([]:List B).length G.length l (pxL l) (([]:List B).length+1) (fun j=>([]:List B).length+2+j) G→K (.ms 3 (([]:List B).length+1) (l.length * 3) 0 l.length false) G)→CallP FB md 0 (.fn 47 []) [.sl c l.length (fmC l)] [] K:=fun h=>clone_call o rfl fun G c1 _ _ c4=>h G c1 c4
 have k1:=csteps_ok (c:=c) (d:=d) (l:=l) (ss:=ss)
 rw [he] at k1
 generalize (csE l ss).1=z1 at *
 have hn0:=o.n0
 have hn12:=o.n12
 refine fun_of rfl rfl ?_
 repeat' (first
 | (conv=>whnf)
   first
   | refine Br.f ?_
   | refine call_fun rfl rfl k1 (.inl rfl) ?_
   | refine Get.mk _ rfl ?_)
 all_goals try (exfalso;omega;done)
 (refine hcp ?_;intro G0 c1 c4;clear hcp)
 clear k1
 repeat' (first
 | (conv=>whnf)
   first
   | refine fLen.mk ?_
   | refine fB.i0 ?_)
 all_goals try (exfalso;omega;done)
 refine LoopP.by (fun a:RS=>a.i≤ss.length∧RI W H l ss G0 1 a.i a.fv a.lv a.G) (fun a=>[(4,a.fv),(5,a.lv),(24,.int .i64 (a.i:Nat))]) (fun a=>a.G) (fun a=>ss.length - a.i) ⟨0,_,_,G0⟩ ⟨Nat.zero_le _,.inl ⟨rfl,rfl,rfl,rfl⟩⟩ rfl ?_
 rintro ⟨i,fv,lv,G⟩ ⟨w1,w2⟩
 dsimp only at w1 w2 ⊢
 by_cases hi:i<ss.length
 rotate_left
 ·obtain rfl:i=ss.length:=by omega
  rcases w2 with ⟨h0,rfl,rfl,rfl⟩ | ⟨h0,rfl,q,rfl,hq,_,_⟩
  ·have hss:ss=[]:=List.eq_nil_of_length_eq_zero h0
   subst hss
   have hF:=VwF.vw (c4.cz (d:=60))
   repeat' (first
 | (conv=>whnf)
   first
   | refine Br.f ?_
   | refine fLen.mk ?_
   | refine fB.i0 ?_
   | refine fB.mk ?_
   | exact hF
   | refine Get.mk _ rfl ?_
   | refine Leaves.of ?_
   | refine Vw.int ?_
   | refine Vw.nil
   | refine Vw.tup ?_
   | refine VwL.cons ?_ ?_
   | refine VwL.nil)
   all_goals first | rfl | exact Vw.nil | (exfalso;omega;done)
  ·rw [List.take_length] at *
   have hA:lgL (rnC W H (czF l) ss) = .sl false ss.length (lgC (rnC W H (czF l) ss)):=by
    unfold lgL
    have:rnC W H (czF l) ss≠[]:=fun e=>by
     have:=rnC_len (W:=W) (H:=H) (ss:=ss) (l:=czF l)
     rw [e] at this
     simp at this
     omega
    rw [decide_eq_false this,rnC_len]
   rw [hA]
   have hL:Vw G (61+1+1) (.ms 1 q ss.length 0 ss.length false) (.sl false ss.length (lgC (rnC W H (czF l) ss))):=Vw.ms hq (by rw [lgC_length,rnC_len]) (part_all (by rw [lgC_length,rnC_len,Nat.mul_one])) lgC_vw
   repeat' (first
 | (conv=>whnf)
   first
   | (refine Br.decF ?_ ?_;(focus first | assumption | omega))
   | refine fLen.mk ?_
   | refine fB.i0 ?_
   | refine fB.mk ?_
   | exact hL
   | refine Get.mk _ rfl ?_
   | refine Leaves.of ?_
   | refine Vw.int ?_
   | refine Vw.sl
   | refine Vw.tup ?_
   | refine VwL.cons ?_ ?_
   | refine VwL.nil)
   all_goals first | rfl | exact Vw.nil | (exfalso;omega;done)
 obtain ⟨s,hs⟩:∃ s,ss[i]?=some s:=⟨_,List.getElem?_eq_getElem hi⟩
 have hp:=spC_part hs
 have ps:=p s (List.mem_of_getElem? hs)
 have hiw:IntKind.i64.wrap ((i:Int)+1)=((i+1:Nat):Int):=by rw [wrap_i64 (by omega) (by omega)];omega
 have hil:i≤ss.length - 1:=by omega
 have h0l:0<ss.length:=by omega
 rcases w2 with ⟨h0,rfl,rfl,rfl⟩ | ⟨h0,rfl,q,rfl,hq,hcl,hgl⟩
 ·subst h0
  have kd:=do_ok (c:=false) (l:=czF l) (czF_ok o) (by rw [czF_len];exact ps)
  rw [czF_len,doF_len,czF_len,doF_cz,doC_cz] at kd
  have hvw:∀ X:List B,views (G++X) depth [.ms 3 1 (l.length * 3) 0 l.length false,.agg (spV s)]=some [.sl false l.length (fmC (czF l)),.agg (spV s)]:=fun X=>(VwL.cons (VwF.vw ((c4.app (g:=X)).cz (d:=61))) (VwL.cons (spv_vw (d:=62)) VwL.nil)).1
  have hvw0:views G depth [.ms 3 1 (l.length * 3) 0 l.length false,.agg (spV s)]=some [.sl false l.length (fmC (czF l)),.agg (spV s)]:=(VwL.cons (VwF.vw (c4.cz (d:=61))) (VwL.cons (spv_vw (d:=62)) VwL.nil)).1
  repeat' (first
 | (conv=>whnf)
   first
   | refine Bnd.eq hiw ?_
   | (refine Br.decT ?_ ?_;(focus first | assumption | omega))
   | refine fLen.mk ?_
   | refine fB.i0 ?_
   | refine fB.i1 ?_
   | refine Get.mk _ hp ?_
   | refine Idx.nat hil ?_
   | refine Req.mk h0l ?_
   | refine call_fresh rfl (hvw _) kd ?_
   | refine Req.mk (bget_new (i:=1)) ?_
   | refine Get.newj 0 rfl rfl ?_
   | refine Get.newj 1 rfl rfl ?_
   | refine fB.newj 0 rfl ?_
   | refine fB.newj 1 rfl ?_
   | refine fB.mk ?_
   | (refine Ifz.pos ?_ ?_;(focus omega))
   | refine Get.mk _ rfl ?_
   | (refine Req.mk ?_ ?_;(focus first | rfl | decide | exact ⟨rfl,rfl⟩ | exact ⟨rfl,by decide⟩ | exact (fun _=>rfl) | exact (fun h=>nomatch h) | (simp;done) | omega | (simp [big];done) | exact le_big (by omega) | exact lt_big (by omega))))
  all_goals try (exfalso;omega;done)
  rw [List.append_assoc]
  exact NextP.of (fun h=>⟨1,_,_,h⟩) ⟨hi,RI.first (j:=5) c1 hs rfl ⟨rfl,rfl,rfl,trivial⟩ (by rw [List.length_append];exact bget_new (i:=2)) rfl⟩ (by dsimp only;omega) rfl
 ·have kd:=do_ok (c:=false) (rnF_ok (ss:=ss.take i) (czF_ok o)) (by rw [rnF_len,czF_len];exact ps)
  rw [rnF_len,czF_len,doF_len,rnF_len,czF_len] at kd
  have hll:(lgC (rnC W H (czF l) (ss.take i))).length=i:=by rw [lgC_length,rnC_len,List.length_take];omega
  have hsz:∀ a:V,0+i * 1=i∧((lgC (rnC W H (czF l) (ss.take i))).length+[a].length) * (24+1)<big:=fun a=>⟨by omega,by rw [hll];unfold big;simp;omega⟩
  have hq' := bget_lt hq
  repeat' (first
 | (conv=>whnf)
   first
   | refine Bnd.eq hiw ?_
   | (refine Br.decT ?_ ?_;(focus first | assumption | omega))
   | refine fLen.mk ?_
   | refine fB.i0 ?_
   | refine fB.i1 ?_
   | refine Get.mk _ hp ?_
   | refine Idx.nat hil ?_
   | refine Req.mk h0l ?_
   | refine call_fresh rfl rfl kd ?_
   | refine Get.mk _ (bget_app (bget_app hq)) ?_
   | refine Req.mk hll ?_
   | refine Req.mk (hsz _) ?_
   | refine Get.newj 0 rfl rfl ?_
   | refine fB.newj 0 rfl ?_
   | refine fB.mk ?_
   | (refine Ifz.pos ?_ ?_;(focus omega))
   | refine Get.mk _ rfl ?_
   | (refine Req.mk ?_ ?_;(focus first | rfl | decide | exact ⟨rfl,rfl⟩ | exact ⟨rfl,by decide⟩ | exact (fun _=>rfl) | exact (fun h=>nomatch h) | (simp;done) | omega | (simp [big];done) | exact le_big (by omega) | exact lt_big (by omega))))
  all_goals try (exfalso;omega;done)
  rw [List.append_assoc]
  exact NextP.of (fun h=>⟨i+1,_,_,h⟩) ⟨hi,RI.more (j:=5) h0 hcl hgl hs rfl ⟨rfl,rfl,rfl,trivial⟩ hq' rfl⟩ (by dsimp only;omega) rfl
set_option maxRecDepth 100000 in
set_option maxHeartbeats 20000000 in
theorem run_bad {c d:Bool} {l:List Fm} {ss:List Sp} (he:(csE l ss).2≠0):Fun FB md 20 [.sl c l.length (fmC l),.sl d ss.length (spC ss)] (.tup [.sl true 0 [],.sl true 0 [],.int .i64 (csE l ss).2]):=by
 have k1:=csteps_ok (c:=c) (d:=d) (l:=l) (ss:=ss)
 generalize csE l ss=e at *
 obtain ⟨e1,e2⟩:=e
 dsimp only at *
 refine fun_of rfl rfl ?_
 repeat' (first
 | (conv=>whnf)
   first
   | (refine Br.decF ?_ ?_;(focus first | assumption | omega))
   | refine Br.not ?_
   | refine call_fun rfl rfl k1 (.inl rfl) ?_
   | refine Get.mk _ rfl ?_
   | refine Leaves.of ?_
   | refine Vw.int ?_
   | refine Vw.nil
   | refine Vw.tup ?_
   | refine VwL.cons ?_ ?_
   | refine VwL.nil)
 all_goals first | rfl | exact Vw.nil | (exfalso;omega;done)
theorem spC_one {s:Sp}:spC [s]=spV s:=rfl
def doE (l:List Fm) (s:Sp):Int:=(csE l [s]).2
theorem doE_zero {l:List Fm} {s:Sp} (h:doE l s=0):∃ W H,FOk l W H∧SOk s l.length W H:=by
 obtain ⟨W,H,o,_,p⟩:=csE_zero h
 exact ⟨W,H,o,p s (by simp)⟩
set_option maxRecDepth 100000 in
set_option maxHeartbeats 20000000 in
theorem Do_bad {c:Bool} {l:List Fm} {s:Sp} (he:doE l s≠0):Fun FB md 16 [.sl c l.length (fmC l),.agg (spV s)] (.tup [.sl true 0 [],.sl true 0 [],.int .i64 (doE l s)]):=by
 have k1:=csteps_ok (c:=c) (d:=true) (l:=l) (ss:=[s])
 rw [spC_one] at k1
 unfold doE at *
 generalize csE l [s]=e at *
 obtain ⟨e1,e2⟩:=e
 dsimp only at *
 refine fun_of rfl rfl ?_
 repeat' (first
 | (conv=>whnf)
   first
   | (refine Br.decF ?_ ?_;(focus first | assumption | omega))
   | refine Br.not ?_
   | refine call_fun rfl rfl k1 (.inl rfl) ?_
   | refine Get.mk _ rfl ?_
   | refine Leaves.of ?_
   | refine Vw.int ?_
   | refine Vw.nil
   | refine Vw.tup ?_
   | refine VwL.cons ?_ ?_
   | refine VwL.nil
   | (refine Req.mk ?_ ?_;(focus first | rfl | decide | exact ⟨rfl,rfl⟩ | exact ⟨rfl,by decide⟩ | exact (fun _=>rfl) | exact (fun h=>nomatch h) | (simp;done) | omega | (simp [big];done) | exact le_big (by omega) | exact lt_big (by omega))))
 all_goals first | rfl | exact Vw.nil | (exfalso;omega;done)
set_option maxRecDepth 100000 in
set_option maxHeartbeats 20000000 in
theorem Do_ok {c:Bool} {l:List Fm} {s:Sp} {W H:Nat} (o:FOk l W H) (p:SOk s l.length W H) (he:doE l s=0):Fun FB md 16 [.sl c l.length (fmC l),.agg (spV s)] (.tup [.sl false l.length (fmC (doF l W H s)),cgL (doC l W H s),.int .i64 0]):=by
 have k1:=csteps_ok (c:=c) (d:=true) (l:=l) (ss:=[s])
 rw [spC_one] at k1
 unfold doE at he
 generalize csE l [s]=e at *
 obtain ⟨e1,e2⟩:=e
 dsimp only at *
 subst he
 have k2:=do_ok (c:=c) o p
 rw [doF_len] at k2
 have k2:=k2.any
 refine fun_of rfl rfl ?_
 repeat' (first
 | (conv=>whnf)
   first
   | refine Br.f ?_
   | refine call_fun rfl rfl k1 (.inl rfl) ?_
   | refine call_fun rfl rfl k2 (.inl rfl) ?_
   | refine Get.mk _ rfl ?_
   | refine Leaves.of ?_
   | refine Vw.int ?_
   | refine Vw.sl
   | refine Vw.tup ?_
   | refine VwL.cons ?_ ?_
   | refine VwL.nil
   | (refine Req.mk ?_ ?_;(focus first | rfl | decide | exact ⟨rfl,rfl⟩ | exact ⟨rfl,by decide⟩ | exact (fun _=>rfl) | exact (fun h=>nomatch h) | (simp;done) | omega | (simp [big];done) | exact le_big (by omega) | exact lt_big (by omega))))
 all_goals first | rfl | exact Vw.sl | (exfalso;omega;done)
end Go.Dr.T
namespace Go.Dr.T
def mkF (l:List Fm) (A:Nat→List UInt8):List Fm:=l.mapIdx fun j f=>⟨false,f.w,f.h,A j⟩
theorem mkF_len {l:List Fm} {A:Nat→List UInt8}:(mkF l A).length=l.length:=by simp [mkF]
theorem mkF_get {l:List Fm} {A:Nat→List UInt8} {i:Nat} {f:Fm} (h:l[i]?=some f):(mkF l A)[i]?=some ⟨false,f.w,f.h,A i⟩:=by
 unfold mkF
 rw [List.getElem?_mapIdx,h]
 rfl
def unT (A:Nat→List UInt8) (L:List (List Cg)):Nat→Nat→List UInt8
 | 0=>A
 | k+1=>match L[L.length - (k+1)]? with
  | some cs=>apT (unT A L k) (cs.map swC) (cs.map swC).length
  | none=>unT A L k
theorem unT_S {A:Nat→List UInt8} {L:List (List Cg)} {k:Nat} {cs:List Cg} (h:L[L.length - (k+1)]?=some cs):unT A L (k+1)=apT (unT A L k) (cs.map swC) (cs.map swC).length:=by rw [unT,h]
theorem unT_len {A:Nat→List UInt8} {L:List (List Cg)} {j:Nat}:∀ {k:Nat},(unT A L k j).length=(A j).length
 | 0=>rfl
 | k+1=>by
  rw [unT]
  cases L[L.length - (k+1)]? with
  | none=>exact unT_len (k:=k)
  | some cs =>
   show (apT _ _ _ j).length=_
   rw [apT_len]
   exact unT_len (k:=k)
def unOk (A:Nat→List UInt8) (L:List (List Cg)) (k:Nat):Prop:=∀ cs,L[L.length - (k+1)]?=some cs→apAll (unT A L k) (cs.map swC)
def rdT (A:Nat→List UInt8) (L:List (List Cg)):Nat→Nat→List UInt8
 | 0=>A
 | k+1=>match L[k]? with
  | some cs=>apT (rdT A L k) cs cs.length
  | none=>rdT A L k
theorem rdT_S {A:Nat→List UInt8} {L:List (List Cg)} {k:Nat} {cs:List Cg} (h:L[k]?=some cs):rdT A L (k+1)=apT (rdT A L k) cs cs.length:=by rw [rdT,h]
theorem rdT_len {A:Nat→List UInt8} {L:List (List Cg)} {j:Nat}:∀ {k:Nat},(rdT A L k j).length=(A j).length
 | 0=>rfl
 | k+1=>by
  rw [rdT]
  cases L[k]? with
  | none=>exact rdT_len (k:=k)
  | some cs =>
   show (apT _ _ _ j).length=_
   rw [apT_len]
   exact rdT_len (k:=k)
def rdOk (A:Nat→List UInt8) (L:List (List Cg)) (k:Nat):Prop:=∀ cs,L[k]?=some cs→apAll (rdT A L k) cs
theorem COk.sw {n k:Nat} {cs:List Cg} (c:COk n k cs) {A:Nat→List UInt8} (hA:∀ j,j<n→(A j).length=k):∀ x∈cs.map swC,∃ I m:Nat,x.f=I∧x.p=m∧I<n∧m<(A I).length:=fun x hx=>by
 obtain ⟨y,hy,rfl⟩:=List.mem_map.1 hx
 obtain ⟨h1,h2,_⟩:=c.rng y hy
 refine ⟨y.f.toNat,y.p.toNat,?_,?_,by omega,?_⟩
 ·show y.f=_;omega
 ·show y.p=_;omega
 ·rw [hA _ (by omega)];omega
theorem COk.nt {n k:Nat} {cs:List Cg} (c:COk n k cs) {A:Nat→List UInt8} (hA:∀ j,j<n→(A j).length=k):∀ x∈cs,∃ I m:Nat,x.f=I∧x.p=m∧I<n∧m<(A I).length:=fun x hx=>by
 obtain ⟨h1,h2,_⟩:=c.rng x hx
 refine ⟨x.f.toNat,x.p.toNat,by omega,by omega,by omega,?_⟩
 rw [hA _ (by omega)];omega
theorem pxL_len {l:List Fm} {W H:Nat} (o:FOk l W H):∀ j,j<l.length→(pxL l j).length=W * H:=fun j hj=>by
 obtain ⟨f,hf,_,_,h⟩:=o.at hj
 rw [pxL_at hf];exact h
def bIx (n k:Nat):Int:=(n:Int) - 1 - k
structure IterB (L:List (List Cg)) (id N:Nat) (Q:Nat→List B→Prop) (S:List B→Prop) (ok:Nat→Prop):Prop where
 qcl:∀ k G,Q k G→Cl G∧N≤G.length
 qtk:∀ k G j,Q k G→N≤j→Cl (G.take j)→Q k (G.take j)
 scl:∀ G,S G→Cl G∧N≤G.length
 stk:∀ G j,S G→N≤j→Cl (G.take j)→S (G.take j)
 go:∀ k cs G (K:V→List B→Prop),k<L.length→L[L.length - (k+1)]?=some cs→ok k→Q k G→(∀ G', G.length≤G'.length→Q (k+1) G' → K (.bool true) G')→CallP FB md 0 (.yld id) [.int .i64 ((L.length - (k+1):Nat):Int),.sl (decide (cs=[])) cs.length (cgC cs)] G K
 no:∀ k cs G (K:V→List B→Prop),k<L.length→L[L.length - (k+1)]?=some cs→¬ ok k→Q k G→(∀ G', G.length≤G'.length→S G' → K (.bool false) G')→CallP FB md 0 (.yld id) [.int .i64 ((L.length - (k+1):Nat):Int),.sl (decide (cs=[])) cs.length (cgC cs)] G K
set_option maxRecDepth 100000 in
set_option maxHeartbeats 20000000 in
theorem it105 {c:Bool} {L:List (List Cg)} {id N:Nat} {Q:Nat→List B→Prop} {S:List B→Prop} {ok:Nat→Prop} {G0:List B} {K:V→List B→Prop} (hl:L.length≤1000000) (h:IterB L id N Q S ok) (hN:G0.length=N) (h0:Q 0 G0) (hk1:∀ G,Q L.length G→K (.tup []) G) (hk2:∀ G,S G→K (.tup []) G):CallP FB md 0 (.fn 105 [.rp [.sl c L.length (lgC L)] 0]) [.yld id] G0 K:=by
 have hb0:IntKind.i64.wrap ((L.length:Int) - 1)=bIx L.length 0:=by rw [wrap_i64 (by omega) (by omega)];unfold bIx;omega
 refine call_one rfl rfl rfl ?_
 repeat' (first
 | (conv=>whnf)
   first
   | refine Bnd.eq hb0 ?_
   | refine fLen.mk ?_
   | refine fB.i0 ?_
   | refine Get.mk _ rfl ?_)
 all_goals try (exfalso;omega;done)
 refine LoopP.by (fun a:GA=>a.i≤L.length∧Q a.i a.G) (fun a=>[(3,.int .i64 (bIx L.length a.i))]) (fun a=>a.G) (fun a=>L.length - a.i) ⟨0,G0⟩ ⟨Nat.zero_le _,h0⟩ rfl ?_
 rintro ⟨k,G⟩ ⟨w1,w2⟩
 dsimp only at w1 w2 ⊢
 have hGl:=(h.qcl k G w2).2
 by_cases hi:k<L.length
 rotate_left
 ·obtain rfl:k=L.length:=by omega
  have hb:bIx L.length L.length = -1:=by unfold bIx;omega
  rw [hb]
  repeat' (first
 | (conv=>whnf)
   first
   | refine Br.f ?_
   | refine fLen.mk ?_
   | refine fB.i0 ?_
   | refine fB.mk ?_
   | refine Get.mk _ rfl ?_
   | refine Ends.of ?_)
  all_goals try (exfalso;omega;done)
  obtain ⟨j,h1,h2,h3,_⟩:=trunc_cut (n:=G0.length) (tm:=[.tup []]) (h:=G) (by omega) (h.qcl _ G w2).1
  show K (.tup []) (trunc G0.length [.tup []] G)
  rw [h2]
  exact hk1 _ (h.qtk _ G j w2 (by omega) h3)
 have hb:bIx L.length k=((L.length - (k+1):Nat):Int):=by unfold bIx;omega
 have hb1:IntKind.i64.wrap (((L.length - (k+1):Nat):Int) - 1)=bIx L.length (k+1):=by rw [wrap_i64 (by omega) (by omega)];unfold bIx;omega
 rw [hb]
 obtain ⟨cs,hcs⟩:∃ x,L[L.length - (k+1)]?=some x:=⟨_,List.getElem?_eq_getElem (by omega)⟩
 have hp:=lgC_at hcs
 unfold cgL at hp
 have hil:L.length - (k+1)≤L.length - 1:=by omega
 have h0l:0<L.length:=by omega
 by_cases hok:ok k
 ·have hgo:=fun (K' : V→List B→Prop) (hK)=>h.go k cs G K' hi hcs hok w2 hK
  generalize L.length - (k+1)=q at *
  repeat' (first
 | (conv=>whnf)
   first
   | refine Bnd.eq hb1 ?_
   | refine Br.t ?_
   | refine Br.f ?_
   | refine fLen.mk ?_
   | refine fB.i0 ?_
   | refine Get.mk _ hp ?_
   | refine Idx.nat hil ?_
   | refine Req.mk h0l ?_
   | (refine hgo _ ?_;intro G' g1 g2)
   | refine fB.mk ?_
   | refine Get.mk _ rfl ?_)
  all_goals try (exfalso;omega;done)
  refine NextP.of (fun g=>⟨k+1,g⟩) ⟨hi,?_⟩ (by dsimp only;omega) rfl
  obtain ⟨j,h1,h2,h3,_⟩:=norm_cut (n:=G0.length) (mk:=_) (tm:=_) (h:=G') (by omega) (h.qcl _ G' g2).1
  show Q (k+1) (norm _ G0.length ⟨_,G'⟩).h
  rw [h2]
  exact h.qtk _ G' j g2 (by omega) h3
 ·have hno:=fun (K' : V→List B→Prop) (hK)=>h.no k cs G K' hi hcs hok w2 hK
  generalize L.length - (k+1)=q at *
  repeat' (first
 | (conv=>whnf)
   first
   | refine Br.t ?_
   | refine fLen.mk ?_
   | refine fB.i0 ?_
   | refine Get.mk _ hp ?_
   | refine Idx.nat hil ?_
   | refine Req.mk h0l ?_
   | (refine hno _ ?_;intro G' g1 g2)
   | refine fB.mk ?_
   | refine Get.mk _ rfl ?_
   | refine Ends.of ?_)
  all_goals try (exfalso;omega;done)
  obtain ⟨j,h1,h2,h3,_⟩:=trunc_cut (n:=G0.length) (tm:=[.tup []]) (h:=G') (by omega) (h.scl G' g2).1
  show K (.tup []) (trunc G0.length [.tup []] G')
  rw [h2]
  exact hk2 _ (h.stk G' j g2 (by omega) h3)
theorem backward_ok {cv:V} (hs:∃ c n k,cv = .sl c n k):Fun FB md 64 [cv] (.fn 105 [.rp [cv] 0]):=by
 obtain ⟨c,n,k,rfl⟩:=hs
 refine fun_of rfl rfl ?_
 repeat' (first
 | (conv=>whnf)
   first
   | exact Vw.fn (VwL.cons (Vw.ref rfl rfl rfl (VwL.cons Vw.sl VwL.nil)) VwL.nil)
   | refine Get.mk _ rfl ?_
   | refine Leaves.of ?_
   | (refine Req.mk ?_ ?_;(focus first | rfl | decide | exact ⟨rfl,rfl⟩ | exact ⟨rfl,by decide⟩ | exact (fun _=>rfl) | exact (fun h=>nomatch h) | (simp;done) | omega | (simp [big];done) | exact le_big (by omega) | exact lt_big (by omega))))
 all_goals first | rfl | (exfalso;omega;done)
end Go.Dr.T
