/- Top, of chapter 08: Run and its reference. -/
import Derived.Test.YthoefcibbdfakaaGreatDoorG9
namespace Go.Dr.T
theorem VwF.vw {h:List B} {d:Nat} {a b:V} (e:VwF h d a b):Vw h d a b:=by
 obtain ⟨h1,_⟩:=e
 exact ⟨h1⟩
theorem FH.cz {N M:Nat} {l:List Fm} {o:Nat} {P:Nat→Nat} {h:List B} {d:Nat} (e:FH N M l (pxL l) o P h):VwF h (d+1+1+1) (.ms 3 o (l.length * 3) 0 l.length false) (.sl false l.length (fmC (czF l))):=by
 have:=e.vw (l' := czF l) (d:=d) Q0u fun j f hf=>by rw [Q9z hf,Q26 hf]
 rwa [Q0u] at this
theorem Qo3 {h:List B} {d:Nat} {s:Sp}:Vw h (d+2) (.agg (spV s)) (.agg (spV s)) :=
 Vw.agg (VwL.cons (Vw.int rfl) (VwL.cons (Vw.int rfl) (VwL.cons (Vw.int rfl) (VwL.cons Vw.sl (VwL.cons (Vw.int rfl) (VwL.cons (Vw.int rfl) (VwL.cons (Vw.int rfl) (VwL.cons Vw.sl VwL.nil))))))))
theorem Qj4 {h:List B} {d:Nat}:∀ {A:List (List Cg)},VwL h (d+1) (lgC A) (lgC A)
 | []=>VwL.nil
 | x :: A=>VwL.cons Vw.sl (Qj4 (A:=A))
structure RS where
 i:Nat
 fv:V
 lv:V
 G:List B
def RI (W H:Nat) (l:List Fm) (ss:List Sp) (G0:List B) (o i:Nat) (fv lv:V) (G:List B):Prop :=
 (i=0∧fv = .ms 3 o (l.length * 3) 0 l.length false∧lv = .nilsl∧G=G0) ∨
 (0<i∧fv = .sl false l.length (fmC (rnF W H (czF l) (ss.take i)))∧∃ q,lv = .ms 1 q i 0 i false∧bget G q=some (.blk (lgC (rnC W H (czF l) (ss.take i))) false)∧Cl G∧G0.length≤G.length)
theorem RI.first {W H:Nat} {l:List Fm} {ss:List Sp} {G0 X:List B} {o:Nat} {s:Sp} {mk:List Bool} {tm:List V} {n j q:Nat} (c:Cl G0) (hs:ss[0]?=some s) (hn:n=G0.length) (hX:hasc G0.length X) (hq:bget (G0++X) q=some (.blk [cgL (doC l W H s)] false)) (hv:tg (Q0r mk tm) j = .ms 1 q 1 0 1 false):RI W H l ss G0 o 1 (.sl false l.length (fmC (doF l W H s))) (.ms 1 q 1 0 1 false) (norm mk n ⟨tm,G0++X⟩).h:=by
 subst hn
 have ht:ss.take 1=[s]:=by
  cases ss with
  | nil=>cases hs
  | cons t ss=>simp only [List.getElem?_cons_zero,Option.some.injEq] at hs;subst hs;rfl
 have hl:G0.length≤(⟨tm,G0++X⟩:St).h.length:=by show _≤(G0++X).length;rw [List.length_append];omega
 refine .inr ⟨Nat.one_pos,?_,q,rfl,?_,Q4e hl (Q1z c hX),Q1f hl⟩
 ·rw [ht]
  show _=V.sl false l.length (fmC (doF (czF l) W H s))
  rw [Qf7]
 ·rw [ht]
  show _=some (B.blk [cgL (doC (czF l) W H s)] false)
  rw [Qf8]
  exact Q1m (i:=j) hl (fun k hk=>by rw [hv] at hk;exact of_decide_eq_true hk) hq
theorem RI.more {W H:Nat} {l:List Fm} {ss:List Sp} {G0 G X:List B} {o i:Nat} {s:Sp} {mk:List Bool} {tm:List V} {n j q:Nat} (hi:0<i) (c:Cl G) (hl0:G0.length≤G.length) (hs:ss[i]?=some s) (hn:n=G0.length) (hX:hasc G.length X) (hq:q<G.length) (hv:tg (Q0r mk tm) j = .ms 1 q (i+1) 0 (i+1) false):RI W H l ss G0 o (i+1) (.sl false l.length (fmC (doF (rnF W H (czF l) (ss.take i)) W H s))) (.ms 1 q (i+1) 0 (i+1) false) (norm mk n ⟨tm,bset (G++X) q (.blk (lgC (rnC W H (czF l) (ss.take i))++[cgL (doC (rnF W H (czF l) (ss.take i)) W H s)]) false)⟩).h:=by
 subst hn
 have ht:ss.take (i+1)=ss.take i++[s]:=by
  rw [List.take_add_one,hs]
  rfl
 have hlX:(G++X).length=G.length+X.length:=List.length_append
 have hc:Cl (bset (G++X) q (.blk (lgC (rnC W H (czF l) (ss.take i))++[cgL (doC (rnF W H (czF l) (ss.take i)) W H s)]) false)):=(Q1z c hX).set (by
  show (false || blos _ _)=true
  rw [Bool.false_or, ← Q6e]
  exact Qer)
 have hl:G0.length≤(⟨tm,bset (G++X) q (.blk (lgC (rnC W H (czF l) (ss.take i))++[cgL (doC (rnF W H (czF l) (ss.take i)) W H s)]) false)⟩:St).h.length:=by
  show _≤(bset _ _ _).length
  rw [bset_len,hlX];omega
 refine .inr ⟨Nat.succ_pos _,by rw [ht,rnF_snoc],q,rfl,?_,Q4e hl hc,Q1f hl⟩
 rw [ht,rnC_snoc,Q6e]
 exact Q1m (i:=j) hl (fun k hk=>by rw [hv] at hk;exact of_decide_eq_true hk) (bget_same (by rw [hlX];omega))
set_option maxRecDepth 100000 in
set_option maxHeartbeats 20000000 in
theorem Qo5 {c d:Bool} {l:List Fm} {ss:List Sp} {W H:Nat} (o:FOk l W H) (hs20:ss.length≤20) (p:∀ s∈ss,SOk s l.length W H) (he:(csE l ss).2=0):Fun FB md 8 [.sl c l.length (fmC l),.sl d ss.length (spC ss)] (.tup [.sl false l.length (fmC (rnF W H (czF l) ss)),lgL (rnC W H (czF l) ss),.int .i64 0]):=by
 have hcp:∀ {K:V→List B→Prop},(∀ G,Cl G→FH ([]:List B).length G.length l (pxL l) (([]:List B).length+1) (fun j=>([]:List B).length+2+j) G→K (.ms 3 (([]:List B).length+1) (l.length * 3) 0 l.length false) G)→CallP FB md 0 (.fn 38 []) [.sl c l.length (fmC l)] [] K:=fun h=>Q5o o rfl fun G c1 _ _ c4=>h G c1 c4
 have k1:=Q7h (c:=c) (d:=d) (l:=l) (ss:=ss)
 rw [he] at k1
 generalize (csE l ss).1=z1 at *
 have hn0:=o.n0
 have hn12:=o.n12
 refine Q07 rfl rfl ?_
 repeat' (first
 | (conv=>whnf)
   first
   | refine Br.f ?_
   | refine Q00 rfl rfl k1 (.inl rfl) ?_
   | refine Get.mk _ rfl ?_)
 all_goals try (exfalso;omega;done)
 (refine hcp ?_;intro G0 c1 c4;clear hcp)
 clear k1
 repeat' (first
 | (conv=>whnf)
   first
   | refine fLen.mk ?_
   | refine fB.i0 ?_)
 all_goals try (exfalso;omega;done)
 refine LoopP.by (fun a:RS=>a.i≤ss.length∧RI W H l ss G0 1 a.i a.fv a.lv a.G) (fun a=>[(4,a.fv),(5,a.lv),(24,.int .i64 (a.i:Nat))]) (fun a=>a.G) (fun a=>ss.length - a.i) ⟨0,_,_,G0⟩ ⟨Nat.zero_le _,.inl ⟨rfl,rfl,rfl,rfl⟩⟩ rfl ?_
 rintro ⟨i,fv,lv,G⟩ ⟨w1,w2⟩
 dsimp only at w1 w2 ⊢
 by_cases hi:i<ss.length
 rotate_left
 ·obtain rfl:i=ss.length:=by omega
  rcases w2 with ⟨h0,rfl,rfl,rfl⟩ | ⟨h0,rfl,q,rfl,hq,_,_⟩
  ·have hss:ss=[]:=List.eq_nil_of_length_eq_zero h0
   subst hss
   have hF:=VwF.vw (c4.cz (d:=60))
   repeat' (first
 | (conv=>whnf)
   first
   | refine Br.f ?_
   | refine fLen.mk ?_
   | refine fB.i0 ?_
   | refine fB.mk ?_
   | exact hF
   | refine Get.mk _ rfl ?_
   | refine Leaves.of ?_
   | refine Vw.int ?_
   | refine Vw.nil
   | refine Vw.tup ?_
   | refine VwL.cons ?_ ?_
   | refine VwL.nil)
   all_goals first | rfl | exact Vw.nil | (exfalso;omega;done)
  ·rw [List.take_length] at *
   have hA:lgL (rnC W H (czF l) ss) = .sl false ss.length (lgC (rnC W H (czF l) ss)):=by
    unfold lgL
    have:rnC W H (czF l) ss≠[]:=fun e=>by
     have:=Q21 (W:=W) (H:=H) (ss:=ss) (l:=czF l)
     rw [e] at this
     simp at this
     omega
    rw [decide_eq_false this,Q21]
   rw [hA]
   have hL:Vw G (61+1+1) (.ms 1 q ss.length 0 ss.length false) (.sl false ss.length (lgC (rnC W H (czF l) ss))):=Vw.ms hq (by rw [Q2a,Q21]) (Q13 (by rw [Q2a,Q21,Nat.mul_one])) Qj4
   repeat' (first
 | (conv=>whnf)
   first
   | (refine Br.decF ?_ ?_;(focus first | assumption | omega))
   | refine fLen.mk ?_
   | refine fB.i0 ?_
   | refine fB.mk ?_
   | exact hL
   | refine Get.mk _ rfl ?_
   | refine Leaves.of ?_
   | refine Vw.int ?_
   | refine Vw.sl
   | refine Vw.tup ?_
   | refine VwL.cons ?_ ?_
   | refine VwL.nil)
   all_goals first | rfl | exact Vw.nil | (exfalso;omega;done)
 obtain ⟨s,hs⟩:∃ s,ss[i]?=some s:=⟨_,List.getElem?_eq_getElem hi⟩
 have hp:=Q97 hs
 have ps:=p s (List.mem_of_getElem? hs)
 have hiw:IntKind.i64.wrap ((i:Int)+1)=((i+1:Nat):Int):=by rw [wrap_i64 (by omega) (by omega)];omega
 have hil:i≤ss.length - 1:=by omega
 have h0l:0<ss.length:=by omega
 rcases w2 with ⟨h0,rfl,rfl,rfl⟩ | ⟨h0,rfl,q,rfl,hq,hcl,hgl⟩
 ·subst h0
  have kd:=Qms (c:=false) (l:=czF l) (Q52 o) (by rw [Q0u];exact ps)
  rw [Q0u,Q2b,Q0u,Qf7,Qf8] at kd
  have hvw:∀ X:List B,Q1p (G++X) depth [.ms 3 1 (l.length * 3) 0 l.length false,.agg (spV s)]=some [.sl false l.length (fmC (czF l)),.agg (spV s)]:=fun X=>(VwL.cons (VwF.vw ((c4.app (g:=X)).cz (d:=61))) (VwL.cons (Qo3 (d:=62)) VwL.nil)).1
  have hvw0:Q1p G depth [.ms 3 1 (l.length * 3) 0 l.length false,.agg (spV s)]=some [.sl false l.length (fmC (czF l)),.agg (spV s)]:=(VwL.cons (VwF.vw (c4.cz (d:=61))) (VwL.cons (Qo3 (d:=62)) VwL.nil)).1
  repeat' (first
 | (conv=>whnf)
   first
   | refine Bnd.eq hiw ?_
   | (refine Br.decT ?_ ?_;(focus first | assumption | omega))
   | refine fLen.mk ?_
   | refine fB.i0 ?_
   | refine fB.i1 ?_
   | refine Get.mk _ hp ?_
   | refine Idx.nat hil ?_
   | refine Req.mk h0l ?_
   | refine Q1s rfl (hvw _) kd ?_
   | refine Req.mk (bget_new (i:=1)) ?_
   | refine Get.newj 0 rfl rfl ?_
   | refine Get.newj 1 rfl rfl ?_
   | refine fB.newj 0 rfl ?_
   | refine fB.newj 1 rfl ?_
   | refine fB.mk ?_
   | (refine Ifz.pos ?_ ?_;(focus omega))
   | refine Get.mk _ rfl ?_
   | (refine Req.mk ?_ ?_;(focus first | rfl | decide | exact ⟨rfl,rfl⟩ | exact ⟨rfl,by decide⟩ | exact (fun _=>rfl) | exact (fun h=>nomatch h) | (simp;done) | omega | (simp [big];done) | exact Q02 (by omega) | exact Q01 (by omega))))
  all_goals try (exfalso;omega;done)
  rw [List.append_assoc]
  exact NextP.of (fun h=>⟨1,_,_,h⟩) ⟨hi,RI.first (j:=5) c1 hs rfl ⟨rfl,rfl,rfl,trivial⟩ (by rw [List.length_append];exact bget_new (i:=2)) rfl⟩ (by dsimp only;omega) rfl
 ·have kd:=Qms (c:=false) (Q6o (ss:=ss.take i) (Q52 o)) (by rw [Q2m,Q0u];exact ps)
  rw [Q2m,Q0u,Q2b,Q2m,Q0u] at kd
  have hll:(lgC (rnC W H (czF l) (ss.take i))).length=i:=by rw [Q2a,Q21,List.length_take];omega
  have hsz:∀ a:V,0+i * 1=i∧((lgC (rnC W H (czF l) (ss.take i))).length+[a].length) * (24+1)<big:=fun a=>⟨by omega,by rw [hll];unfold big;simp;omega⟩
  have hq' := Q03 hq
  repeat' (first
 | (conv=>whnf)
   first
   | refine Bnd.eq hiw ?_
   | (refine Br.decT ?_ ?_;(focus first | assumption | omega))
   | refine fLen.mk ?_
   | refine fB.i0 ?_
   | refine fB.i1 ?_
   | refine Get.mk _ hp ?_
   | refine Idx.nat hil ?_
   | refine Req.mk h0l ?_
   | refine Q1s rfl rfl kd ?_
   | refine Get.mk _ (bget_app (bget_app hq)) ?_
   | refine Req.mk hll ?_
   | refine Req.mk (hsz _) ?_
   | refine Get.newj 0 rfl rfl ?_
   | refine fB.newj 0 rfl ?_
   | refine fB.mk ?_
   | (refine Ifz.pos ?_ ?_;(focus omega))
   | refine Get.mk _ rfl ?_
   | (refine Req.mk ?_ ?_;(focus first | rfl | decide | exact ⟨rfl,rfl⟩ | exact ⟨rfl,by decide⟩ | exact (fun _=>rfl) | exact (fun h=>nomatch h) | (simp;done) | omega | (simp [big];done) | exact Q02 (by omega) | exact Q01 (by omega))))
  all_goals try (exfalso;omega;done)
  rw [List.append_assoc]
  exact NextP.of (fun h=>⟨i+1,_,_,h⟩) ⟨hi,RI.more (j:=5) h0 hcl hgl hs rfl ⟨rfl,rfl,rfl,trivial⟩ hq' rfl⟩ (by dsimp only;omega) rfl
end Go.Dr.T
