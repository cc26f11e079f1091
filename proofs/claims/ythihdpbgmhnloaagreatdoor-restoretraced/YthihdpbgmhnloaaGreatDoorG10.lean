/- Chapter 08: Run and its reference. -/
import Derived.Test.YthihdpbgmhnloaaGreatDoorG9
namespace Go.Dr.T
theorem csF_zero {n:Nat} {w h:Int}:∀ {ss:List Sp} {i:Nat},(csF n w h ss i).2=0→∀ s∈ss,spE n w h s=0
 | [],_,_,s,hs=>by cases hs
 | t :: ss,i,e,s,hs=>by
  rw [csF] at e
  by_cases ht:spE n w h t=0
  ·rw [if_neg (fun q=>q ht)] at e
   rcases List.mem_cons.1 hs with rfl | hs
   ·exact ht
   ·exact csF_zero e s hs
  ·rw [if_pos ht] at e
   exact absurd e ht
theorem csE_zero {l:List Fm} {ss:List Sp} (h:(csE l ss).2=0):∃ W H,FOk l W H∧ss.length≤20∧∀ s∈ss,SOk s l.length W H:=by
 unfold csE at h
 split at h
 ·rename_i h1
  exact absurd h h1
 rename_i h1
 split at h
 ·exact absurd h (by decide)
 rename_i h2
 obtain ⟨W,H,o⟩:=FOk.of (Classical.not_not.1 h1)
 obtain ⟨f,hf,hw,hh,_⟩:=o.at o.n0
 rw [csG_eq hf,hw,hh] at h
 exact ⟨W,H,o,by omega,fun s hs=>SOk.of (csF_zero h s hs)⟩
theorem VwF.vw {h:List B} {d:Nat} {a b:V} (e:VwF h d a b):Vw h d a b:=by
 obtain ⟨h1,_⟩:=e
 exact ⟨h1⟩
theorem FH.cz {N M:Nat} {l:List Fm} {o:Nat} {P:Nat→Nat} {h:List B} {d:Nat} (e:FH N M l (pxL l) o P h):VwF h (d+1+1+1) (.ms 3 o (l.length * 3) 0 l.length false) (.sl false l.length (fmC (czF l))):=by
 have:=e.vw (l' := czF l) (d:=d) czF_len fun j f hf=>by rw [czF_get hf,pxL_at hf]
 rwa [czF_len] at this
theorem spv_vw {h:List B} {d:Nat} {s:Sp}:Vw h (d+2) (.agg (spV s)) (.agg (spV s)) :=
 Vw.agg (VwL.cons (Vw.int rfl) (VwL.cons (Vw.int rfl) (VwL.cons (Vw.int rfl) (VwL.cons Vw.sl (VwL.cons (Vw.int rfl) (VwL.cons (Vw.int rfl) (VwL.cons (Vw.int rfl) (VwL.cons Vw.sl VwL.nil))))))))
theorem lgC_vw {h:List B} {d:Nat}:∀ {A:List (List Cg)},VwL h (d+1) (lgC A) (lgC A)
 | []=>VwL.nil
 | x :: A=>VwL.cons Vw.sl (lgC_vw (A:=A))
structure RS where
 i:Nat
 fv:V
 lv:V
 G:List B
def RI (W H:Nat) (l:List Fm) (ss:List Sp) (G0:List B) (o i:Nat) (fv lv:V) (G:List B):Prop :=
 (i=0∧fv = .ms 3 o (l.length * 3) 0 l.length false∧lv = .nilsl∧G=G0) ∨
 (0<i∧fv = .sl false l.length (fmC (rnF W H (czF l) (ss.take i)))∧∃ q,lv = .ms 1 q i 0 i false∧bget G q=some (.blk (lgC (rnC W H (czF l) (ss.take i))) false)∧Cl G∧G0.length≤G.length)
theorem RI.first {W H:Nat} {l:List Fm} {ss:List Sp} {G0 X:List B} {o:Nat} {s:Sp} {mk:List Bool} {tm:List V} {n j q:Nat} (c:Cl G0) (hs:ss[0]?=some s) (hn:n=G0.length) (hX:hasc G0.length X) (hq:bget (G0++X) q=some (.blk [cgL (doC l W H s)] false)) (hv:tg (masked mk tm) j = .ms 1 q 1 0 1 false):RI W H l ss G0 o 1 (.sl false l.length (fmC (doF l W H s))) (.ms 1 q 1 0 1 false) (norm mk n ⟨tm,G0++X⟩).h:=by
 subst hn
 have ht:ss.take 1=[s]:=by
  cases ss with
  | nil=>cases hs
  | cons t ss=>simp only [List.getElem?_cons_zero,Option.some.injEq] at hs;subst hs;rfl
 have hl:G0.length≤(⟨tm,G0++X⟩:St).h.length:=by show _≤(G0++X).length;rw [List.length_append];omega
 refine .inr ⟨Nat.one_pos,?_,q,rfl,?_,norm_cl hl (cl_asc c hX),norm_len hl⟩
 ·rw [ht]
  show _=V.sl false l.length (fmC (doF (czF l) W H s))
  rw [doF_cz]
 ·rw [ht]
  show _=some (B.blk [cgL (doC (czF l) W H s)] false)
  rw [doC_cz]
  exact norm_keep (i:=j) hl (fun k hk=>by rw [hv] at hk;exact of_decide_eq_true hk) hq
theorem RI.more {W H:Nat} {l:List Fm} {ss:List Sp} {G0 G X:List B} {o i:Nat} {s:Sp} {mk:List Bool} {tm:List V} {n j q:Nat} (hi:0<i) (c:Cl G) (hl0:G0.length≤G.length) (hs:ss[i]?=some s) (hn:n=G0.length) (hX:hasc G.length X) (hq:q<G.length) (hv:tg (masked mk tm) j = .ms 1 q (i+1) 0 (i+1) false):RI W H l ss G0 o (i+1) (.sl false l.length (fmC (doF (rnF W H (czF l) (ss.take i)) W H s))) (.ms 1 q (i+1) 0 (i+1) false) (norm mk n ⟨tm,bset (G++X) q (.blk (lgC (rnC W H (czF l) (ss.take i))++[cgL (doC (rnF W H (czF l) (ss.take i)) W H s)]) false)⟩).h:=by
 subst hn
 have ht:ss.take (i+1)=ss.take i++[s]:=by
  rw [List.take_add_one,hs]
  rfl
 have hlX:(G++X).length=G.length+X.length:=List.length_append
 have hc:Cl (bset (G++X) q (.blk (lgC (rnC W H (czF l) (ss.take i))++[cgL (doC (rnF W H (czF l) (ss.take i)) W H s)]) false)):=(cl_asc c hX).set (by
  show (false || blos _ _)=true
  rw [Bool.false_or, ← lgC_snoc]
  exact lgC_blos)
 have hl:G0.length≤(⟨tm,bset (G++X) q (.blk (lgC (rnC W H (czF l) (ss.take i))++[cgL (doC (rnF W H (czF l) (ss.take i)) W H s)]) false)⟩:St).h.length:=by
  show _≤(bset _ _ _).length
  rw [bset_len,hlX];omega
 refine .inr ⟨Nat.succ_pos _,by rw [ht,rnF_snoc],q,rfl,?_,norm_cl hl hc,norm_len hl⟩
 rw [ht,rnC_snoc,lgC_snoc]
 exact norm_keep (i:=j) hl (fun k hk=>by rw [hv] at hk;exact of_decide_eq_true hk) (bget_same (by rw [hlX];omega))
set_option maxRecDepth 100000 in
set_option maxHeartbeats 20000000 in
theorem run_ok {c d:Bool} {l:List Fm} {ss:List Sp} {W H:Nat} (o:FOk l W H) (hs20:ss.length≤20) (p:∀ s∈ss,SOk s l.length W H) (he:(csE l ss).2=0):Fun FB md 20 [.sl c l.length (fmC l),.sl d ss.length (spC ss)] (.tup [.sl false l.length (fmC (rnF W H (czF l) ss)),lgL (rnC W H (czF l) ss),.int .i64 0]):=by
 have hcp:∀ {K:V→List B→Prop},(∀ G,Cl G→FH ([]:List B).length G.length l (pxL l) (([]:List B).length+1) (fun j=>([]:List B).length+2+j) G→K (.ms 3 (([]:List B).length+1) (l.length * 3) 0 l.length false) G)→CallP FB md 0 (.fn 47 []) [.sl c l.length (fmC l)] [] K:=fun h=>clone_call o rfl fun G c1 _ _ c4=>h G c1 c4
 have k1:=csteps_ok (c:=c) (d:=d) (l:=l) (ss:=ss)
 rw [he] at k1
 generalize (csE l ss).1=z1 at *
 have hn0:=o.n0
 have hn12:=o.n12
 refine fun_of rfl rfl ?_
 repeat' (first
 | (conv=>whnf)
   first
   | refine Br.f ?_
   | refine call_fun rfl rfl k1 (.inl rfl) ?_
   | refine Get.mk _ rfl ?_)
 all_goals try (exfalso;omega;done)
 (refine hcp ?_;intro G0 c1 c4;clear hcp)
 clear k1
 repeat' (first
 | (conv=>whnf)
   first
   | refine fLen.mk ?_
   | refine fB.i0 ?_)
 all_goals try (exfalso;omega;done)
 refine LoopP.by (fun a:RS=>a.i≤ss.length∧RI W H l ss G0 1 a.i a.fv a.lv a.G) (fun a=>[(4,a.fv),(5,a.lv),(24,.int .i64 (a.i:Nat))]) (fun a=>a.G) (fun a=>ss.length - a.i) ⟨0,_,_,G0⟩ ⟨Nat.zero_le _,.inl ⟨rfl,rfl,rfl,rfl⟩⟩ rfl ?_
 rintro ⟨i,fv,lv,G⟩ ⟨w1,w2⟩
 dsimp only at w1 w2 ⊢
 by_cases hi:i<ss.length
 rotate_left
 ·obtain rfl:i=ss.length:=by omega
  rcases w2 with ⟨h0,rfl,rfl,rfl⟩ | ⟨h0,rfl,q,rfl,hq,_,_⟩
  ·have hss:ss=[]:=List.eq_nil_of_length_eq_zero h0
   subst hss
   have hF:=VwF.vw (c4.cz (d:=60))
   repeat' (first
 | (conv=>whnf)
   first
   | refine Br.f ?_
   | refine fLen.mk ?_
   | refine fB.i0 ?_
   | refine fB.mk ?_
   | exact hF
   | refine Get.mk _ rfl ?_
   | refine Leaves.of ?_
   | refine Vw.int ?_
   | refine Vw.nil
   | refine Vw.tup ?_
   | refine VwL.cons ?_ ?_
   | refine VwL.nil)
   all_goals first | rfl | exact Vw.nil | (exfalso;omega;done)
  ·rw [List.take_length] at *
   have hA:lgL (rnC W H (czF l) ss) = .sl false ss.length (lgC (rnC W H (czF l) ss)):=by
    unfold lgL
    have:rnC W H (czF l) ss≠[]:=fun e=>by
     have:=rnC_len (W:=W) (H:=H) (ss:=ss) (l:=czF l)
     rw [e] at this
     simp at this
     omega
    rw [decide_eq_false this,rnC_len]
   rw [hA]
   have hL:Vw G (61+1+1) (.ms 1 q ss.length 0 ss.length false) (.sl false ss.length (lgC (rnC W H (czF l) ss))):=Vw.ms hq (by rw [lgC_length,rnC_len]) (part_all (by rw [lgC_length,rnC_len,Nat.mul_one])) lgC_vw
   repeat' (first
 | (conv=>whnf)
   first
   | (refine Br.decF ?_ ?_;(focus first | assumption | omega))
   | refine fLen.mk ?_
   | refine fB.i0 ?_
   | refine fB.mk ?_
   | exact hL
   | refine Get.mk _ rfl ?_
   | refine Leaves.of ?_
   | refine Vw.int ?_
   | refine Vw.sl
   | refine Vw.tup ?_
   | refine VwL.cons ?_ ?_
   | refine VwL.nil)
   all_goals first | rfl | exact Vw.nil | (exfalso;omega;done)
 obtain ⟨s,hs⟩:∃ s,ss[i]?=some s:=⟨_,List.getElem?_eq_getElem hi⟩
 have hp:=spC_part hs
 have ps:=p s (List.mem_of_getElem? hs)
 have hiw:IntKind.i64.wrap ((i:Int)+1)=((i+1:Nat):Int):=by rw [wrap_i64 (by omega) (by omega)];omega
 have hil:i≤ss.length - 1:=by omega
 have h0l:0<ss.length:=by omega
 rcases w2 with ⟨h0,rfl,rfl,rfl⟩ | ⟨h0,rfl,q,rfl,hq,hcl,hgl⟩
 ·subst h0
  have kd:=do_ok (c:=false) (l:=czF l) (czF_ok o) (by rw [czF_len];exact ps)
  rw [czF_len,doF_len,czF_len,doF_cz,doC_cz] at kd
  have hvw:∀ X:List B,views (G++X) depth [.ms 3 1 (l.length * 3) 0 l.length false,.agg (spV s)]=some [.sl false l.length (fmC (czF l)),.agg (spV s)]:=fun X=>(VwL.cons (VwF.vw ((c4.app (g:=X)).cz (d:=61))) (VwL.cons (spv_vw (d:=62)) VwL.nil)).1
  have hvw0:views G depth [.ms 3 1 (l.length * 3) 0 l.length false,.agg (spV s)]=some [.sl false l.length (fmC (czF l)),.agg (spV s)]:=(VwL.cons (VwF.vw (c4.cz (d:=61))) (VwL.cons (spv_vw (d:=62)) VwL.nil)).1
  repeat' (first
 | (conv=>whnf)
   first
   | refine Bnd.eq hiw ?_
   | (refine Br.decT ?_ ?_;(focus first | assumption | omega))
   | refine fLen.mk ?_
   | refine fB.i0 ?_
   | refine fB.i1 ?_
   | refine Get.mk _ hp ?_
   | refine Idx.nat hil ?_
   | refine Req.mk h0l ?_
   | refine call_fresh rfl (hvw _) kd ?_
   | refine Req.mk (bget_new (i:=1)) ?_
   | refine Get.newj 0 rfl rfl ?_
   | refine Get.newj 1 rfl rfl ?_
   | refine fB.newj 0 rfl ?_
   | refine fB.newj 1 rfl ?_
   | refine fB.mk ?_
   | (refine Ifz.pos ?_ ?_;(focus omega))
   | refine Get.mk _ rfl ?_
   | (refine Req.mk ?_ ?_;(focus first | rfl | decide | exact ⟨rfl,rfl⟩ | exact ⟨rfl,by decide⟩ | exact (fun _=>rfl) | exact (fun h=>nomatch h) | (simp;done) | omega | (simp [big];done) | exact le_big (by omega) | exact lt_big (by omega))))
  all_goals try (exfalso;omega;done)
  rw [List.append_assoc]
  exact NextP.of (fun h=>⟨1,_,_,h⟩) ⟨hi,RI.first (j:=5) c1 hs rfl ⟨rfl,rfl,rfl,trivial⟩ (by rw [List.length_append];exact bget_new (i:=2)) rfl⟩ (by dsimp only;omega) rfl
 ·have kd:=do_ok (c:=false) (rnF_ok (ss:=ss.take i) (czF_ok o)) (by rw [rnF_len,czF_len];exact ps)
  rw [rnF_len,czF_len,doF_len,rnF_len,czF_len] at kd
  have hll:(lgC (rnC W H (czF l) (ss.take i))).length=i:=by rw [lgC_length,rnC_len,List.length_take];omega
  have hsz:∀ a:V,0+i * 1=i∧((lgC (rnC W H (czF l) (ss.take i))).length+[a].length) * (24+1)<big:=fun a=>⟨by omega,by rw [hll];unfold big;simp;omega⟩
  have hq' := bget_lt hq
  repeat' (first
 | (conv=>whnf)
   first
   | refine Bnd.eq hiw ?_
   | (refine Br.decT ?_ ?_;(focus first | assumption | omega))
   | refine fLen.mk ?_
   | refine fB.i0 ?_
   | refine fB.i1 ?_
   | refine Get.mk _ hp ?_
   | refine Idx.nat hil ?_
   | refine Req.mk h0l ?_
   | refine call_fresh rfl rfl kd ?_
   | refine Get.mk _ (bget_app (bget_app hq)) ?_
   | refine Req.mk hll ?_
   | refine Req.mk (hsz _) ?_
   | refine Get.newj 0 rfl rfl ?_
   | refine fB.newj 0 rfl ?_
   | refine fB.mk ?_
   | (refine Ifz.pos ?_ ?_;(focus omega))
   | refine Get.mk _ rfl ?_
   | (refine Req.mk ?_ ?_;(focus first | rfl | decide | exact ⟨rfl,rfl⟩ | exact ⟨rfl,by decide⟩ | exact (fun _=>rfl) | exact (fun h=>nomatch h) | (simp;done) | omega | (simp [big];done) | exact le_big (by omega) | exact lt_big (by omega))))
  all_goals try (exfalso;omega;done)
  rw [List.append_assoc]
  exact NextP.of (fun h=>⟨i+1,_,_,h⟩) ⟨hi,RI.more (j:=5) h0 hcl hgl hs rfl ⟨rfl,rfl,rfl,trivial⟩ hq' rfl⟩ (by dsimp only;omega) rfl
set_option maxRecDepth 100000 in
set_option maxHeartbeats 20000000 in
theorem run_bad {c d:Bool} {l:List Fm} {ss:List Sp} (he:(csE l ss).2≠0):Fun FB md 20 [.sl c l.length (fmC l),.sl d ss.length (spC ss)] (.tup [.sl true 0 [],.sl true 0 [],.int .i64 (csE l ss).2]):=by
 have k1:=csteps_ok (c:=c) (d:=d) (l:=l) (ss:=ss)
 generalize csE l ss=e at *
 obtain ⟨e1,e2⟩:=e
 dsimp only at *
 refine fun_of rfl rfl ?_
 repeat' (first
 | (conv=>whnf)
   first
   | (refine Br.decF ?_ ?_;(focus first | assumption | omega))
   | refine Br.not ?_
   | refine call_fun rfl rfl k1 (.inl rfl) ?_
   | refine Get.mk _ rfl ?_
   | refine Leaves.of ?_
   | refine Vw.int ?_
   | refine Vw.nil
   | refine Vw.tup ?_
   | refine VwL.cons ?_ ?_
   | refine VwL.nil)
 all_goals first | rfl | exact Vw.nil | (exfalso;omega;done)
end Go.Dr.T
namespace Go.Dr.T
def bIx (n k:Nat):Int:=(n:Int) - 1 - k
end Go.Dr.T
namespace Go.Dr.T
def kAt (L:List Int) (i:Nat):Int:=L.getD i 0
theorem kAt_get {L:List Int} {i:Nat} (h:i<L.length):L[i]?=some (kAt L i):=by
 unfold kAt
 rw [List.getD_eq_getElem?_getD,List.getElem?_eq_getElem h]
 rfl
theorem ofInts_cell {L:List Int} {i:Nat} (h:i<L.length):∃ y,L[i]?=some y∧cellAt (ofInts L) (i * 1)=some (.int .i64 y):=by
 refine ⟨L[i],List.getElem?_eq_getElem h,?_⟩
 rw [cellAt_eq,Nat.mul_one,ofInts,List.getElem?_map,List.getElem?_eq_getElem h]
 rfl
def rvS (L:List Int) (i:Nat):List Int:=(List.range L.length).map fun x=>if x<i∨L.length≤x+i then kAt L (L.length - 1 - x) else kAt L x
theorem rvS_len (L:List Int) (i:Nat):(rvS L i).length=L.length:=by simp [rvS]
theorem rvS_get {L:List Int} {i x:Nat} (hx:x<L.length):(rvS L i)[x]?=some (if x<i∨L.length≤x+i then kAt L (L.length - 1 - x) else kAt L x):=by
 simp [rvS,hx]
theorem rvS_zero (L:List Int):rvS L 0=L:=by
 apply List.ext_getElem?
 intro x
 by_cases hx:x<L.length
 ·rw [rvS_get hx,if_neg (by omega),kAt_get hx]
 ·rw [List.getElem?_eq_none (by rw [rvS_len];omega),List.getElem?_eq_none (by omega)]
theorem rvS_end {L:List Int} {i:Nat} (h:L.length≤2 * i+1):rvS L i=L.reverse:=by
 apply List.ext_getElem?
 intro x
 by_cases hx:x<L.length
 ·rw [rvS_get hx,List.getElem?_reverse hx,kAt_get (by omega)]
  split
  ·rfl
  ·have:x=L.length - 1 - x:=by omega
   rw [← this]
 ·rw [List.getElem?_eq_none (by rw [rvS_len];omega),List.getElem?_eq_none (by simp;omega)]
theorem rvS_step {L:List Int} {i:Nat} (h:i<L.length - 1 - i):((rvS L i).set i (kAt L (L.length - 1 - i))).set (L.length - 1 - i) (kAt L i)=rvS L (i+1):=by
 apply List.ext_getElem?
 intro x
 by_cases hx:x<L.length
 ·rw [rvS_get hx,List.getElem?_set,List.getElem?_set,List.length_set,rvS_len,rvS_get hx]
  by_cases h1:L.length - 1 - i=x
  ·rw [if_pos h1,if_pos (by omega),if_pos (by omega)]
   congr 2;omega
  ·rw [if_neg h1]
   by_cases h2:i=x
   ·subst h2
    rw [if_pos rfl,if_pos hx,if_pos (by omega)]
   ·rw [if_neg h2]
    congr 1
    by_cases h3:x<i∨L.length≤x+i
    ·rw [if_pos h3,if_pos (by omega)]
    ·rw [if_neg h3,if_neg (by omega)]
 ·rw [List.getElem?_eq_none (by simp [rvS_len];omega),List.getElem?_eq_none (by rw [rvS_len];omega)]
theorem over_int:∀ {M:List Int} {i:Nat} {y:Int},over (ofInts M) i [.int .i64 y]=ofInts (M.set i y)
 | [],i,y=>by cases i <;> rfl
 | m :: M,0,y=>by cases M <;> rfl
 | m :: M,i+1,y=>by
  have:=over_int (M:=M) (i:=i) (y:=y)
  simp only [ofInts,List.map_cons,List.set_cons_succ,over] at this ⊢
  rw [this]
theorem cell_kAt {M:List Int} {q:Nat} (h:q<M.length):cellAt (ofInts M) (0+q * 1)=some (.int .i64 (kAt M q)):=by
 obtain ⟨y,h1,h2⟩:=ofInts_cell h
 rw [kAt_get h] at h1
 cases h1;rw [Nat.zero_add];exact h2
theorem bset_twice {h:List B} {i:Nat} {a b:B}:bset (bset h i a) i b=bset h i b:=by
 rw [bset_eq,bset_eq,bset_eq,List.set_set]
theorem fB.tw {h:List B} {i:Nat} {a b:B} {K:List B→Prop} (hk:K (bset h i b)):fB (bset (bset h i a) i b) K:=fB.mk (by rw [bset_twice];exact hk)
set_option maxRecDepth 100000 in
set_option maxHeartbeats 20000000 in
theorem reverse_call {h:List B} {id:Nat} {L:List Int} {K:V→List B→Prop} (hb:bget h id=some (.blk (ofInts L) true)) (hl:L.length≤100000) (hk:K (.tup []) (bset h id (.blk (ofInts L.reverse) true))):CallP FB md 0 (.fn 55 []) [.ms 1 id L.length 0 L.length false] h K:=by
 refine call_one rfl rfl rfl ?_
 repeat' (first
 | (conv=>whnf)
   first
   | (refine Bnd.i64 ?_ ?_ ?_;(focus omega);(focus omega))
   | refine fLen.mk ?_
   | refine fB.i0 ?_)
 refine LoopP.by (fun i:Nat=>i≤L.length) (fun i=>[(2,.int .i64 (i:Nat)),(3,.int .i64 ((L.length:Int) - 1 - (i:Nat)))]) (fun i=>bset h id (.blk (ofInts (rvS L i)) true)) (fun i=>L.length - i) 0 (Nat.zero_le _) (by rw [rvS_zero,bset_self hb,show (L.length:Int) - 1 - ((0:Nat):Int)=L.length - 1 by omega];rfl) ?_
 rintro i hi
 dsimp only
 have hlt:=bget_lt hb
 by_cases hij:i<L.length - 1 - i
 rotate_left
 ·rw [rvS_end (by omega)]
  repeat' (first
 | (conv=>whnf)
   first
   | (refine Br.decF ?_ ?_;(focus first | assumption | omega))
   | refine fLen.mk ?_
   | refine fB.i0 ?_
   | refine fB.mk ?_
   | refine Get.mk _ rfl ?_
   | refine Ends.of ?_)
  all_goals (show K _ (trunc h.length _ (bset h id _));rw [trunc_same (by rw [bset_len])];exact hk)
 have hjj:(L.length:Int) - 1 - (i:Nat)=((L.length - 1 - i:Nat):Int):=by omega
 rw [hjj]
 obtain ⟨j,hj⟩:∃ j,L.length - 1 - i=j:=⟨_,rfl⟩
 have hbj:IntKind.i64.wrap ((j:Int) - 1)=(L.length:Int) - 1 - ((i+1:Nat):Int):=by rw [wrap_i64 (by omega) (by omega)];omega
 have hst:=rvS_step (L:=L) (i:=i) (by omega)
 rw [hj] at hst ⊢ hij
 have hml:=rvS_len L i
 have hki:kAt (rvS L i) i=kAt L i:=by
  have h1:=rvS_get (L:=L) (i:=i) (x:=i) (by omega)
  rw [if_neg (by omega),kAt_get (by rw [hml];omega)] at h1
  simpa using h1
 have hkj:kAt (rvS L i) j=kAt L j:=by
  have h1:=rvS_get (L:=L) (i:=i) (x:=j) (by omega)
  rw [if_neg (by omega),kAt_get (by rw [hml];omega)] at h1
  simpa using h1
 generalize rvS L i=M at *
 have c1:=cell_kAt (M:=M) (q:=i) (by omega)
 have c2:=cell_kAt (M:=M) (q:=j) (by omega)
 rw [hki] at c1
 rw [hkj] at c2
 have hg:=bget_same (b:=.blk (ofInts M) true) hlt
 have ov1:over (ofInts M) (0+i * 1) [.int .i64 (kAt L j)]=ofInts (M.set i (kAt L j)):=by rw [Nat.zero_add,Nat.mul_one];exact over_int
 have ov2:over (ofInts (M.set i (kAt L j))) (0+j * 1) [.int .i64 (kAt L i)]=ofInts ((M.set i (kAt L j)).set j (kAt L i)):=by rw [Nat.zero_add,Nat.mul_one];exact over_int
 have hol:(ofInts M).length=L.length:=by simp [ofInts,hml]
 have hol2:(ofInts (M.set i (kAt L j))).length=L.length:=by simp [ofInts,hml]
 have hg2:=bget_same (b:=.blk (ofInts (M.set i (kAt L j))) true) hlt
 repeat' (first
 | (conv=>whnf)
   first
   | refine Bnd.eq hbj ?_
   | (refine Br.decT ?_ ?_;(focus first | assumption | omega))
   | (refine Bnd.i64 ?_ ?_ ?_;(focus omega);(focus omega))
   | refine fLen.mk ?_
   | refine fB.i0 ?_
   | refine Get.mk _ hg ?_
   | refine Get.mk _ hg2 ?_
   | refine Get.mk _ c1 ?_
   | refine Get.mk _ c2 ?_
   | refine fV.as ov1 ?_
   | refine fV.as ov2 ?_
   | refine Req.mk hol ?_
   | refine Req.mk ⟨hol,by rw [hol];omega⟩ ?_
   | refine Req.mk ⟨hol2,by rw [hol2];omega⟩ ?_
   | refine fB.tw ?_
   | refine fB.mk ?_
   | (refine Idx.nat ?_ ?_;(focus omega))
   | (refine Req.mk ?_ ?_;(focus first | rfl | decide | exact ⟨rfl,rfl⟩ | exact ⟨rfl,by decide⟩ | exact (fun _=>rfl) | exact (fun h=>nomatch h) | (simp;done) | omega | (simp [big];done) | exact le_big (by omega) | exact lt_big (by omega))))
 refine NextP.mk (i+1) (by omega) (by omega) ?_
 rw [← hst]
 exact norm_same (by rw [bset_len])
theorem reverse_nil {h:List B} {K:V→List B→Prop} (hk:K (.tup []) h):CallP FB md 0 (.fn 55 []) [.nilsl] h K:=by
 refine call_one rfl rfl rfl ?_
 repeat' (first
 | (conv=>whnf)
   first
   | (refine Bnd.i64 ?_ ?_ ?_;(focus omega);(focus omega))
   | refine fLen.mk ?_
   | refine fB.i0 ?_)
 all_goals try (exfalso;omega;done)
 refine LoopP.by (fun _:Unit=>True) (fun _=>[]) (fun _=>h) (fun _=>0) () trivial rfl ?_
 rintro ⟨⟩ -
 dsimp only
 repeat' (first
 | (conv=>whnf)
   first
   | refine Br.f ?_
   | refine fLen.mk ?_
   | refine fB.i0 ?_
   | refine fB.mk ?_
   | refine Get.mk _ rfl ?_
   | refine Ends.of ?_)
 all_goals try (exfalso;omega;done)
 show K _ (trunc h.length _ h)
 rw [trunc_same rfl]
 exact hk
structure IterD (L:List Sp) (id N:Nat) (Q:Nat→List B→Prop) (S:List B→Prop) (ok:Nat→Prop):Prop where
 qcl:∀ k G,Q k G→Cl G∧N≤G.length
 qtk:∀ k G j,Q k G→N≤j→Cl (G.take j)→Q k (G.take j)
 scl:∀ G,S G→Cl G∧N≤G.length
 stk:∀ G j,S G→N≤j→Cl (G.take j)→S (G.take j)
 go:∀ k s G (K:V→List B→Prop),k<L.length→L[L.length - (k+1)]?=some s→ok k→Q k G→(∀ G', G.length≤G'.length→Q (k+1) G' → K (.bool true) G')→CallP FB md 0 (.yld id) [.int .i64 ((L.length - (k+1):Nat):Int),.agg (spV s)] G K
 no:∀ k s G (K:V→List B→Prop),k<L.length→L[L.length - (k+1)]?=some s→¬ ok k→Q k G→(∀ G', G.length≤G'.length→S G' → K (.bool false) G')→CallP FB md 0 (.yld id) [.int .i64 ((L.length - (k+1):Nat):Int),.agg (spV s)] G K
set_option maxRecDepth 100000 in
set_option maxHeartbeats 20000000 in
theorem it93 {c:Bool} {L:List Sp} {id N:Nat} {Q:Nat→List B→Prop} {S:List B→Prop} {ok:Nat→Prop} {G0:List B} {K:V→List B→Prop} (hl:L.length≤1000000) (h:IterD L id N Q S ok) (hN:G0.length=N) (h0:Q 0 G0) (hk1:∀ G,Q L.length G→K (.tup []) G) (hk2:∀ G,S G→K (.tup []) G):CallP FB md 0 (.fn 93 [.rp [.sl c L.length (spC L)] 0]) [.yld id] G0 K:=by
 have hb0:IntKind.i64.wrap ((L.length:Int) - 1)=bIx L.length 0:=by rw [wrap_i64 (by omega) (by omega)];unfold bIx;omega
 refine call_one rfl rfl rfl ?_
 repeat' (first
 | (conv=>whnf)
   first
   | refine Bnd.eq hb0 ?_
   | refine fLen.mk ?_
   | refine fB.i0 ?_
   | refine Get.mk _ rfl ?_)
 all_goals try (exfalso;omega;done)
 refine LoopP.by (fun a:GA=>a.i≤L.length∧Q a.i a.G) (fun a=>[(3,.int .i64 (bIx L.length a.i))]) (fun a=>a.G) (fun a=>L.length - a.i) ⟨0,G0⟩ ⟨Nat.zero_le _,h0⟩ rfl ?_
 rintro ⟨k,G⟩ ⟨w1,w2⟩
 dsimp only at w1 w2 ⊢
 have hGl:=(h.qcl k G w2).2
 by_cases hi:k<L.length
 rotate_left
 ·obtain rfl:k=L.length:=by omega
  have hb:bIx L.length L.length = -1:=by unfold bIx;omega
  rw [hb]
  repeat' (first
 | (conv=>whnf)
   first
   | refine Br.f ?_
   | refine fLen.mk ?_
   | refine fB.i0 ?_
   | refine fB.mk ?_
   | refine Get.mk _ rfl ?_
   | refine Ends.of ?_)
  all_goals try (exfalso;omega;done)
  obtain ⟨j,h1,h2,h3,_⟩:=trunc_cut (n:=G0.length) (tm:=[.tup []]) (h:=G) (by omega) (h.qcl _ G w2).1
  show K (.tup []) (trunc G0.length [.tup []] G)
  rw [h2]
  exact hk1 _ (h.qtk _ G j w2 (by omega) h3)
 have hb:bIx L.length k=((L.length - (k+1):Nat):Int):=by unfold bIx;omega
 have hb1:IntKind.i64.wrap (((L.length - (k+1):Nat):Int) - 1)=bIx L.length (k+1):=by rw [wrap_i64 (by omega) (by omega)];unfold bIx;omega
 rw [hb]
 obtain ⟨s,hcs⟩:∃ x,L[L.length - (k+1)]?=some x:=⟨_,List.getElem?_eq_getElem (by omega)⟩
 have hp:=spC_part hcs
 have hil:L.length - (k+1)≤L.length - 1:=by omega
 have h0l:0<L.length:=by omega
 by_cases hok:ok k
 ·have hgo:=fun (K' : V→List B→Prop) (hK)=>h.go k s G K' hi hcs hok w2 hK
  generalize L.length - (k+1)=q at *
  repeat' (first
 | (conv=>whnf)
   first
   | refine Bnd.eq hb1 ?_
   | refine Br.t ?_
   | refine Br.f ?_
   | refine fLen.mk ?_
   | refine fB.i0 ?_
   | refine Get.mk _ hp ?_
   | refine Idx.nat hil ?_
   | refine Req.mk h0l ?_
   | (refine hgo _ ?_;intro G' g1 g2)
   | refine fB.mk ?_
   | refine Get.mk _ rfl ?_)
  all_goals try (exfalso;omega;done)
  refine NextP.of (fun g=>⟨k+1,g⟩) ⟨hi,?_⟩ (by dsimp only;omega) rfl
  obtain ⟨j,h1,h2,h3,_⟩:=norm_cut (n:=G0.length) (mk:=_) (tm:=_) (h:=G') (by omega) (h.qcl _ G' g2).1
  show Q (k+1) (norm _ G0.length ⟨_,G'⟩).h
  rw [h2]
  exact h.qtk _ G' j g2 (by omega) h3
 ·have hno:=fun (K' : V→List B→Prop) (hK)=>h.no k s G K' hi hcs hok w2 hK
  generalize L.length - (k+1)=q at *
  repeat' (first
 | (conv=>whnf)
   first
   | refine Br.t ?_
   | refine fLen.mk ?_
   | refine fB.i0 ?_
   | refine Get.mk _ hp ?_
   | refine Idx.nat hil ?_
   | refine Req.mk h0l ?_
   | (refine hno _ ?_;intro G' g1 g2)
   | refine fB.mk ?_
   | refine Get.mk _ rfl ?_
   | refine Ends.of ?_)
  all_goals try (exfalso;omega;done)
  obtain ⟨j,h1,h2,h3,_⟩:=trunc_cut (n:=G0.length) (tm:=[.tup []]) (h:=G') (by omega) (h.scl G' g2).1
  show K (.tup []) (trunc G0.length [.tup []] G')
  rw [h2]
  exact hk2 _ (h.stk G' j g2 (by omega) h3)
theorem backS_ok {cv:V} (hs:∃ c n k,cv = .sl c n k):Fun FB md 51 [cv] (.fn 93 [.rp [cv] 0]):=by
 obtain ⟨c,n,k,rfl⟩:=hs
 refine fun_of rfl rfl ?_
 repeat' (first
 | (conv=>whnf)
   first
   | exact Vw.fn (VwL.cons (Vw.ref rfl rfl rfl (VwL.cons Vw.sl VwL.nil)) VwL.nil)
   | refine Get.mk _ rfl ?_
   | refine Leaves.of ?_
   | (refine Req.mk ?_ ?_;(focus first | rfl | decide | exact ⟨rfl,rfl⟩ | exact ⟨rfl,by decide⟩ | exact (fun _=>rfl) | exact (fun h=>nomatch h) | (simp;done) | omega | (simp [big];done) | exact le_big (by omega) | exact lt_big (by omega))))
 all_goals first | rfl | (exfalso;omega;done)
end Go.Dr.T
