/- Top, of chapter 08: Run and its reference. -/
import Derived.Test.YtbnmdlnkhghbpaaGreatDoorG9
set_option maxRecDepth 100000
set_option maxHeartbeats 20000000
namespace Go.Dr.T
theorem Qhh {n:Nat} {w h:Int}:∀ {ss:List Sp} {i:Nat},(csF n w h ss i).2=0→∀ s∈ss,spE n w h s=0
 | [],_,_,s,hs=>by cases hs
 | t::ss,i,e,s,hs=>by
  rw [csF] at e
  by_cases ht:spE n w h t=0
  ·rw [if_neg (fun q=>q ht)] at e
   rcases List.mem_cons.1 hs with rfl|hs
   ·exact ht
   ·exact Qhh e s hs
  ·rw [if_pos ht] at e
   exact absurd e ht
theorem Qhi {l:List Fm} {ss:List Sp} (h:(csE l ss).2=0):∃ W H,FOk l W H∧ss.length≤20∧∀ s∈ss,SOk s l.length W H:=by
 unfold csE at h
 split at h
 ·rename_i h1
  exact absurd h h1
 rename_i h1
 split at h
 ·exact absurd h (by decide)
 rename_i h2
 obtain ⟨W,H,o⟩:=FOk.of (Classical.not_not.1 h1)
 obtain ⟨f,hf,hw,hh,_⟩:=o.at o.n0
 rw [Qno hf,hw,hh] at h
 exact ⟨W,H,o,by omega,fun s hs=>SOk.of (Qhh h s hs)⟩
theorem VwF.vw {h:List B} {d:Nat} {a b:V} (e:VwF h d a b):Vw h d a b:=by
 obtain ⟨h1,_⟩:=e
 exact ⟨h1⟩
theorem FH.cz {N M:Nat} {l:List Fm} {o:Nat} {P:Nat→Nat} {h:List B} {d:Nat} (e:FH N M l (pxL l) o P h):VwF h (d+1+1+1) (.ms 3 o (l.length*3) 0 l.length false) (.sl false l.length (fmC (czF l))):=by
 have:=e.vw (l':=czF l) (d:=d) Q0u fun j f hf=>by rw [Q8w hf,Q25 hf]
 rwa [Q0u] at this
theorem Qgh {h:List B} {d:Nat} {s:Sp}:Vw h (d+2) (.agg (spV s)) (.agg (spV s)) :=
 Vw.agg (VwL.cons (Vw.int rfl) (VwL.cons (Vw.int rfl) (VwL.cons (Vw.int rfl) (VwL.cons Vw.sl (VwL.cons (Vw.int rfl) (VwL.cons (Vw.int rfl) (VwL.cons (Vw.int rfl) (VwL.cons Vw.sl VwL.nil))))))))
theorem Qm2 {h:List B} {d:Nat}:∀ {A:List (List Cg)},VwL h (d+1) (lgC A) (lgC A)
 | []=>VwL.nil
 | x::A=>VwL.cons Vw.sl (Qm2 (A:=A))
structure RS where
 i:Nat
 fv:V
 lv:V
 G:List B
def RI (W H:Nat) (l:List Fm) (ss:List Sp) (G0:List B) (o i:Nat) (fv lv:V) (G:List B):Prop :=
 (i=0∧fv=.ms 3 o (l.length*3) 0 l.length false∧lv=.nilsl∧G=G0) ∨
 (0<i∧fv=.sl false l.length (fmC (rnF W H (czF l) (ss.take i)))∧∃ q,lv=.ms 1 q i 0 i false∧bget G q=some (.blk (lgC (rnC W H (czF l) (ss.take i))) false)∧Cl G∧G0.length≤G.length)
theorem RI.first {W H:Nat} {l:List Fm} {ss:List Sp} {G0 X:List B} {o:Nat} {s:Sp} {mk:List Bool} {tm:List V} {n j q:Nat} (c:Cl G0) (hs:ss[0]?=some s) (hn:n=G0.length) (hX:hasc G0.length X) (hq:bget (G0++X) q=some (.blk [cgL (doC l W H s)] false)) (hv:tg (Q0m mk tm) j=.ms 1 q 1 0 1 false):RI W H l ss G0 o 1 (.sl false l.length (fmC (doF l W H s))) (.ms 1 q 1 0 1 false) (norm mk n ⟨tm,G0++X⟩).h:=by
 subst hn
 have ht:ss.take 1=[s]:=by
  cases ss with
  | nil=>cases hs
  | cons t ss=>simp only [List.getElem?_cons_zero,jA] at hs;subst hs;rfl
 have hl:G0.length≤(⟨tm,G0++X⟩:St).h.length:=by show _≤(G0++X).length;rw [jD];omega
 refine .inr ⟨Nat.one_pos,?_,q,rfl,?_,Q45 hl (Q27 c hX),Q2c hl⟩
 ·rw [ht]
  show _=V.sl false l.length (fmC (doF (czF l) W H s))
  rw [Qhf]
 ·rw [ht]
  show _=some (B.blk [cgL (doC (czF l) W H s)] false)
  rw [Qhg]
  exact Q44 (i:=j) hl (fun k hk=>by rw [hv] at hk;exact of_decide_eq_true hk) hq
theorem RI.more {W H:Nat} {l:List Fm} {ss:List Sp} {G0 G X:List B} {o i:Nat} {s:Sp} {mk:List Bool} {tm:List V} {n j q:Nat} (hi:0<i) (c:Cl G) (hl0:G0.length≤G.length) (hs:ss[i]?=some s) (hn:n=G0.length) (hX:hasc G.length X) (hq:q<G.length) (hv:tg (Q0m mk tm) j=.ms 1 q (i+1) 0 (i+1) false):RI W H l ss G0 o (i+1) (.sl false l.length (fmC (doF (rnF W H (czF l) (ss.take i)) W H s))) (.ms 1 q (i+1) 0 (i+1) false) (norm mk n ⟨tm,bset (G++X) q (.blk (lgC (rnC W H (czF l) (ss.take i))++[cgL (doC (rnF W H (czF l) (ss.take i)) W H s)]) false)⟩).h:=by
 subst hn
 have ht:ss.take (i+1)=ss.take i++[s]:=by
  rw [List.take_add_one,hs]
  rfl
 have hlX:(G++X).length=G.length+X.length:=jD
 have hc:Cl (bset (G++X) q (.blk (lgC (rnC W H (czF l) (ss.take i))++[cgL (doC (rnF W H (czF l) (ss.take i)) W H s)]) false)):=(Q27 c hX).set (by
  show (false||blos _ _)=true
  rw [Bool.false_or,← Q7e]
  exact Qh1)
 have hl:G0.length≤(⟨tm,bset (G++X) q (.blk (lgC (rnC W H (czF l) (ss.take i))++[cgL (doC (rnF W H (czF l) (ss.take i)) W H s)]) false)⟩:St).h.length:=by
  show _≤(bset _ _ _).length
  rw [Q03,hlX];omega
 refine .inr ⟨Nat.succ_pos _,by rw [ht,rnF_snoc],q,rfl,?_,Q45 hl hc,Q2c hl⟩
 rw [ht,rnC_snoc,Q7e]
 exact Q44 (i:=j) hl (fun k hk=>by rw [hv] at hk;exact of_decide_eq_true hk) (Q0b (by rw [hlX];omega))
theorem run_ok {c d:Bool} {l:List Fm} {ss:List Sp} {W H:Nat} (o:FOk l W H) (hs20:ss.length≤20) (p:∀ s∈ss,SOk s l.length W H) (he:(csE l ss).2=0):Fun FB md 7 [.sl c l.length (fmC l),.sl d ss.length (spC ss)] (.tup [.sl false l.length (fmC (rnF W H (czF l) ss)),lgL (rnC W H (czF l) ss),.int .i64 0]):=by
 have hcp:∀ {K:V→List B→Prop},(∀ G,Cl G→FH ([]:List B).length G.length l (pxL l) (([]:List B).length+1) (fun j=>([]:List B).length+2+j) G→K (.ms 3 (([]:List B).length+1) (l.length*3) 0 l.length false) G)→CallP FB md 0 (.fn 28 []) [.sl c l.length (fmC l)] [] K:=fun h=>Q6m o rfl fun G c1 _ _ c4=>h G c1 c4
 have k1:=Q4b (c:=c) (d:=d) (l:=l) (ss:=ss)
 rw [he] at k1
 generalize (csE l ss).1=z1 at *
 have hn0:=o.n0
 have hn12:=o.n12
 refine Q04 rfl rfl ?_
 repeat' ((conv=>whnf);first|refine Br.f ?_|refine zC k1 ?_|refine Get.mk _ rfl ?_)
 all_goals try (exfalso;omega)
 (refine hcp ?_;intro G0 c1 c4;clear hcp)
 clear k1
 repeat' ((conv=>whnf);first|refine fLen.mk ?_|refine fB.i0 ?_)
 all_goals try (exfalso;omega)
 refine LoopP.by (fun a:RS=>a.i≤ss.length∧RI W H l ss G0 1 a.i a.fv a.lv a.G) (fun a=>[(4,a.fv),(5,a.lv),(24,.int .i64 (a.i:Nat))]) (fun a=>a.G) (fun a=>ss.length-a.i) ⟨0,_,_,G0⟩ ⟨Nat.zero_le _,.inl ⟨rfl,rfl,rfl,rfl⟩⟩ rfl ?_
 rintro ⟨i,fv,lv,G⟩ ⟨w1,w2⟩
 dsimp only at w1 w2 ⊢
 by_cases hi:i<ss.length
 rotate_left
 ·obtain rfl:i=ss.length:=by omega
  rcases w2 with ⟨h0,rfl,rfl,rfl⟩|⟨h0,rfl,q,rfl,hq,_,_⟩
  ·have hss:ss=[]:=List.eq_nil_of_length_eq_zero h0
   subst hss
   have hF:=VwF.vw (c4.cz (d:=60))
   repeat' ((conv=>whnf);first|refine Br.f ?_|refine fLen.mk ?_|refine fB.i0 ?_|refine fB.mk ?_|exact hF|refine Get.mk _ rfl ?_|refine Leaves.of ?_|refine Vw.int ?_|refine Vw.nil|refine Vw.tup ?_|refine VwL.cons ?_ ?_|refine VwL.nil)
   all_goals first|rfl|exact Vw.nil|(exfalso;omega)
  ·rw [List.take_length] at *
   have hA:lgL (rnC W H (czF l) ss)=.sl false ss.length (lgC (rnC W H (czF l) ss)):=by
    unfold lgL
    have:rnC W H (czF l) ss≠[]:=fun e=>by
     have:=Q2j (W:=W) (H:=H) (ss:=ss) (l:=czF l)
     rw [e] at this
     simp at this
     omega
    rw [decide_eq_false this,Q2j]
   rw [hA]
   have hL:Vw G (61+1+1) (.ms 1 q ss.length 0 ss.length false) (.sl false ss.length (lgC (rnC W H (czF l) ss))):=Vw.ms hq (by rw [Q2t,Q2j]) (Q0y (by rw [Q2t,Q2j,Nat.mul_one])) Qm2
   repeat' ((conv=>whnf);first|refine zF ?_|refine fLen.mk ?_|refine fB.i0 ?_|refine fB.mk ?_|exact hL|refine Get.mk _ rfl ?_|refine Leaves.of ?_|refine Vw.int ?_|refine Vw.sl|refine Vw.tup ?_|refine VwL.cons ?_ ?_|refine VwL.nil)
   all_goals first|rfl|exact Vw.nil|(exfalso;omega)
 obtain ⟨s,hs⟩:∃ s,ss[i]?=some s:=⟨_,jC hi⟩
 have hp:=Q5c hs
 have ps:=p s (jE hs)
 have hiw:IntKind.i64.wrap ((i:Int)+1)=((i+1:Nat):Int):=by rw [wrap_i64 (by omega) (by omega)];omega
 have hil:i≤ss.length-1:=by omega
 have h0l:0<ss.length:=by omega
 rcases w2 with ⟨h0,rfl,rfl,rfl⟩|⟨h0,rfl,q,rfl,hq,hcl,hgl⟩
 ·subst h0
  have kd:=Qq3 (c:=false) (l:=czF l) (Q4v o) (by rw [Q0u];exact ps)
  rw [Q0u,Q2z,Q0u,Qhf,Qhg] at kd
  have hvw:∀ X:List B,Q1o (G++X) depth [.ms 3 1 (l.length*3) 0 l.length false,.agg (spV s)]=some [.sl false l.length (fmC (czF l)),.agg (spV s)]:=fun X=>(VwL.cons (VwF.vw ((c4.app (g:=X)).cz (d:=61))) (VwL.cons (Qgh (d:=62)) VwL.nil)).1
  have hvw0:Q1o G depth [.ms 3 1 (l.length*3) 0 l.length false,.agg (spV s)]=some [.sl false l.length (fmC (czF l)),.agg (spV s)]:=(VwL.cons (VwF.vw (c4.cz (d:=61))) (VwL.cons (Qgh (d:=62)) VwL.nil)).1
  repeat' ((conv=>whnf);first|refine Bnd.eq hiw ?_|refine zT ?_|refine fLen.mk ?_|refine fB.i0 ?_|refine fB.i1 ?_|refine Get.mk _ hp ?_|refine Idx.nat hil ?_|refine Req.mk h0l ?_|refine Q17 rfl (hvw _) kd ?_|refine Req.mk (bget_new (i:=1)) ?_|refine Get.newj 0 rfl rfl ?_|refine Get.newj 1 rfl rfl ?_|refine fB.newj 0 rfl ?_|refine fB.newj 1 rfl ?_|refine fB.mk ?_|refine zZ ?_|refine Get.mk _ rfl ?_|refine zR ?_)
  all_goals try (exfalso;omega)
  rw [jO]
  exact NextP.of (fun h=>⟨1,_,_,h⟩) ⟨hi,RI.first (j:=5) c1 hs rfl ⟨rfl,rfl,rfl,trivial⟩ (by rw [jD];exact bget_new (i:=2)) rfl⟩ (by dsimp only;omega) rfl
 ·have kd:=Qq3 (c:=false) (Q6u (ss:=ss.take i) (Q4v o)) (by rw [Q2u,Q0u];exact ps)
  rw [Q2u,Q0u,Q2z,Q2u,Q0u] at kd
  have hll:(lgC (rnC W H (czF l) (ss.take i))).length=i:=by rw [Q2t,Q2j,jQ];omega
  have hsz:∀ a:V,0+i*1=i∧((lgC (rnC W H (czF l) (ss.take i))).length+[a].length)*(24+1)<big:=fun a=>⟨by omega,by rw [hll];unfold big;simp;omega⟩
  have hq':=Q05 hq
  repeat' ((conv=>whnf);first|refine Bnd.eq hiw ?_|refine zT ?_|refine fLen.mk ?_|refine fB.i0 ?_|refine fB.i1 ?_|refine Get.mk _ hp ?_|refine Idx.nat hil ?_|refine Req.mk h0l ?_|refine Q17 rfl rfl kd ?_|refine Get.mk _ (Q01 (Q01 hq)) ?_|refine Req.mk hll ?_|refine Req.mk (hsz _) ?_|refine Get.newj 0 rfl rfl ?_|refine fB.newj 0 rfl ?_|refine fB.mk ?_|refine zZ ?_|refine Get.mk _ rfl ?_|refine zR ?_)
  all_goals try (exfalso;omega)
  rw [jO]
  exact NextP.of (fun h=>⟨i+1,_,_,h⟩) ⟨hi,RI.more (j:=5) h0 hcl hgl hs rfl ⟨rfl,rfl,rfl,trivial⟩ hq' rfl⟩ (by dsimp only;omega) rfl
end Go.Dr.T
namespace Go.Dr.T
theorem CallP.tab {F H:Nat→Option Fc} {md:Nat→Nat} (hFG:Sub' F H) {ro:Nat} {fv:V} {as:List V} {hh:List B} {K:V→List B→Prop} (h:CallP F md ro fv as hh K):CallP H md ro fv as hh K:=by
 obtain ⟨v,h',⟨n,e⟩,hk⟩:=h
 exact ⟨v,h',⟨n,fun m hm=>Q6k hFG (Q7u hFG m) ro _ _ _ _ (e m hm)⟩,hk⟩
theorem Qq0 {id g off n:Nat} {clip:Bool}:eqv2 3 (.ms 3 id g off n clip) .nilsl=some false:=rfl
theorem Qqi {H:List B} {fid:Nat} {l:List Fm} {K:V→List B→Prop} (h0:0<l.length) (h12:l.length≤12) (hb:bget H fid=some (.blk (fmC l) false)) (hk:K (.ms 3 (H.length+1) (l.length*3) 0 l.length false) (H++[.unborn,.blk (fmC l) false])):CallP FB md 0 (.fn 61 []) [.ms 3 fid (l.length*3) 0 l.length false] H K:=by
 have h0':l.length≠0:=by omega
 have hbig:(([]:List V).length+(fmC l).length)*(40+1)<big:=Qh0 (by rw [Q0e];omega)
 have e1:([]:List V).length+(fmC l).length=l.length*3:=by rw [Q0e];simp
 have e2:0+l.length=l.length:=Nat.zero_add _
 have hpt:part (fmC l) 0 (l.length*3)=some (fmC l):=Q0y (Q0e _)
 refine Q16 rfl rfl rfl ?_
 repeat' ((conv=>whnf);first|refine Br.f ?_|refine Get.mk _ (Qq0) ?_|refine Get.mk _ (Q01 hb) ?_|refine Get.mk _ hpt ?_|refine fLen.mk ?_|refine fB.i2 ?_|refine fB.i0 ?_|refine Req.mk ⟨rfl,bget_new (i:=1)⟩ ?_|refine Req.mk (Q0e _) ?_|refine Ifz.pos h0' ?_|refine Req.mk hbig ?_|refine Get.newj 1 rfl rfl ?_|refine fB.newj 1 rfl ?_|refine fB.mk ?_|refine Get.mk _ rfl ?_|refine Ends.of ?_|refine zR ?_)
 all_goals try (exfalso;omega)
 rw [e1,e2,Qah (k:=1) rfl (by simp [V.blo])]
 exact hk
theorem Q8y {H:List B} {fid:Nat} {l:List Fm} {W Hh:Nat} {K:V→List B→Prop} (o:FOk l W Hh) (hc:Cl H) (hb:bget H fid=some (.blk (fmC l) false)) (hk:∀ G,Cl G→(∀ m b,bget H m=some b→bget G m=some b)→G.length=H.length+2+l.length→FH H.length G.length l (pxL l) (H.length+1) (fun j=>H.length+2+j) G→K (.ms 3 (H.length+1) (l.length*3) 0 l.length false) G):CallP FB md 0 (.fn 28 []) [.ms 3 fid (l.length*3) 0 l.length false] H K:=by
 have hn0:=o.n0
 have hn12:=o.n12
 have hnn:=o.nn
 have h91:∀ {K:V→List B→Prop},K (.ms 3 (H.length+1) (l.length*3) 0 l.length false) (H++[.unborn,.blk (fmC l) false])→CallP FB md 0 (.fn 61 []) [.ms 3 fid (l.length*3) 0 l.length false] H K:=fun h=>Qqi hn0 hn12 hb h
 refine Q16 rfl rfl rfl ?_
 repeat' ((conv=>whnf);first|refine fLen.mk ?_|refine fB.i0 ?_|refine h91 ?_)
 all_goals try (exfalso;omega)
 refine LoopP.by (fun a:GA=>a.i≤l.length∧CK H l a.i a.G) (fun a=>[(8,.int .i64 (a.i:Nat))]) (fun a=>a.G) (fun a=>l.length-a.i) ⟨0,_⟩ ⟨Nat.zero_le _,CK.start hc⟩ rfl ?_
 rintro ⟨i,G⟩ ⟨w1,w2⟩
 dsimp only at w1 w2 ⊢
 by_cases hi:i<l.length
 ·obtain ⟨f,hf,_,_,hfp⟩:=o.at hi
  obtain ⟨_,_,a2⟩:=Qf1 (g:=fun j f=>if j<i then piV (fun j=>H.length+2+j) j f else .sl f.c f.p.length (ofBytes f.p)) (k:=0) hf
  rw [Nat.zero_add,if_neg (Nat.lt_irrefl i)] at a2
  have a2':Q0h (fmG (fun j f=>if j<i then piV (fun j=>H.length+2+j) j f else .sl f.c f.p.length (ofBytes f.p)) 0 l) (0+i*3+2)=some (.sl f.c f.p.length (ofBytes f.p)):=by rw [Nat.zero_add];exact a2
  have hout:=w2.out
  have hout':=Q01 (g:=[.blk (ofBytes f.p) true]) hout
  have h92:∀ {K:V→List B→Prop},K (.ms 1 G.length f.p.length 0 f.p.length false) (G++[.blk (ofBytes f.p) true])→CallP FB md 0 (.fn 62 []) [.sl f.c f.p.length (ofBytes f.p)] G K:=fun h=>Qnp (by omega) (by omega) h
  have hiw:IntKind.i64.wrap ((i:Int)+1)=((i+1:Nat):Int):=by rw [wrap_i64 (by omega) (by omega)];omega
  have hil:i≤l.length-1:=by omega
  have hgl:=Q1p (g:=fun j f=>if j<i then piV (fun j=>H.length+2+j) j f else .sl f.c f.p.length (ofBytes f.p)) (k:=0) (l:=l)
  have hst:(fmG (fun j f=>if j<i then piV (fun j=>H.length+2+j) j f else .sl f.c f.p.length (ofBytes f.p)) 0 l).length=l.length*3∧0+i*3+2+1≤(fmG (fun j f=>if j<i then piV (fun j=>H.length+2+j) j f else .sl f.c f.p.length (ofBytes f.p)) 0 l).length:=⟨hgl,by rw [hgl];omega⟩
  have cn:=w2.next hf
  repeat' ((conv=>whnf);first|refine Bnd.eq hiw ?_|refine zT ?_|refine fLen.mk ?_|refine fB.i0 ?_|refine h92 ?_|refine Get.mk _ hout ?_|refine Get.mk _ hout' ?_|refine Get.mk _ a2' ?_|refine Req.mk hgl ?_|refine Req.mk hst ?_|refine Idx.nat hil ?_|refine Req.mk hn0 ?_|refine fB.mk ?_|refine fV.mk ?_|refine zR ?_)
  all_goals try (exfalso;omega)
  ·exact NextP.mk ⟨i+1,_⟩ ⟨hi,cn⟩ (by dsimp only;omega) (cn.norm hi (by rw [jD];rfl))
 obtain rfl:i=l.length:=by omega
 have hl:=w2.len
 have ht:trunc H.length [.ms 3 (H.length+1) (l.length*3) 0 l.length false] G=G:=by
  obtain ⟨i,hi⟩:∃ i,l.length=i+1:=⟨l.length-1,by omega⟩
  refine Q7n (r:=H.length+2+i) (o:=H.length+1) (by omega) (by omega) w2.cl (fun k hk=>of_decide_eq_true hk) w2.out fun k hk=>?_
  have hk:blos k _=true:=hk
  have h2:=Qba (i:=i) hk (jC (by omega))
  rw [Nat.zero_add,if_pos (by omega)] at h2
  exact of_decide_eq_true h2
 repeat' ((conv=>whnf);first|refine zF ?_|refine fLen.mk ?_|refine fB.i0 ?_|refine fB.mk ?_|refine Get.mk _ rfl ?_|refine Ends.of ?_)
 all_goals try (exfalso;omega)
 rw [ht]
 exact hk G w2.cl w2.old hl w2.fin
theorem Q6z {h:List B} {d:Nat}:∀ l:List Fm,VwL h (d+1) (fmC l) (fmC l)
 | []=>VwL.nil
 | _::l=>VwL.cons (Vw.int rfl) (VwL.cons (Vw.int rfl) (VwL.cons Vw.sl (Q6z l)))
def RJ (W H:Nat) (l:List Fm) (ss:List Sp) (G0:List B) (o i:Nat) (fv lv:V) (G:List B):Prop :=
 (i=0∧fv=.ms 3 o (l.length*3) 0 l.length false∧lv=.nilsl∧G=G0) ∨
 (0<i∧fv=.sl false l.length (fmC (rnF W H (czF l) (ss.take i)))∧∃ q,G0.length≤q∧lv=.ms 1 q i 0 i false∧bget G q=some (.blk (lgC (rnC W H (czF l) (ss.take i))) false)∧Cl G∧G0.length≤G.length∧∀ m b,m<G0.length→bget G0 m=some b→bget G m=some b)
theorem Q5i {mk:List Bool} {tm:List V} {n m:Nat} {G:List B} {b:B} (hn:n≤G.length) (c:Cl G) (hm:m<n) (hb:bget G m=some b):bget (norm mk n ⟨tm,G⟩).h m=some b:=by
 obtain ⟨k,h1,h2,_,_⟩:=Q4k (mk:=mk) (tm:=tm) hn c
 rw [h2]
 show bget (G.take k) m=_
 rw [Q09 (by omega)]
 exact hb
theorem RJ.first {W H:Nat} {l:List Fm} {ss:List Sp} {G0 X:List B} {o:Nat} {s:Sp} {mk:List Bool} {tm:List V} {n j q:Nat} (c:Cl G0) (hs:ss[0]?=some s) (hn:n=G0.length) (hq0:G0.length≤q) (hX:hasc G0.length X) (hq:bget (G0++X) q=some (.blk [cgL (doC l W H s)] false)) (hv:tg (Q0m mk tm) j=.ms 1 q 1 0 1 false):RJ W H l ss G0 o 1 (.sl false l.length (fmC (doF l W H s))) (.ms 1 q 1 0 1 false) (norm mk n ⟨tm,G0++X⟩).h:=by
 subst hn
 have ht:ss.take 1=[s]:=by
  cases ss with
  | nil=>cases hs
  | cons t ss=>simp only [List.getElem?_cons_zero,jA] at hs;subst hs;rfl
 have hl:G0.length≤(⟨tm,G0++X⟩:St).h.length:=by show _≤(G0++X).length;rw [jD];omega
 refine .inr ⟨Nat.one_pos,?_,q,hq0,rfl,?_,Q45 hl (Q27 c hX),Q2c hl,fun m b hm hb=>Q5i hl (Q27 c hX) hm (Q01 hb)⟩
 ·rw [ht]
  show _=V.sl false l.length (fmC (doF (czF l) W H s))
  rw [Qhf]
 ·rw [ht]
  show _=some (B.blk [cgL (doC (czF l) W H s)] false)
  rw [Qhg]
  exact Q44 (i:=j) hl (fun k hk=>by rw [hv] at hk;exact of_decide_eq_true hk) hq
theorem RJ.more {W H:Nat} {l:List Fm} {ss:List Sp} {G0 G X:List B} {o i:Nat} {s:Sp} {mk:List Bool} {tm:List V} {n j q:Nat} (hi:0<i) (c:Cl G) (hl0:G0.length≤G.length) (hlow:∀ m b,m<G0.length→bget G0 m=some b→bget G m=some b) (hs:ss[i]?=some s) (hn:n=G0.length) (hq0:G0.length≤q) (hX:hasc G.length X) (hq:q<G.length) (hv:tg (Q0m mk tm) j=.ms 1 q (i+1) 0 (i+1) false):RJ W H l ss G0 o (i+1) (.sl false l.length (fmC (doF (rnF W H (czF l) (ss.take i)) W H s))) (.ms 1 q (i+1) 0 (i+1) false) (norm mk n ⟨tm,bset (G++X) q (.blk (lgC (rnC W H (czF l) (ss.take i))++[cgL (doC (rnF W H (czF l) (ss.take i)) W H s)]) false)⟩).h:=by
 subst hn
 have ht:ss.take (i+1)=ss.take i++[s]:=by
  rw [List.take_add_one,hs]
  rfl
 have hlX:(G++X).length=G.length+X.length:=jD
 have hc:Cl (bset (G++X) q (.blk (lgC (rnC W H (czF l) (ss.take i))++[cgL (doC (rnF W H (czF l) (ss.take i)) W H s)]) false)):=(Q27 c hX).set (by
  show (false||blos _ _)=true
  rw [Bool.false_or,← Q7e]
  exact Qh1)
 have hl:G0.length≤(⟨tm,bset (G++X) q (.blk (lgC (rnC W H (czF l) (ss.take i))++[cgL (doC (rnF W H (czF l) (ss.take i)) W H s)]) false)⟩:St).h.length:=by
  show _≤(bset _ _ _).length
  rw [Q03,hlX];omega
 refine .inr ⟨Nat.succ_pos _,by rw [ht,rnF_snoc],q,hq0,rfl,?_,Q45 hl hc,Q2c hl,fun m b hm hb=>Q5i hl hc hm (by rw [Q02 (by omega)];exact Q01 (hlow m b hm hb))⟩
 rw [ht,rnC_snoc,Q7e]
 exact Q44 (i:=j) hl (fun k hk=>by rw [hv] at hk;exact of_decide_eq_true hk) (Q0b (by rw [hlX];omega))
end Go.Dr.T
