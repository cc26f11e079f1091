/- Chapter 08: the reference's copy of a film. -/
import Derived.Test.YthihdpbgmhnloaaGreatDoorG9
namespace Go.Dr.T
theorem fB.i3 {h g:List B} {K:List B→Prop} (hk:fB g fun r=>K (h++r)):fB (if 3=0 then h else h++g) K:=by rw [if_neg (by decide)];exact fB.tail hk
structure CP (H:List B) (l:List Fm) (i:Nat) (P:Nat→Nat) (v:V) (G:List B):Prop where
 cl:Cl G
 le:H.length≤G.length
 zero:i=0→G=H∧v = .nilsl
 pos:0<i→v = .ms 3 (H.length+2) (i * 3) 0 i false∧bget G (H.length+2)=some (.blk (fmG (piV P) 0 (l.take i)) false)
 pic:∀ j f,j<i→l[j]?=some f→H.length≤P j∧P j≠H.length+2∧bget G (P j)=some (.blk (ofBytes f.p) true)
 inj:∀ j k,j<i→k<i→P j=P k→j=k
 old:∀ m b,bget H m=some b→bget G m=some b
theorem CP.take {H:List B} {l:List Fm} {i:Nat} {P:Nat→Nat} {v:V} {G:List B} (c:CP H l i P v G) (h0:0<i) (hi:i≤l.length) {k:Nat} (hk:H.length+2<k) (ck:Cl (G.take k)):CP H l i P v (G.take k):=by
 have ho:=(c.pos h0).2
 have hlt:=bget_lt ho
 have ho' : bget (G.take k) (H.length+2)=some (.blk (fmG (piV P) 0 (l.take i)) false):=by rw [bget_take hk];exact ho
 have hb:blos _ _=true:=blo_of_hbelow ck (mem_bget ho')
 refine ⟨ck,by rw [List.length_take];omega,fun e=>absurd e (by omega),fun _=>⟨(c.pos h0).1,ho'⟩,fun j f hj hf => ?_,c.inj,fun m b h => ?_⟩
 ·obtain ⟨h1,h2,h3⟩:=c.pic j f hj hf
  have hjt:(l.take i)[j]?=some f:=by rw [List.getElem?_take,if_pos hj];exact hf
  have h4:=fmG_mem (i:=j) hb hjt
  rw [Nat.zero_add] at h4
  have h5:P j<(G.take k).length:=of_decide_eq_true h4
  rw [List.length_take] at h5
  exact ⟨h1,h2,by rw [bget_take (by omega)];exact h3⟩
 ·have:=bget_lt h
  rw [bget_take (by omega)]
  exact c.old m b h
theorem CP.norm {H:List B} {l:List Fm} {i:Nat} {P:Nat→Nat} {v:V} {G:List B} {mk:List Bool} {tm:List V} {n:Nat} (c:CP H l i P v G) (h0:0<i) (hi:i≤l.length) (hn:n=H.length) (hv:tg (masked mk tm) 3=v):CP H l i P v (norm mk n ⟨tm,G⟩).h:=by
 subst hn
 obtain ⟨k,h1,h2,h3,h4⟩:=norm_cut (mk:=mk) (tm:=tm) c.le c.cl
 rw [h2]
 obtain ⟨hp,ho⟩:=c.pos h0
 have hlt:=bget_lt ho
 refine c.take h0 hi ?_ h3
 rcases h4 with h4 | h4
 ·omega
 ·have:=blos_tg (i:=3) h4
  rw [hv,hp] at this
  exact of_decide_eq_true this
theorem CP.next0 {H:List B} {l:List Fm} {P:Nat→Nat} {v:V} {G:List B} {f:Fm} {cs:List V} (c:CP H l 0 P v G) (hf:l[0]?=some f) (hcs:blos (G.length+1) cs=true):CP H l 1 (fun _=>G.length) (.ms 3 (H.length+2) (1 * 3) 0 1 false) (G++[.blk (ofBytes f.p) true,.blk cs false,.blk [.int .i64 f.w,.int .i64 f.h,.ms 1 G.length f.p.length 0 f.p.length false] false]):=by
 obtain ⟨rfl,_⟩:=c.zero rfl
 have ht:l.take 1=[f]:=by
  cases l with
  | nil=>cases hf
  | cons g l=>simp only [List.getElem?_cons_zero,Option.some.injEq] at hf;subst hf;rfl
 refine ⟨cl_asc c.cl ⟨rfl,hcs,?_,trivial⟩,by rw [List.length_append];omega,fun e=>absurd e (by omega),fun _=>⟨rfl,?_⟩,fun j u hj hu => ?_,fun j k _ _ _=>by omega,fun m b h=>bget_app h⟩
 ·show (false || (true && (true && (decide (G.length<G.length+1+1) && true))))=true
  rw [decide_eq_true (by omega)]
  rfl
 ·rw [ht]
  exact bget_new (i:=2)
 ·obtain rfl:j=0:=by omega
  rw [hf] at hu
  cases hu
  exact ⟨Nat.le_refl _,by omega,bget_new (i:=0)⟩
theorem CP.nextS {H:List B} {l:List Fm} {i:Nat} {P:Nat→Nat} {v:V} {G:List B} {f:Fm} {cs:List V} (c:CP H l (i+1) P v G) (hf:l[i+1]?=some f) (hcs:blos (G.length+1) cs=true):CP H l (i+2) (fun j=>if j=i+1 then G.length else P j) (.ms 3 (H.length+2) ((i+2) * 3) 0 (i+2) false) (bset (G++[.blk (ofBytes f.p) true,.blk cs false,.unborn]) (H.length+2) (.blk (fmG (piV P) 0 (l.take (i+1))++[.int .i64 f.w,.int .i64 f.h,.ms 1 G.length f.p.length 0 f.p.length false]) false)):=by
 obtain ⟨hp,ho⟩:=c.pos (Nat.succ_pos _)
 have hlt:=bget_lt ho
 have hi:=(List.getElem?_eq_some_iff.1 hf).1
 have hlen:(G++[B.blk (ofBytes f.p) true,.blk cs false,.unborn]).length=G.length+3:=by rw [List.length_append];rfl
 have e:fmG (piV P) 0 (l.take (i+1))++[.int .i64 f.w,.int .i64 f.h,.ms 1 G.length f.p.length 0 f.p.length false]=fmG (piV (fun j=>if j=i+1 then G.length else P j)) 0 (l.take (i+2)):=by
  have ht:l.take (i+2)=l.take (i+1)++[f]:=by
   rw [List.take_add_one,hf]
   rfl
  rw [ht,fmG_snoc,List.length_take,Nat.min_eq_left (by omega)]
  congr 1
  ·exact fmG_ext fun j u hu=>by
    have:=(List.getElem?_eq_some_iff.1 hu).1
    rw [List.length_take] at this
    unfold piV
    dsimp only
    rw [if_neg (by omega)]
  ·unfold piV
   dsimp only
   rw [if_pos (by omega)]
 rw [e]
 have hcl:Cl (G++[B.blk (ofBytes f.p) true,.blk cs false,.unborn]):=cl_asc c.cl ⟨rfl,hcs,rfl,trivial⟩
 refine ⟨hcl.set ?_,by rw [bset_len,hlen];have:=c.le;omega,fun e=>absurd e (by omega),fun _=>⟨rfl,bget_same (by rw [hlen];omega)⟩,fun j u hj hu => ?_,fun j k hj hk hjk => ?_,fun m b h => ?_⟩
 ·rw [hlen]
  show (false || blos _ _)=true
  rw [Bool.false_or]
  refine fmG_blos fun j u hu => ?_
  refine decide_eq_true ?_
  rw [Nat.zero_add]
  have:=(List.getElem?_eq_some_iff.1 hu).1
  rw [List.length_take] at this
  dsimp only
  by_cases ej:j=i+1
  ·rw [if_pos ej];omega
  ·rw [if_neg ej]
   rw [List.getElem?_take,if_pos (by omega)] at hu
   have:=bget_lt (c.pic j u (by omega) hu).2.2
   omega
 ·by_cases ej:j=i+1
  ·subst ej
   rw [hf] at hu
   cases hu
   rw [if_pos rfl,bset_other (by omega)]
   exact ⟨c.le,by omega,bget_new (i:=0)⟩
  ·obtain ⟨h1,h2,h3⟩:=c.pic j u (by omega) hu
   rw [if_neg ej,bset_other (Ne.symm h2)]
   exact ⟨h1,h2,bget_app h3⟩
 ·have hpl:∀ k,k<i+1→P k<G.length:=fun k hk=>by
   have:=List.getElem?_eq_getElem (l:=l) (i:=k) (by omega)
   exact bget_lt (c.pic k _ hk this).2.2
  have hjk:(if j=i+1 then G.length else P j)=(if k=i+1 then G.length else P k):=hjk
  by_cases ej:j=i+1
  ·by_cases ek:k=i+1
   ·omega
   ·rw [if_pos ej,if_neg ek] at hjk
    have:=hpl k (by omega)
    omega
  ·by_cases ek:k=i+1
   ·rw [if_neg ej,if_pos ek] at hjk
    have:=hpl j (by omega)
    omega
   ·rw [if_neg ej,if_neg ek] at hjk
    exact c.inj j k (by omega) (by omega) hjk
 ·have:=bget_lt h
  have hHl:=c.le
  rw [bset_other (by omega)]
  exact bget_app (c.old m b h)
theorem CP.fin {H:List B} {l:List Fm} {P:Nat→Nat} {v:V} {G:List B} (c:CP H l l.length P v G) (h0:0<l.length):FH H.length G.length l (pxL l) (H.length+2) P G:=by
 obtain ⟨_,ho⟩:=c.pos h0
 rw [List.take_length] at ho
 refine ⟨⟨by omega,bget_lt ho⟩,fun j hj => ?_,c.inj,ho,fun j hj => ?_,fun j f hf=>by rw [pxL_at hf]⟩
 ·obtain ⟨h1,h2,h3⟩:=c.pic j _ hj (List.getElem?_eq_getElem hj)
  exact ⟨h1,bget_lt h3,h2⟩
 ·have hf:=List.getElem?_eq_getElem hj
  rw [pxL_at hf]
  exact (c.pic j _ hj hf).2.2
structure GP where
 i:Nat
 P:Nat→Nat
 v:V
 G:List B
set_option maxRecDepth 100000 in
set_option maxHeartbeats 20000000 in
theorem copy_call {H:List B} {c:Bool} {l:List Fm} {W Hh:Nat} {K:V→List B→Prop} (o:FOk l W Hh) (hc:Cl H) (hk:∀ G P,Cl G→(∀ m b,bget H m=some b→bget G m=some b)→H.length≤G.length→FH H.length G.length l (pxL l) (H.length+2) P G→K (.ms 3 (H.length+2) (l.length * 3) 0 l.length false) G):CallP FB md 0 (.fn 49 []) [.sl c l.length (fmC l)] H K:=by
 have hn0:=o.n0
 have hn12:=o.n12
 have hnn:=o.nn
 refine call_one rfl rfl rfl ?_
 repeat' (first
 | (conv=>whnf)
   first
   | refine fLen.mk ?_
   | refine fB.i0 ?_)
 all_goals try (exfalso;omega;done)
 refine LoopP.by (fun a:GP=>a.i≤l.length∧CP H l a.i a.P a.v a.G) (fun a=>[(3,a.v),(4,.int .i64 (a.i:Nat))]) (fun a=>a.G) (fun a=>l.length - a.i) ⟨0,fun _=>0,.nilsl,H⟩ ⟨Nat.zero_le _,⟨hc,Nat.le_refl _,fun _=>⟨rfl,rfl⟩,fun e=>absurd e (Nat.lt_irrefl _),fun j f hj=>absurd hj (Nat.not_lt_zero _),fun j k hj=>absurd hj (Nat.not_lt_zero _),fun _ _ h=>h⟩⟩ rfl ?_
 rintro ⟨i,P,v,G⟩ ⟨w1,w2⟩
 dsimp only at w1 w2 ⊢
 by_cases hi:i<l.length
 ·obtain ⟨f,hf,_,_,hfp⟩:=o.at hi
  obtain ⟨a0,a1,a2⟩:=fm_c hf
  have hiw:IntKind.i64.wrap ((i:Int)+1)=((i+1:Nat):Int):=by rw [wrap_i64 (by omega) (by omega)];omega
  have hil:i≤l.length - 1:=by omega
  have h0' : f.p.length≠0:=by omega
  have hpl:=ofBytes_length f.p
  have hbig:(([]:List V).length+(ofBytes f.p).length) * (1+1)<big:=lt_big2 (by omega)
  have hl1:(ofBytes f.p).length=f.p.length * 1:=by omega
  have hsc:=scalars_ofBytes f.p
  have e1:([]:List V).length+(ofBytes f.p).length=f.p.length:=by rw [hpl];simp
  have e2:0+f.p.length=f.p.length:=Nat.zero_add _
  have hp3:∀ a b c:V,part [a,b,c] 0 (1 * 3)=some [a,b,c]:=fun _ _ _=>rfl
  cases i with
  | zero =>
   obtain ⟨hGH,rfl⟩:=w2.zero rfl
   subst hGH
   have cn:=w2.next0 hf (cs:=[.int .i64 f.w,.int .i64 f.h,.ms 1 G.length f.p.length 0 f.p.length false]) (by simp [blos,V.blo])
   repeat' (first
 | (conv=>whnf)
   first
   | refine Bnd.eq hiw ?_
   | (refine Br.decT ?_ ?_;(focus first | assumption | omega))
   | refine fLen.mk ?_
   | refine fB.i0 ?_
   | refine fB.i3 ?_
   | refine Get.mk _ a0 ?_
   | refine Get.mk _ a1 ?_
   | refine Get.mk _ a2 ?_
   | refine Get.mk _ (hp3 _ _ _) ?_
   | refine Idx.nat hil ?_
   | refine Req.mk hn0 ?_
   | refine Req.mk ⟨rfl,bget_new (i:=0)⟩ ?_
   | refine Req.mk (bget_new (i:=2)) ?_
   | refine Req.mk hl1 ?_
   | refine Req.mk (fun _=>hsc) ?_
   | refine Ifz.pos h0' ?_
   | refine Req.mk hbig ?_
   | refine Get.newj 0 rfl rfl ?_
   | refine Get.newj 1 rfl rfl ?_
   | refine Get.newj 2 rfl rfl ?_
   | refine fB.newj 0 rfl ?_
   | refine fB.newj 1 rfl ?_
   | refine fB.newj 2 rfl ?_
   | refine fB.mk ?_
   | (refine Ifz.pos ?_ ?_;(focus omega))
   | refine Get.mk _ rfl ?_
   | (refine Req.mk ?_ ?_;(focus first | rfl | decide | exact ⟨rfl,rfl⟩ | exact ⟨rfl,by decide⟩ | exact (fun _=>rfl) | exact (fun h=>nomatch h) | (simp;done) | omega | (simp [big];done) | exact le_big (by omega) | exact lt_big (by omega))))
   all_goals try (exfalso;omega;done)
   rw [e1,e2]
   exact NextP.of (fun g=>⟨1,fun _=>G.length,.ms 3 (G.length+2) (1 * 3) 0 1 false,g⟩) ⟨hi,cn.norm (Nat.succ_pos _) hi rfl rfl⟩ (by dsimp only;omega) rfl
  | succ i =>
   obtain ⟨rfl,ho⟩:=w2.pos (Nat.succ_pos _)
   have cn:=w2.nextS hf (cs:=[.int .i64 f.w,.int .i64 f.h,.ms 1 G.length f.p.length 0 f.p.length false]) (by simp [blos,V.blo])
   have hgl:(fmG (piV P) 0 (l.take (i+1))).length=(i+1) * 3:=by rw [fmG_length,List.length_take,Nat.min_eq_left (by omega)]
   have hsz:∀ a b c:V,0+(i+1) * 3=(i+1) * 3∧((fmG (piV P) 0 (l.take (i+1))).length+[a,b,c].length) * (40+1)<big:=fun a b c=>⟨Nat.zero_add _,by rw [hgl];unfold big;simp;omega⟩
   have e5:∀ a b c:V,(i+1) * 3+[a,b,c].length=(i+2) * 3:=fun _ _ _=>by simp;omega
   repeat' (first
 | (conv=>whnf)
   first
   | refine Bnd.eq hiw ?_
   | (refine Br.decT ?_ ?_;(focus first | assumption | omega))
   | refine fLen.mk ?_
   | refine fB.i0 ?_
   | refine fB.i3 ?_
   | refine Get.mk _ a0 ?_
   | refine Get.mk _ a1 ?_
   | refine Get.mk _ a2 ?_
   | refine Get.mk _ (hp3 _ _ _) ?_
   | refine Get.mk _ (bget_app ho) ?_
   | refine Req.mk hgl ?_
   | refine Req.mk (hsz _ _ _) ?_
   | refine Idx.nat hil ?_
   | refine Req.mk hn0 ?_
   | refine Req.mk ⟨rfl,bget_new (i:=0)⟩ ?_
   | refine Req.mk hl1 ?_
   | refine Req.mk (fun _=>hsc) ?_
   | refine Ifz.pos h0' ?_
   | refine Req.mk hbig ?_
   | refine Get.newj 0 rfl rfl ?_
   | refine Get.newj 1 rfl rfl ?_
   | refine fB.newj 0 rfl ?_
   | refine fB.newj 1 rfl ?_
   | refine fB.mk ?_
   | (refine Ifz.pos ?_ ?_;(focus omega))
   | refine Get.mk _ rfl ?_
   | (refine Req.mk ?_ ?_;(focus first | rfl | decide | exact ⟨rfl,rfl⟩ | exact ⟨rfl,by decide⟩ | exact (fun _=>rfl) | exact (fun h=>nomatch h) | (simp;done) | omega | (simp [big];done) | exact le_big (by omega) | exact lt_big (by omega))))
   all_goals try (exfalso;omega;done)
   rw [e1,e2,e5]
   exact NextP.of (fun g=>⟨i+2,fun j=>if j=i+1 then G.length else P j,.ms 3 (H.length+2) ((i+2) * 3) 0 (i+2) false,g⟩) ⟨hi,cn.norm (Nat.succ_pos _) hi rfl rfl⟩ (by dsimp only;omega) rfl
 obtain rfl:i=l.length:=by omega
 obtain ⟨hp,ho⟩:=w2.pos hn0
 subst hp
 have cf:=w2.fin hn0
 obtain ⟨k,h1,h2,h3,h4⟩:=trunc_cut (n:=H.length) (tm:=[.ms 3 (H.length+2) (l.length * 3) 0 l.length false]) w2.le w2.cl
 have hk2:H.length+2<k:=by
  rcases h4 with h4 | h4
  ·have:=bget_lt ho
   omega
  ·simp only [blos,V.blo,Bool.and_true] at h4
   exact of_decide_eq_true h4
 have ct:=w2.take hn0 (Nat.le_refl _) hk2 h3
 repeat' (first
 | (conv=>whnf)
   first
   | (refine Br.decF ?_ ?_;(focus first | assumption | omega))
   | refine fLen.mk ?_
   | refine fB.i0 ?_
   | refine fB.mk ?_
   | refine Get.mk _ rfl ?_
   | refine Ends.of ?_)
 all_goals try (exfalso;omega;done)
 rw [h2]
 exact hk _ P ct.cl ct.old ct.le (ct.fin hn0)
end Go.Dr.T
