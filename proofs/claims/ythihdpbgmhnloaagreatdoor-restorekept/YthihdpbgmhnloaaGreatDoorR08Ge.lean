/- Chapter 08: films that are cloned: the program's, and the reference's copy. -/
import Derived.Test.YthihdpbgmhnloaaGreatDoorR08Gd
namespace Go.Dr.T
theorem eqv_nil {c:Bool} {n:Nat} {cs:List V} (h:n≠0):eqv2 3 (.sl c n cs) .nilsl=some false:=by
 cases n with
 | zero=>exact absurd rfl h
 | succ n=>rfl
theorem lt_big41 {n:Nat} (h:n≤100):(([]:List V).length+n) * (40+1)<big:=by
 unfold big
 simp
 omega
theorem lt_big2 {n:Nat} (h:n≤2304):(([]:List V).length+n) * (1+1)<big:=by
 unfold big
 simp
 omega
theorem trunc_v {H g:List B} {v:V} {k:Nat} (hg:g.length=k+1) (hv:v.blo (H.length+k)=false):trunc H.length [v] (H++g)=H++g:=by
 unfold trunc
 rw [List.length_append,Nat.add_sub_cancel_left,hg]
 unfold strip
 have:blos (H.length+k) [v]=false:=by simp only [blos,hv,Bool.false_and]
 rw [this,Bool.false_and]
 rfl
set_option maxRecDepth 100000 in
set_option maxHeartbeats 20000000 in
theorem clone91 {H:List B} {c:Bool} {l:List Fm} {K:V→List B→Prop} (h0:0<l.length) (h12:l.length≤12) (hk:K (.ms 3 (H.length+1) (l.length * 3) 0 l.length false) (H++[.unborn,.blk (fmC l) false])):CallP FB md 0 (.fn 91 []) [.sl c l.length (fmC l)] H K:=by
 have h0' : l.length≠0:=by omega
 have hbig:(([]:List V).length+(fmC l).length) * (40+1)<big:=lt_big41 (by rw [fmC_length];omega)
 have e1:([]:List V).length+(fmC l).length=l.length * 3:=by rw [fmC_length];simp
 have e2:0+l.length=l.length:=Nat.zero_add _
 refine call_one rfl rfl rfl ?_
 repeat' (first
 | (conv=>whnf)
   first
   | refine Br.f ?_
   | refine Get.mk _ (eqv_nil h0') ?_
   | refine fLen.mk ?_
   | refine fB.i2 ?_
   | refine fB.i0 ?_
   | refine Req.mk ⟨rfl,bget_new (i:=1)⟩ ?_
   | refine Req.mk (fmC_length _) ?_
   | refine Ifz.pos h0' ?_
   | refine Req.mk hbig ?_
   | refine Get.newj 1 rfl rfl ?_
   | refine fB.newj 1 rfl ?_
   | refine fB.mk ?_
   | refine Get.mk _ rfl ?_
   | refine Ends.of ?_
   | (refine Req.mk ?_ ?_;(focus first | rfl | decide | exact ⟨rfl,rfl⟩ | exact ⟨rfl,by decide⟩ | exact (fun _=>rfl) | exact (fun h=>nomatch h) | (simp;done) | omega | (simp [big];done) | exact le_big (by omega) | exact lt_big (by omega))))
 all_goals try (exfalso;omega;done)
 rw [e1,e2,trunc_v (k:=1) rfl (by simp [V.blo])]
 exact hk
set_option maxRecDepth 100000 in
set_option maxHeartbeats 20000000 in
theorem clone92 {H:List B} {c:Bool} {p:List UInt8} {K:V→List B→Prop} (h0:0<p.length) (h12:p.length≤2304) (hk:K (.ms 1 H.length p.length 0 p.length false) (H++[.blk (ofBytes p) true])):CallP FB md 0 (.fn 92 []) [.sl c p.length (ofBytes p)] H K:=by
 have h0' : p.length≠0:=by omega
 have hl:=ofBytes_length p
 have hbig:(([]:List V).length+(ofBytes p).length) * (1+1)<big:=lt_big2 (by omega)
 have e1:([]:List V).length+(ofBytes p).length=p.length:=by rw [hl];simp
 have e2:0+p.length=p.length:=Nat.zero_add _
 have hl1:(ofBytes p).length=p.length * 1:=by omega
 have hsc:=scalars_ofBytes p
 refine call_one rfl rfl rfl ?_
 repeat' (first
 | (conv=>whnf)
   first
   | refine Br.f ?_
   | refine Get.mk _ (eqv_nil h0') ?_
   | refine fLen.mk ?_
   | refine fB.i1 ?_
   | refine fB.i0 ?_
   | refine Req.mk ⟨rfl,bget_new (i:=0)⟩ ?_
   | refine Req.mk hl1 ?_
   | refine Req.mk (fun _=>hsc) ?_
   | refine Ifz.pos h0' ?_
   | refine Req.mk hbig ?_
   | refine Get.newj 0 rfl rfl ?_
   | refine fB.newj 0 rfl ?_
   | refine fB.mk ?_
   | refine Get.mk _ rfl ?_
   | refine Ends.of ?_
   | (refine Req.mk ?_ ?_;(focus first | rfl | decide | exact ⟨rfl,rfl⟩ | exact ⟨rfl,by decide⟩ | exact (fun _=>rfl) | exact (fun h=>nomatch h) | (simp;done) | omega | (simp [big];done) | exact le_big (by omega) | exact lt_big (by omega))))
 all_goals try (exfalso;omega;done)
 rw [e1,e2,trunc_v (k:=0) rfl (by simp [V.blo])]
 exact hk
def pxL (l:List Fm) (j:Nat):List UInt8 :=
 match l[j]? with
 | some f=>f.p
 | none=>[]
theorem pxL_at {l:List Fm} {j:Nat} {f:Fm} (h:l[j]?=some f):pxL l j=f.p:=by unfold pxL;rw [h]
theorem pxL_mA {NU:Nat→Nat→UInt8} {l:List Fm}:pxL l=mA NU l 0 0:=by
 funext j
 unfold pxL mA
 cases l[j]? with
 | none=>rfl
 | some f =>
  dsimp only
  rw [if_neg (Nat.not_lt_zero _)]
  split
  ·rfl
  ·rfl
structure GA where
 i:Nat
 G:List B
structure CK (H:List B) (l:List Fm) (i:Nat) (G:List B):Prop where
 cl:Cl G
 len:G.length=H.length+2+i
 out:bget G (H.length+1)=some (.blk (fmG (fun j f=>if j<i then piV (fun j=>H.length+2+j) j f else .sl f.c f.p.length (ofBytes f.p)) 0 l) false)
 pic:∀ j f,j<i→l[j]?=some f→bget G (H.length+2+j)=some (.blk (ofBytes f.p) true)
 old:∀ m b,bget H m=some b→bget G m=some b
theorem CK.start {H:List B} {l:List Fm} (c:Cl H):CK H l 0 (H++[.unborn,.blk (fmC l) false]):=by
 have e:fmC l=fmG (fun j f=>if j<0 then piV (fun j=>H.length+2+j) j f else .sl f.c f.p.length (ofBytes f.p)) 0 l:=by
  rw [fmC_G (k:=0)]
  exact fmG_ext fun j f _=>by rw [if_neg (Nat.not_lt_zero _)]
 refine ⟨cl_asc c ⟨rfl,?_,trivial⟩,by rw [List.length_append];rfl,by rw [← e];exact bget_new (i:=1),fun j f hj=>absurd hj (Nat.not_lt_zero _),fun m b h=>bget_app h⟩
 show (false || blos _ (fmC l))=true
 rw [Bool.false_or,fmC_G (k:=0)]
 exact fmG_blos fun j f _=>rfl
theorem CK.next {H:List B} {l:List Fm} {i:Nat} {G:List B} {f:Fm} (c:CK H l i G) (hf:l[i]?=some f):CK H l (i+1) (bset (G++[.blk (ofBytes f.p) true]) (H.length+1) (.blk (over (fmG (fun j f=>if j<i then piV (fun j=>H.length+2+j) j f else .sl f.c f.p.length (ofBytes f.p)) 0 l) (0+i * 3+2) [.ms 1 G.length f.p.length 0 f.p.length false]) false)):=by
 have hl:=c.len
 have hi:=(List.getElem?_eq_some_iff.1 hf).1
 have ho:=bget_lt c.out
 have e:over (fmG (fun j f=>if j<i then piV (fun j=>H.length+2+j) j f else .sl f.c f.p.length (ofBytes f.p)) 0 l) (0+i * 3+2) [.ms 1 G.length f.p.length 0 f.p.length false]=fmG (fun j f=>if j<i+1 then piV (fun j=>H.length+2+j) j f else .sl f.c f.p.length (ofBytes f.p)) 0 l:=by
  rw [Nat.zero_add,fmG_set hi]
  refine fmG_ext fun j u hu => ?_
  rw [Nat.zero_add]
  by_cases e:j=i
  ·subst e
   rw [hf] at hu
   cases hu
   rw [if_pos (by omega),if_pos (by omega)]
   unfold piV
   rw [hl]
  ·rw [if_neg (by omega)]
   by_cases e2:j<i
   ·rw [if_pos e2,if_pos (by omega)]
   ·rw [if_neg e2,if_neg (by omega)]
 rw [e]
 have hlen:(G++[B.blk (ofBytes f.p) true]).length=H.length+2+(i+1):=by rw [List.length_append,hl];rfl
 refine ⟨(c.cl.app (b:=.blk (ofBytes f.p) true) rfl).set ?_,by rw [bset_len,hlen],bget_same (by rw [hlen];omega),fun j u hj hu => ?_,fun m b h => ?_⟩
 ·rw [hlen]
  show (false || blos _ _)=true
  rw [Bool.false_or]
  refine fmG_blos fun j u _ => ?_
  split
  ·refine decide_eq_true ?_
   show H.length+2+(0+j)<_
   omega
  ·rfl
 ·rw [bset_other (by omega)]
  by_cases e:j=i
  ·subst e
   rw [hf] at hu
   cases hu
   rw [← hl]
   exact bget_new (i:=0)
  ·exact bget_app (c.pic j u (by omega) hu)
 ·have:=bget_lt h
  rw [bset_other (by omega)]
  exact bget_app (c.old m b h)
theorem CK.all {H:List B} {l:List Fm} {i:Nat} {G:List B} (c:CK H l (i+1) G) (hi:i<l.length) {k:Nat} (hb:hbelow k G=true):H.length+2+i<k:=by
 have h1:=blo_of_hbelow hb (mem_bget c.out)
 have h1:blos k _=true:=h1
 have h2:=fmG_mem (i:=i) h1 (List.getElem?_eq_getElem hi)
 rw [Nat.zero_add,if_pos (by omega)] at h2
 exact of_decide_eq_true h2
theorem CK.norm {H:List B} {l:List Fm} {i:Nat} {G:List B} {mk:List Bool} {tm:List V} (c:CK H l (i+1) G) (hi:i<l.length) {n:Nat} (hn:n=H.length+2):norm mk n ⟨tm,G⟩=⟨masked mk tm,G⟩:=by
 have hl:=c.len
 refine norm_all (r:=H.length+2+i) (o:=H.length+1) (by omega) (by omega) (by omega) c.out fun k hk => ?_
 have hk:blos k _=true:=hk
 have h2:=fmG_mem (i:=i) hk (List.getElem?_eq_getElem hi)
 rw [Nat.zero_add,if_pos (by omega)] at h2
 exact of_decide_eq_true h2
theorem CK.fin {H:List B} {l:List Fm} {G:List B} (c:CK H l l.length G):FH H.length G.length l (pxL l) (H.length+1) (fun j=>H.length+2+j) G:=by
 have hl:=c.len
 refine ⟨by omega,fun j hj=>by omega,fun i j _ _ h=>by omega,?_,fun j hj => ?_,fun j f hf=>by rw [pxL_at hf]⟩
 ·rw [c.out]
  congr 2
  exact fmG_ext fun j f hf=>by
   have:=(List.getElem?_eq_some_iff.1 hf).1
   rw [Nat.zero_add,if_pos this]
 ·have hf:=List.getElem?_eq_getElem hj
  rw [pxL_at hf]
  exact c.pic j _ hj hf
theorem trunc_all {n r o:Nat} {h:List B} {v:V} {b:B} (hr:h.length=r+1) (hn:n≤r) (hc:Cl h) (hv:∀ k,v.blo k=true→o<k) (hb:bget h o=some b) (hbv:∀ k,b.blo k=true→r<k):trunc n [v] h=h:=by
 obtain ⟨k,h1,h2,h3,h4⟩:=trunc_cut (n:=n) (tm:=[v]) (h:=h) (by omega) hc
 rw [h2]
 rcases h4 with h4 | h4
 ·rw [h4,List.take_length]
 ·simp only [blos,Bool.and_true] at h4
  have ho:=hv k h4
  have hb' : bget (h.take k) o=some b:=by rw [bget_take ho];exact hb
  have:=hbv _ (blo_of_hbelow h3 (mem_bget hb'))
  rw [List.length_take] at this
  exact List.take_of_length_le (by omega)
set_option maxRecDepth 100000 in
set_option maxHeartbeats 20000000 in
theorem clone_call {H:List B} {c:Bool} {l:List Fm} {W Hh:Nat} {K:V→List B→Prop} (o:FOk l W Hh) (hc:Cl H) (hk:∀ G,Cl G→(∀ m b,bget H m=some b→bget G m=some b)→G.length=H.length+2+l.length→FH H.length G.length l (pxL l) (H.length+1) (fun j=>H.length+2+j) G→K (.ms 3 (H.length+1) (l.length * 3) 0 l.length false) G):CallP FB md 0 (.fn 47 []) [.sl c l.length (fmC l)] H K:=by
 have hn0:=o.n0
 have hn12:=o.n12
 have hnn:=o.nn
 have h91:∀ {K:V→List B→Prop},K (.ms 3 (H.length+1) (l.length * 3) 0 l.length false) (H++[.unborn,.blk (fmC l) false])→CallP FB md 0 (.fn 91 []) [.sl c l.length (fmC l)] H K:=fun h=>clone91 hn0 hn12 h
 refine call_one rfl rfl rfl ?_
 repeat' (first
 | (conv=>whnf)
   first
   | refine fLen.mk ?_
   | refine fB.i0 ?_
   | refine h91 ?_)
 all_goals try (exfalso;omega;done)
 refine LoopP.by (fun a:GA=>a.i≤l.length∧CK H l a.i a.G) (fun a=>[(8,.int .i64 (a.i:Nat))]) (fun a=>a.G) (fun a=>l.length - a.i) ⟨0,_⟩ ⟨Nat.zero_le _,CK.start hc⟩ rfl ?_
 rintro ⟨i,G⟩ ⟨w1,w2⟩
 dsimp only at w1 w2 ⊢
 by_cases hi:i<l.length
 ·obtain ⟨f,hf,_,_,hfp⟩:=o.at hi
  obtain ⟨_,_,a2⟩:=fmG_c (g:=fun j f=>if j<i then piV (fun j=>H.length+2+j) j f else .sl f.c f.p.length (ofBytes f.p)) (k:=0) hf
  rw [Nat.zero_add,if_neg (Nat.lt_irrefl i)] at a2
  have a2' : cellAt (fmG (fun j f=>if j<i then piV (fun j=>H.length+2+j) j f else .sl f.c f.p.length (ofBytes f.p)) 0 l) (0+i * 3+2)=some (.sl f.c f.p.length (ofBytes f.p)):=by rw [Nat.zero_add];exact a2
  have hout:=w2.out
  have hout' := bget_app (g:=[.blk (ofBytes f.p) true]) hout
  have h92:∀ {K:V→List B→Prop},K (.ms 1 G.length f.p.length 0 f.p.length false) (G++[.blk (ofBytes f.p) true])→CallP FB md 0 (.fn 92 []) [.sl f.c f.p.length (ofBytes f.p)] G K:=fun h=>clone92 (by omega) (by omega) h
  have hiw:IntKind.i64.wrap ((i:Int)+1)=((i+1:Nat):Int):=by rw [wrap_i64 (by omega) (by omega)];omega
  have hil:i≤l.length - 1:=by omega
  have hgl:=fmG_length (g:=fun j f=>if j<i then piV (fun j=>H.length+2+j) j f else .sl f.c f.p.length (ofBytes f.p)) (k:=0) (l:=l)
  have hst:(fmG (fun j f=>if j<i then piV (fun j=>H.length+2+j) j f else .sl f.c f.p.length (ofBytes f.p)) 0 l).length=l.length * 3∧0+i * 3+2+1≤(fmG (fun j f=>if j<i then piV (fun j=>H.length+2+j) j f else .sl f.c f.p.length (ofBytes f.p)) 0 l).length:=⟨hgl,by rw [hgl];omega⟩
  have cn:=w2.next hf
  repeat' (first
 | (conv=>whnf)
   first
   | refine Bnd.eq hiw ?_
   | (refine Br.decT ?_ ?_;(focus first | assumption | omega))
   | refine fLen.mk ?_
   | refine fB.i0 ?_
   | refine h92 ?_
   | refine Get.mk _ hout ?_
   | refine Get.mk _ hout' ?_
   | refine Get.mk _ a2' ?_
   | refine Req.mk hgl ?_
   | refine Req.mk hst ?_
   | refine Idx.nat hil ?_
   | refine Req.mk hn0 ?_
   | refine fB.mk ?_
   | refine fV.mk ?_
   | (refine Req.mk ?_ ?_;(focus first | rfl | decide | exact ⟨rfl,rfl⟩ | exact ⟨rfl,by decide⟩ | exact (fun _=>rfl) | exact (fun h=>nomatch h) | (simp;done) | omega | (simp [big];done) | exact le_big (by omega) | exact lt_big (by omega))))
  all_goals try (exfalso;omega;done)
  ·exact NextP.mk ⟨i+1,_⟩ ⟨hi,cn⟩ (by dsimp only;omega) (cn.norm hi (by rw [List.length_append];rfl))
 obtain rfl:i=l.length:=by omega
 have hl:=w2.len
 have ht:trunc H.length [.ms 3 (H.length+1) (l.length * 3) 0 l.length false] G=G:=by
  obtain ⟨i,hi⟩:∃ i,l.length=i+1:=⟨l.length - 1,by omega⟩
  refine trunc_all (r:=H.length+2+i) (o:=H.length+1) (by omega) (by omega) w2.cl (fun k hk=>of_decide_eq_true hk) w2.out fun k hk => ?_
  have hk:blos k _=true:=hk
  have h2:=fmG_mem (i:=i) hk (List.getElem?_eq_getElem (by omega))
  rw [Nat.zero_add,if_pos (by omega)] at h2
  exact of_decide_eq_true h2
 repeat' (first
 | (conv=>whnf)
   first
   | (refine Br.decF ?_ ?_;(focus first | assumption | omega))
   | refine fLen.mk ?_
   | refine fB.i0 ?_
   | refine fB.mk ?_
   | refine Get.mk _ rfl ?_
   | refine Ends.of ?_)
 all_goals try (exfalso;omega;done)
 rw [ht]
 exact hk G w2.cl w2.old hl w2.fin
theorem fB.i3 {h g:List B} {K:List B→Prop} (hk:fB g fun r=>K (h++r)):fB (if 3=0 then h else h++g) K:=by rw [if_neg (by decide)];exact fB.tail hk
theorem FH.fit {N M:Nat} {l:List Fm} {A:Nat→List UInt8} {o:Nat} {P:Nat→Nat} {h:List B} (e:FH N M l A o P h):FH N h.length l A o P h :=
 ⟨⟨e.oN.1,bget_lt e.out⟩,fun j hj=>⟨(e.PN j hj).1,bget_lt (e.pic j hj),(e.PN j hj).2.2⟩,e.inj,e.out,e.pic,e.len⟩
structure CP (H:List B) (l:List Fm) (i:Nat) (P:Nat→Nat) (v:V) (G:List B):Prop where
 cl:Cl G
 le:H.length≤G.length
 zero:i=0→G=H∧v = .nilsl
 pos:0<i→v = .ms 3 (H.length+2) (i * 3) 0 i false∧bget G (H.length+2)=some (.blk (fmG (piV P) 0 (l.take i)) false)
 pic:∀ j f,j<i→l[j]?=some f→H.length≤P j∧P j≠H.length+2∧bget G (P j)=some (.blk (ofBytes f.p) true)
 inj:∀ j k,j<i→k<i→P j=P k→j=k
 old:∀ m b,bget H m=some b→bget G m=some b
theorem CP.take {H:List B} {l:List Fm} {i:Nat} {P:Nat→Nat} {v:V} {G:List B} (c:CP H l i P v G) (h0:0<i) (hi:i≤l.length) {k:Nat} (hk:H.length+2<k) (ck:Cl (G.take k)):CP H l i P v (G.take k):=by
 have ho:=(c.pos h0).2
 have hlt:=bget_lt ho
 have ho' : bget (G.take k) (H.length+2)=some (.blk (fmG (piV P) 0 (l.take i)) false):=by rw [bget_take hk];exact ho
 have hb:blos _ _=true:=blo_of_hbelow ck (mem_bget ho')
 refine ⟨ck,by rw [List.length_take];omega,fun e=>absurd e (by omega),fun _=>⟨(c.pos h0).1,ho'⟩,fun j f hj hf => ?_,c.inj,fun m b h => ?_⟩
 ·obtain ⟨h1,h2,h3⟩:=c.pic j f hj hf
  have hjt:(l.take i)[j]?=some f:=by rw [List.getElem?_take,if_pos hj];exact hf
  have h4:=fmG_mem (i:=j) hb hjt
  rw [Nat.zero_add] at h4
  have h5:P j<(G.take k).length:=of_decide_eq_true h4
  rw [List.length_take] at h5
  exact ⟨h1,h2,by rw [bget_take (by omega)];exact h3⟩
 ·have:=bget_lt h
  rw [bget_take (by omega)]
  exact c.old m b h
theorem CP.norm {H:List B} {l:List Fm} {i:Nat} {P:Nat→Nat} {v:V} {G:List B} {mk:List Bool} {tm:List V} {n:Nat} (c:CP H l i P v G) (h0:0<i) (hi:i≤l.length) (hn:n=H.length) (hv:tg (masked mk tm) 3=v):CP H l i P v (norm mk n ⟨tm,G⟩).h:=by
 subst hn
 obtain ⟨k,h1,h2,h3,h4⟩:=norm_cut (mk:=mk) (tm:=tm) c.le c.cl
 rw [h2]
 obtain ⟨hp,ho⟩:=c.pos h0
 have hlt:=bget_lt ho
 refine c.take h0 hi ?_ h3
 rcases h4 with h4 | h4
 ·omega
 ·have:=blos_tg (i:=3) h4
  rw [hv,hp] at this
  exact of_decide_eq_true this
theorem CP.next0 {H:List B} {l:List Fm} {P:Nat→Nat} {v:V} {G:List B} {f:Fm} {cs:List V} (c:CP H l 0 P v G) (hf:l[0]?=some f) (hcs:blos (G.length+1) cs=true):CP H l 1 (fun _=>G.length) (.ms 3 (H.length+2) (1 * 3) 0 1 false) (G++[.blk (ofBytes f.p) true,.blk cs false,.blk [.int .i64 f.w,.int .i64 f.h,.ms 1 G.length f.p.length 0 f.p.length false] false]):=by
 obtain ⟨rfl,_⟩:=c.zero rfl
 have ht:l.take 1=[f]:=by
  cases l with
  | nil=>cases hf
  | cons g l=>simp only [List.getElem?_cons_zero,Option.some.injEq] at hf;subst hf;rfl
 refine ⟨cl_asc c.cl ⟨rfl,hcs,?_,trivial⟩,by rw [List.length_append];omega,fun e=>absurd e (by omega),fun _=>⟨rfl,?_⟩,fun j u hj hu => ?_,fun j k _ _ _=>by omega,fun m b h=>bget_app h⟩
 ·show (false || (true && (true && (decide (G.length<G.length+1+1) && true))))=true
  rw [decide_eq_true (by omega)]
  rfl
 ·rw [ht]
  exact bget_new (i:=2)
 ·obtain rfl:j=0:=by omega
  rw [hf] at hu
  cases hu
  exact ⟨Nat.le_refl _,by omega,bget_new (i:=0)⟩
theorem CP.nextS {H:List B} {l:List Fm} {i:Nat} {P:Nat→Nat} {v:V} {G:List B} {f:Fm} {cs:List V} (c:CP H l (i+1) P v G) (hf:l[i+1]?=some f) (hcs:blos (G.length+1) cs=true):CP H l (i+2) (fun j=>if j=i+1 then G.length else P j) (.ms 3 (H.length+2) ((i+2) * 3) 0 (i+2) false) (bset (G++[.blk (ofBytes f.p) true,.blk cs false,.unborn]) (H.length+2) (.blk (fmG (piV P) 0 (l.take (i+1))++[.int .i64 f.w,.int .i64 f.h,.ms 1 G.length f.p.length 0 f.p.length false]) false)):=by
 obtain ⟨hp,ho⟩:=c.pos (Nat.succ_pos _)
 have hlt:=bget_lt ho
 have hi:=(List.getElem?_eq_some_iff.1 hf).1
 have hlen:(G++[B.blk (ofBytes f.p) true,.blk cs false,.unborn]).length=G.length+3:=by rw [List.length_append];rfl
 have e:fmG (piV P) 0 (l.take (i+1))++[.int .i64 f.w,.int .i64 f.h,.ms 1 G.length f.p.length 0 f.p.length false]=fmG (piV (fun j=>if j=i+1 then G.length else P j)) 0 (l.take (i+2)):=by
  have ht:l.take (i+2)=l.take (i+1)++[f]:=by
   rw [List.take_add_one,hf]
   rfl
  rw [ht,fmG_snoc,List.length_take,Nat.min_eq_left (by omega)]
  congr 1
  ·exact fmG_ext fun j u hu=>by
    have:=(List.getElem?_eq_some_iff.1 hu).1
    rw [List.length_take] at this
    unfold piV
    dsimp only
    rw [if_neg (by omega)]
  ·unfold piV
   dsimp only
   rw [if_pos (by omega)]
 rw [e]
 have hcl:Cl (G++[B.blk (ofBytes f.p) true,.blk cs false,.unborn]):=cl_asc c.cl ⟨rfl,hcs,rfl,trivial⟩
 refine ⟨hcl.set ?_,by rw [bset_len,hlen];have:=c.le;omega,fun e=>absurd e (by omega),fun _=>⟨rfl,bget_same (by rw [hlen];omega)⟩,fun j u hj hu => ?_,fun j k hj hk hjk => ?_,fun m b h => ?_⟩
 ·rw [hlen]
  show (false || blos _ _)=true
  rw [Bool.false_or]
  refine fmG_blos fun j u hu => ?_
  refine decide_eq_true ?_
  rw [Nat.zero_add]
  have:=(List.getElem?_eq_some_iff.1 hu).1
  rw [List.length_take] at this
  dsimp only
  by_cases ej:j=i+1
  ·rw [if_pos ej];omega
  ·rw [if_neg ej]
   rw [List.getElem?_take,if_pos (by omega)] at hu
   have:=bget_lt (c.pic j u (by omega) hu).2.2
   omega
 ·by_cases ej:j=i+1
  ·subst ej
   rw [hf] at hu
   cases hu
   rw [if_pos rfl,bset_other (by omega)]
   exact ⟨c.le,by omega,bget_new (i:=0)⟩
  ·obtain ⟨h1,h2,h3⟩:=c.pic j u (by omega) hu
   rw [if_neg ej,bset_other (Ne.symm h2)]
   exact ⟨h1,h2,bget_app h3⟩
 ·have hpl:∀ k,k<i+1→P k<G.length:=fun k hk=>by
   have:=List.getElem?_eq_getElem (l:=l) (i:=k) (by omega)
   exact bget_lt (c.pic k _ hk this).2.2
  have hjk:(if j=i+1 then G.length else P j)=(if k=i+1 then G.length else P k):=hjk
  by_cases ej:j=i+1
  ·by_cases ek:k=i+1
   ·omega
   ·rw [if_pos ej,if_neg ek] at hjk
    have:=hpl k (by omega)
    omega
  ·by_cases ek:k=i+1
   ·rw [if_neg ej,if_pos ek] at hjk
    have:=hpl j (by omega)
    omega
   ·rw [if_neg ej,if_neg ek] at hjk
    exact c.inj j k (by omega) (by omega) hjk
 ·have:=bget_lt h
  have hHl:=c.le
  rw [bset_other (by omega)]
  exact bget_app (c.old m b h)
theorem CP.fin {H:List B} {l:List Fm} {P:Nat→Nat} {v:V} {G:List B} (c:CP H l l.length P v G) (h0:0<l.length):FH H.length G.length l (pxL l) (H.length+2) P G:=by
 obtain ⟨_,ho⟩:=c.pos h0
 rw [List.take_length] at ho
 refine ⟨⟨by omega,bget_lt ho⟩,fun j hj => ?_,c.inj,ho,fun j hj => ?_,fun j f hf=>by rw [pxL_at hf]⟩
 ·obtain ⟨h1,h2,h3⟩:=c.pic j _ hj (List.getElem?_eq_getElem hj)
  exact ⟨h1,bget_lt h3,h2⟩
 ·have hf:=List.getElem?_eq_getElem hj
  rw [pxL_at hf]
  exact (c.pic j _ hj hf).2.2
structure GP where
 i:Nat
 P:Nat→Nat
 v:V
 G:List B
set_option maxRecDepth 100000 in
set_option maxHeartbeats 20000000 in
theorem copy_call {H:List B} {c:Bool} {l:List Fm} {W Hh:Nat} {K:V→List B→Prop} (o:FOk l W Hh) (hc:Cl H) (hk:∀ G P,Cl G→(∀ m b,bget H m=some b→bget G m=some b)→H.length≤G.length→FH H.length G.length l (pxL l) (H.length+2) P G→K (.ms 3 (H.length+2) (l.length * 3) 0 l.length false) G):CallP FB md 0 (.fn 49 []) [.sl c l.length (fmC l)] H K:=by
 have hn0:=o.n0
 have hn12:=o.n12
 have hnn:=o.nn
 refine call_one rfl rfl rfl ?_
 repeat' (first
 | (conv=>whnf)
   first
   | refine fLen.mk ?_
   | refine fB.i0 ?_)
 all_goals try (exfalso;omega;done)
 refine LoopP.by (fun a:GP=>a.i≤l.length∧CP H l a.i a.P a.v a.G) (fun a=>[(3,a.v),(4,.int .i64 (a.i:Nat))]) (fun a=>a.G) (fun a=>l.length - a.i) ⟨0,fun _=>0,.nilsl,H⟩ ⟨Nat.zero_le _,⟨hc,Nat.le_refl _,fun _=>⟨rfl,rfl⟩,fun e=>absurd e (Nat.lt_irrefl _),fun j f hj=>absurd hj (Nat.not_lt_zero _),fun j k hj=>absurd hj (Nat.not_lt_zero _),fun _ _ h=>h⟩⟩ rfl ?_
 rintro ⟨i,P,v,G⟩ ⟨w1,w2⟩
 dsimp only at w1 w2 ⊢
 by_cases hi:i<l.length
 ·obtain ⟨f,hf,_,_,hfp⟩:=o.at hi
  obtain ⟨a0,a1,a2⟩:=fm_c hf
  have hiw:IntKind.i64.wrap ((i:Int)+1)=((i+1:Nat):Int):=by rw [wrap_i64 (by omega) (by omega)];omega
  have hil:i≤l.length - 1:=by omega
  have h0' : f.p.length≠0:=by omega
  have hpl:=ofBytes_length f.p
  have hbig:(([]:List V).length+(ofBytes f.p).length) * (1+1)<big:=lt_big2 (by omega)
  have hl1:(ofBytes f.p).length=f.p.length * 1:=by omega
  have hsc:=scalars_ofBytes f.p
  have e1:([]:List V).length+(ofBytes f.p).length=f.p.length:=by rw [hpl];simp
  have e2:0+f.p.length=f.p.length:=Nat.zero_add _
  have hp3:∀ a b c:V,part [a,b,c] 0 (1 * 3)=some [a,b,c]:=fun _ _ _=>rfl
  cases i with
  | zero =>
   obtain ⟨hGH,rfl⟩:=w2.zero rfl
   subst hGH
   have cn:=w2.next0 hf (cs:=[.int .i64 f.w,.int .i64 f.h,.ms 1 G.length f.p.length 0 f.p.length false]) (by simp [blos,V.blo])
   repeat' (first
 | (conv=>whnf)
   first
   | refine Bnd.eq hiw ?_
   | (refine Br.decT ?_ ?_;(focus first | assumption | omega))
   | refine fLen.mk ?_
   | refine fB.i0 ?_
   | refine fB.i3 ?_
   | refine Get.mk _ a0 ?_
   | refine Get.mk _ a1 ?_
   | refine Get.mk _ a2 ?_
   | refine Get.mk _ (hp3 _ _ _) ?_
   | refine Idx.nat hil ?_
   | refine Req.mk hn0 ?_
   | refine Req.mk ⟨rfl,bget_new (i:=0)⟩ ?_
   | refine Req.mk (bget_new (i:=2)) ?_
   | refine Req.mk hl1 ?_
   | refine Req.mk (fun _=>hsc) ?_
   | refine Ifz.pos h0' ?_
   | refine Req.mk hbig ?_
   | refine Get.newj 0 rfl rfl ?_
   | refine Get.newj 1 rfl rfl ?_
   | refine Get.newj 2 rfl rfl ?_
   | refine fB.newj 0 rfl ?_
   | refine fB.newj 1 rfl ?_
   | refine fB.newj 2 rfl ?_
   | refine fB.mk ?_
   | (refine Ifz.pos ?_ ?_;(focus omega))
   | refine Get.mk _ rfl ?_
   | (refine Req.mk ?_ ?_;(focus first | rfl | decide | exact ⟨rfl,rfl⟩ | exact ⟨rfl,by decide⟩ | exact (fun _=>rfl) | exact (fun h=>nomatch h) | (simp;done) | omega | (simp [big];done) | exact le_big (by omega) | exact lt_big (by omega))))
   all_goals try (exfalso;omega;done)
   rw [e1,e2]
   exact NextP.of (fun g=>⟨1,fun _=>G.length,.ms 3 (G.length+2) (1 * 3) 0 1 false,g⟩) ⟨hi,cn.norm (Nat.succ_pos _) hi rfl rfl⟩ (by dsimp only;omega) rfl
  | succ i =>
   obtain ⟨rfl,ho⟩:=w2.pos (Nat.succ_pos _)
   have cn:=w2.nextS hf (cs:=[.int .i64 f.w,.int .i64 f.h,.ms 1 G.length f.p.length 0 f.p.length false]) (by simp [blos,V.blo])
   have hgl:(fmG (piV P) 0 (l.take (i+1))).length=(i+1) * 3:=by rw [fmG_length,List.length_take,Nat.min_eq_left (by omega)]
   have hsz:∀ a b c:V,0+(i+1) * 3=(i+1) * 3∧((fmG (piV P) 0 (l.take (i+1))).length+[a,b,c].length) * (40+1)<big:=fun a b c=>⟨Nat.zero_add _,by rw [hgl];unfold big;simp;omega⟩
   have e5:∀ a b c:V,(i+1) * 3+[a,b,c].length=(i+2) * 3:=fun _ _ _=>by simp;omega
   repeat' (first
 | (conv=>whnf)
   first
   | refine Bnd.eq hiw ?_
   | (refine Br.decT ?_ ?_;(focus first | assumption | omega))
   | refine fLen.mk ?_
   | refine fB.i0 ?_
   | refine fB.i3 ?_
   | refine Get.mk _ a0 ?_
   | refine Get.mk _ a1 ?_
   | refine Get.mk _ a2 ?_
   | refine Get.mk _ (hp3 _ _ _) ?_
   | refine Get.mk _ (bget_app ho) ?_
   | refine Req.mk hgl ?_
   | refine Req.mk (hsz _ _ _) ?_
   | refine Idx.nat hil ?_
   | refine Req.mk hn0 ?_
   | refine Req.mk ⟨rfl,bget_new (i:=0)⟩ ?_
   | refine Req.mk hl1 ?_
   | refine Req.mk (fun _=>hsc) ?_
   | refine Ifz.pos h0' ?_
   | refine Req.mk hbig ?_
   | refine Get.newj 0 rfl rfl ?_
   | refine Get.newj 1 rfl rfl ?_
   | refine fB.newj 0 rfl ?_
   | refine fB.newj 1 rfl ?_
   | refine fB.mk ?_
   | (refine Ifz.pos ?_ ?_;(focus omega))
   | refine Get.mk _ rfl ?_
   | (refine Req.mk ?_ ?_;(focus first | rfl | decide | exact ⟨rfl,rfl⟩ | exact ⟨rfl,by decide⟩ | exact (fun _=>rfl) | exact (fun h=>nomatch h) | (simp;done) | omega | (simp [big];done) | exact le_big (by omega) | exact lt_big (by omega))))
   all_goals try (exfalso;omega;done)
   rw [e1,e2,e5]
   exact NextP.of (fun g=>⟨i+2,fun j=>if j=i+1 then G.length else P j,.ms 3 (H.length+2) ((i+2) * 3) 0 (i+2) false,g⟩) ⟨hi,cn.norm (Nat.succ_pos _) hi rfl rfl⟩ (by dsimp only;omega) rfl
 obtain rfl:i=l.length:=by omega
 obtain ⟨hp,ho⟩:=w2.pos hn0
 subst hp
 have cf:=w2.fin hn0
 obtain ⟨k,h1,h2,h3,h4⟩:=trunc_cut (n:=H.length) (tm:=[.ms 3 (H.length+2) (l.length * 3) 0 l.length false]) w2.le w2.cl
 have hk2:H.length+2<k:=by
  rcases h4 with h4 | h4
  ·have:=bget_lt ho
   omega
  ·simp only [blos,V.blo,Bool.and_true] at h4
   exact of_decide_eq_true h4
 have ct:=w2.take hn0 (Nat.le_refl _) hk2 h3
 repeat' (first
 | (conv=>whnf)
   first
   | (refine Br.decF ?_ ?_;(focus first | assumption | omega))
   | refine fLen.mk ?_
   | refine fB.i0 ?_
   | refine fB.mk ?_
   | refine Get.mk _ rfl ?_
   | refine Ends.of ?_)
 all_goals try (exfalso;omega;done)
 rw [h2]
 exact hk _ P ct.cl ct.old ct.le (ct.fin hn0)
end Go.Dr.T
