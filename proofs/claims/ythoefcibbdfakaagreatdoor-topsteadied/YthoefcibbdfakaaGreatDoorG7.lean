/- Top, of chapter 08: films that are cloned: the program's, and the reference's copy. -/
import Derived.Test.YthoefcibbdfakaaGreatDoorR18Gd
namespace Go.Dr.T
theorem Qk2 {c:Bool} {n:Nat} {cs:List V} (h:n≠0):eqv2 3 (.sl c n cs) .nilsl=some false:=by
 cases n with
 | zero=>exact absurd rfl h
 | succ n=>rfl
theorem Qeq {n:Nat} (h:n≤100):(([]:List V).length+n) * (40+1)<big:=by
 unfold big
 simp
 omega
theorem Qq1 {n:Nat} (h:n≤2304):(([]:List V).length+n) * (1+1)<big:=by
 unfold big
 simp
 omega
theorem Q91 {H g:List B} {v:V} {k:Nat} (hg:g.length=k+1) (hv:v.blo (H.length+k)=false):trunc H.length [v] (H++g)=H++g:=by
 unfold trunc
 rw [List.length_append,Nat.add_sub_cancel_left,hg]
 unfold Q2o
 have:blos (H.length+k) [v]=false:=by simp only [blos,hv,Bool.false_and]
 rw [this,Bool.false_and]
 rfl
set_option maxRecDepth 100000 in
set_option maxHeartbeats 20000000 in
theorem Qqz {H:List B} {c:Bool} {l:List Fm} {K:V→List B→Prop} (h0:0<l.length) (h12:l.length≤12) (hk:K (.ms 3 (H.length+1) (l.length * 3) 0 l.length false) (H++[.unborn,.blk (fmC l) false])):CallP FB md 0 (.fn 60 []) [.sl c l.length (fmC l)] H K:=by
 have h0' : l.length≠0:=by omega
 have hbig:(([]:List V).length+(fmC l).length) * (40+1)<big:=Qeq (by rw [Q0c];omega)
 have e1:([]:List V).length+(fmC l).length=l.length * 3:=by rw [Q0c];simp
 have e2:0+l.length=l.length:=Nat.zero_add _
 refine Q11 rfl rfl rfl ?_
 repeat' (first
 | (conv=>whnf)
   first
   | refine Br.f ?_
   | refine Get.mk _ (Qk2 h0') ?_
   | refine fLen.mk ?_
   | refine fB.i2 ?_
   | refine fB.i0 ?_
   | refine Req.mk ⟨rfl,bget_new (i:=1)⟩ ?_
   | refine Req.mk (Q0c _) ?_
   | refine Ifz.pos h0' ?_
   | refine Req.mk hbig ?_
   | refine Get.newj 1 rfl rfl ?_
   | refine fB.newj 1 rfl ?_
   | refine fB.mk ?_
   | refine Get.mk _ rfl ?_
   | refine Ends.of ?_
   | (refine Req.mk ?_ ?_;(focus first | rfl | decide | exact ⟨rfl,rfl⟩ | exact ⟨rfl,by decide⟩ | exact (fun _=>rfl) | exact (fun h=>nomatch h) | (simp;done) | omega | (simp [big];done) | exact Q02 (by omega) | exact Q01 (by omega))))
 all_goals try (exfalso;omega;done)
 rw [e1,e2,Q91 (k:=1) rfl (by simp [V.blo])]
 exact hk
set_option maxRecDepth 100000 in
set_option maxHeartbeats 20000000 in
theorem Qkm {H:List B} {c:Bool} {p:List UInt8} {K:V→List B→Prop} (h0:0<p.length) (h12:p.length≤2304) (hk:K (.ms 1 H.length p.length 0 p.length false) (H++[.blk (ofBytes p) true])):CallP FB md 0 (.fn 61 []) [.sl c p.length (ofBytes p)] H K:=by
 have h0' : p.length≠0:=by omega
 have hl:=Q0f p
 have hbig:(([]:List V).length+(ofBytes p).length) * (1+1)<big:=Qq1 (by omega)
 have e1:([]:List V).length+(ofBytes p).length=p.length:=by rw [hl];simp
 have e2:0+p.length=p.length:=Nat.zero_add _
 have hl1:(ofBytes p).length=p.length * 1:=by omega
 have hsc:=Q6n p
 refine Q11 rfl rfl rfl ?_
 repeat' (first
 | (conv=>whnf)
   first
   | refine Br.f ?_
   | refine Get.mk _ (Qk2 h0') ?_
   | refine fLen.mk ?_
   | refine fB.i1 ?_
   | refine fB.i0 ?_
   | refine Req.mk ⟨rfl,bget_new (i:=0)⟩ ?_
   | refine Req.mk hl1 ?_
   | refine Req.mk (fun _=>hsc) ?_
   | refine Ifz.pos h0' ?_
   | refine Req.mk hbig ?_
   | refine Get.newj 0 rfl rfl ?_
   | refine fB.newj 0 rfl ?_
   | refine fB.mk ?_
   | refine Get.mk _ rfl ?_
   | refine Ends.of ?_
   | (refine Req.mk ?_ ?_;(focus first | rfl | decide | exact ⟨rfl,rfl⟩ | exact ⟨rfl,by decide⟩ | exact (fun _=>rfl) | exact (fun h=>nomatch h) | (simp;done) | omega | (simp [big];done) | exact Q02 (by omega) | exact Q01 (by omega))))
 all_goals try (exfalso;omega;done)
 rw [e1,e2,Q91 (k:=0) rfl (by simp [V.blo])]
 exact hk
def pxL (l:List Fm) (j:Nat):List UInt8 :=
 match l[j]? with
 | some f=>f.p
 | none=>[]
theorem Q26 {l:List Fm} {j:Nat} {f:Fm} (h:l[j]?=some f):pxL l j=f.p:=by unfold pxL;rw [h]
theorem pxL_mA {NU:Nat→Nat→UInt8} {l:List Fm}:pxL l=mA NU l 0 0:=by
 funext j
 unfold pxL mA
 cases l[j]? with
 | none=>rfl
 | some f =>
  dsimp only
  rw [if_neg (Nat.not_lt_zero _)]
  split
  ·rfl
  ·rfl
structure GA where
 i:Nat
 G:List B
structure CK (H:List B) (l:List Fm) (i:Nat) (G:List B):Prop where
 cl:Cl G
 len:G.length=H.length+2+i
 out:bget G (H.length+1)=some (.blk (fmG (fun j f=>if j<i then piV (fun j=>H.length+2+j) j f else .sl f.c f.p.length (ofBytes f.p)) 0 l) false)
 pic:∀ j f,j<i→l[j]?=some f→bget G (H.length+2+j)=some (.blk (ofBytes f.p) true)
 old:∀ m b,bget H m=some b→bget G m=some b
theorem CK.start {H:List B} {l:List Fm} (c:Cl H):CK H l 0 (H++[.unborn,.blk (fmC l) false]):=by
 have e:fmC l=fmG (fun j f=>if j<0 then piV (fun j=>H.length+2+j) j f else .sl f.c f.p.length (ofBytes f.p)) 0 l:=by
  rw [Qmo (k:=0)]
  exact Q5k fun j f _=>by rw [if_neg (Nat.not_lt_zero _)]
 refine ⟨Q1z c ⟨rfl,?_,trivial⟩,by rw [List.length_append];rfl,by rw [← e];exact bget_new (i:=1),fun j f hj=>absurd hj (Nat.not_lt_zero _),fun m b h=>bget_app h⟩
 show (false || blos _ (fmC l))=true
 rw [Bool.false_or,Qmo (k:=0)]
 exact Q9p fun j f _=>rfl
theorem CK.next {H:List B} {l:List Fm} {i:Nat} {G:List B} {f:Fm} (c:CK H l i G) (hf:l[i]?=some f):CK H l (i+1) (bset (G++[.blk (ofBytes f.p) true]) (H.length+1) (.blk (over (fmG (fun j f=>if j<i then piV (fun j=>H.length+2+j) j f else .sl f.c f.p.length (ofBytes f.p)) 0 l) (0+i * 3+2) [.ms 1 G.length f.p.length 0 f.p.length false]) false)):=by
 have hl:=c.len
 have hi:=(List.getElem?_eq_some_iff.1 hf).1
 have ho:=Q03 c.out
 have e:over (fmG (fun j f=>if j<i then piV (fun j=>H.length+2+j) j f else .sl f.c f.p.length (ofBytes f.p)) 0 l) (0+i * 3+2) [.ms 1 G.length f.p.length 0 f.p.length false]=fmG (fun j f=>if j<i+1 then piV (fun j=>H.length+2+j) j f else .sl f.c f.p.length (ofBytes f.p)) 0 l:=by
  rw [Nat.zero_add,Qjt hi]
  refine Q5k fun j u hu => ?_
  rw [Nat.zero_add]
  by_cases e:j=i
  ·subst e
   rw [hf] at hu
   cases hu
   rw [if_pos (by omega),if_pos (by omega)]
   unfold piV
   rw [hl]
  ·rw [if_neg (by omega)]
   by_cases e2:j<i
   ·rw [if_pos e2,if_pos (by omega)]
   ·rw [if_neg e2,if_neg (by omega)]
 rw [e]
 have hlen:(G++[B.blk (ofBytes f.p) true]).length=H.length+2+(i+1):=by rw [List.length_append,hl];rfl
 refine ⟨(c.cl.app (b:=.blk (ofBytes f.p) true) rfl).set ?_,by rw [bset_len,hlen],bget_same (by rw [hlen];omega),fun j u hj hu => ?_,fun m b h => ?_⟩
 ·rw [hlen]
  show (false || blos _ _)=true
  rw [Bool.false_or]
  refine Q9p fun j u _ => ?_
  split
  ·refine decide_eq_true ?_
   show H.length+2+(0+j)<_
   omega
  ·rfl
 ·rw [bset_other (by omega)]
  by_cases e:j=i
  ·subst e
   rw [hf] at hu
   cases hu
   rw [← hl]
   exact bget_new (i:=0)
  ·exact bget_app (c.pic j u (by omega) hu)
 ·have:=Q03 h
  rw [bset_other (by omega)]
  exact bget_app (c.old m b h)
theorem CK.all {H:List B} {l:List Fm} {i:Nat} {G:List B} (c:CK H l (i+1) G) (hi:i<l.length) {k:Nat} (hb:Q0v k G=true):H.length+2+i<k:=by
 have h1:=Q04 hb (Q0g c.out)
 have h1:blos k _=true:=h1
 have h2:=Q78 (i:=i) h1 (List.getElem?_eq_getElem hi)
 rw [Nat.zero_add,if_pos (by omega)] at h2
 exact of_decide_eq_true h2
theorem CK.norm {H:List B} {l:List Fm} {i:Nat} {G:List B} {mk:List Bool} {tm:List V} (c:CK H l (i+1) G) (hi:i<l.length) {n:Nat} (hn:n=H.length+2):norm mk n ⟨tm,G⟩=⟨Q0r mk tm,G⟩:=by
 have hl:=c.len
 refine Qm7 (r:=H.length+2+i) (o:=H.length+1) (by omega) (by omega) (by omega) c.out fun k hk => ?_
 have hk:blos k _=true:=hk
 have h2:=Q78 (i:=i) hk (List.getElem?_eq_getElem hi)
 rw [Nat.zero_add,if_pos (by omega)] at h2
 exact of_decide_eq_true h2
theorem CK.fin {H:List B} {l:List Fm} {G:List B} (c:CK H l l.length G):FH H.length G.length l (pxL l) (H.length+1) (fun j=>H.length+2+j) G:=by
 have hl:=c.len
 refine ⟨by omega,fun j hj=>by omega,fun i j _ _ h=>by omega,?_,fun j hj => ?_,fun j f hf=>by rw [Q26 hf]⟩
 ·rw [c.out]
  congr 2
  exact Q5k fun j f hf=>by
   have:=(List.getElem?_eq_some_iff.1 hf).1
   rw [Nat.zero_add,if_pos this]
 ·have hf:=List.getElem?_eq_getElem hj
  rw [Q26 hf]
  exact c.pic j _ hj hf
theorem Qaj {n r o:Nat} {h:List B} {v:V} {b:B} (hr:h.length=r+1) (hn:n≤r) (hc:Cl h) (hv:∀ k,v.blo k=true→o<k) (hb:bget h o=some b) (hbv:∀ k,b.blo k=true→r<k):trunc n [v] h=h:=by
 obtain ⟨k,h1,h2,h3,h4⟩:=Q0z (n:=n) (tm:=[v]) (h:=h) (by omega) hc
 rw [h2]
 rcases h4 with h4 | h4
 ·rw [h4,List.take_length]
 ·simp only [blos,Bool.and_true] at h4
  have ho:=hv k h4
  have hb' : bget (h.take k) o=some b:=by rw [Q08 ho];exact hb
  have:=hbv _ (Q04 h3 (Q0g hb'))
  rw [List.length_take] at this
  exact List.take_of_length_le (by omega)
set_option maxRecDepth 100000 in
set_option maxHeartbeats 20000000 in
theorem Q5o {H:List B} {c:Bool} {l:List Fm} {W Hh:Nat} {K:V→List B→Prop} (o:FOk l W Hh) (hc:Cl H) (hk:∀ G,Cl G→(∀ m b,bget H m=some b→bget G m=some b)→G.length=H.length+2+l.length→FH H.length G.length l (pxL l) (H.length+1) (fun j=>H.length+2+j) G→K (.ms 3 (H.length+1) (l.length * 3) 0 l.length false) G):CallP FB md 0 (.fn 38 []) [.sl c l.length (fmC l)] H K:=by
 have hn0:=o.n0
 have hn12:=o.n12
 have hnn:=o.nn
 have h91:∀ {K:V→List B→Prop},K (.ms 3 (H.length+1) (l.length * 3) 0 l.length false) (H++[.unborn,.blk (fmC l) false])→CallP FB md 0 (.fn 60 []) [.sl c l.length (fmC l)] H K:=fun h=>Qqz hn0 hn12 h
 refine Q11 rfl rfl rfl ?_
 repeat' (first
 | (conv=>whnf)
   first
   | refine fLen.mk ?_
   | refine fB.i0 ?_
   | refine h91 ?_)
 all_goals try (exfalso;omega;done)
 refine LoopP.by (fun a:GA=>a.i≤l.length∧CK H l a.i a.G) (fun a=>[(8,.int .i64 (a.i:Nat))]) (fun a=>a.G) (fun a=>l.length - a.i) ⟨0,_⟩ ⟨Nat.zero_le _,CK.start hc⟩ rfl ?_
 rintro ⟨i,G⟩ ⟨w1,w2⟩
 dsimp only at w1 w2 ⊢
 by_cases hi:i<l.length
 ·obtain ⟨f,hf,_,_,hfp⟩:=o.at hi
  obtain ⟨_,_,a2⟩:=Qgg (g:=fun j f=>if j<i then piV (fun j=>H.length+2+j) j f else .sl f.c f.p.length (ofBytes f.p)) (k:=0) hf
  rw [Nat.zero_add,if_neg (Nat.lt_irrefl i)] at a2
  have a2' : Q0h (fmG (fun j f=>if j<i then piV (fun j=>H.length+2+j) j f else .sl f.c f.p.length (ofBytes f.p)) 0 l) (0+i * 3+2)=some (.sl f.c f.p.length (ofBytes f.p)):=by rw [Nat.zero_add];exact a2
  have hout:=w2.out
  have hout' := bget_app (g:=[.blk (ofBytes f.p) true]) hout
  have h92:∀ {K:V→List B→Prop},K (.ms 1 G.length f.p.length 0 f.p.length false) (G++[.blk (ofBytes f.p) true])→CallP FB md 0 (.fn 61 []) [.sl f.c f.p.length (ofBytes f.p)] G K:=fun h=>Qkm (by omega) (by omega) h
  have hiw:IntKind.i64.wrap ((i:Int)+1)=((i+1:Nat):Int):=by rw [wrap_i64 (by omega) (by omega)];omega
  have hil:i≤l.length - 1:=by omega
  have hgl:=Q1h (g:=fun j f=>if j<i then piV (fun j=>H.length+2+j) j f else .sl f.c f.p.length (ofBytes f.p)) (k:=0) (l:=l)
  have hst:(fmG (fun j f=>if j<i then piV (fun j=>H.length+2+j) j f else .sl f.c f.p.length (ofBytes f.p)) 0 l).length=l.length * 3∧0+i * 3+2+1≤(fmG (fun j f=>if j<i then piV (fun j=>H.length+2+j) j f else .sl f.c f.p.length (ofBytes f.p)) 0 l).length:=⟨hgl,by rw [hgl];omega⟩
  have cn:=w2.next hf
  repeat' (first
 | (conv=>whnf)
   first
   | refine Bnd.eq hiw ?_
   | (refine Br.decT ?_ ?_;(focus first | assumption | omega))
   | refine fLen.mk ?_
   | refine fB.i0 ?_
   | refine h92 ?_
   | refine Get.mk _ hout ?_
   | refine Get.mk _ hout' ?_
   | refine Get.mk _ a2' ?_
   | refine Req.mk hgl ?_
   | refine Req.mk hst ?_
   | refine Idx.nat hil ?_
   | refine Req.mk hn0 ?_
   | refine fB.mk ?_
   | refine fV.mk ?_
   | (refine Req.mk ?_ ?_;(focus first | rfl | decide | exact ⟨rfl,rfl⟩ | exact ⟨rfl,by decide⟩ | exact (fun _=>rfl) | exact (fun h=>nomatch h) | (simp;done) | omega | (simp [big];done) | exact Q02 (by omega) | exact Q01 (by omega))))
  all_goals try (exfalso;omega;done)
  ·exact NextP.mk ⟨i+1,_⟩ ⟨hi,cn⟩ (by dsimp only;omega) (cn.norm hi (by rw [List.length_append];rfl))
 obtain rfl:i=l.length:=by omega
 have hl:=w2.len
 have ht:trunc H.length [.ms 3 (H.length+1) (l.length * 3) 0 l.length false] G=G:=by
  obtain ⟨i,hi⟩:∃ i,l.length=i+1:=⟨l.length - 1,by omega⟩
  refine Qaj (r:=H.length+2+i) (o:=H.length+1) (by omega) (by omega) w2.cl (fun k hk=>of_decide_eq_true hk) w2.out fun k hk => ?_
  have hk:blos k _=true:=hk
  have h2:=Q78 (i:=i) hk (List.getElem?_eq_getElem (by omega))
  rw [Nat.zero_add,if_pos (by omega)] at h2
  exact of_decide_eq_true h2
 repeat' (first
 | (conv=>whnf)
   first
   | (refine Br.decF ?_ ?_;(focus first | assumption | omega))
   | refine fLen.mk ?_
   | refine fB.i0 ?_
   | refine fB.mk ?_
   | refine Get.mk _ rfl ?_
   | refine Ends.of ?_)
 all_goals try (exfalso;omega;done)
 rw [ht]
 exact hk G w2.cl w2.old hl w2.fin
end Go.Dr.T
namespace Go.Dr.T
theorem Qda {NU:Nat→UInt8} {i:Nat} {p:List UInt8}:∀ {m:Nat},(cgM NU i p m).length≤m
 | 0=>Nat.le_refl _
 | m+1=>by
  have ih:=Qda (NU:=NU) (i:=i) (p:=p) (m:=m)
  rw [cgM]
  split
  ·omega
  ·rw [List.length_append]
   simp only [List.length_cons,List.length_nil]
   omega
set_option maxRecDepth 100000 in
theorem Qdd {NU:Nat→Nat→UInt8} {l:List Fm} (h:∀ f∈l,f.p.length≤2304):∀ {i:Nat},(cgA NU l i).length≤i * 2304
 | 0=>Nat.le_refl _
 | i+1=>by
  have ih:=Qdd (NU:=NU) h (i:=i)
  rw [cgA,List.length_append]
  cases hf:l[i]? with
  | none=>rw [Nat.add_mul];exact Nat.le_trans ih (Nat.le_add_right _ _)
  | some f =>
   have h1:=h f (List.mem_of_getElem? hf)
   have h2:=Qda (NU:=NU i) (i:=i) (p:=f.p) (m:=f.p.length)
   rw [Nat.add_mul]
   show _+(cgM (NU i) i f.p f.p.length).length≤_
   omega
def csT (NU:Nat→Nat→UInt8) (l:List Fm) (i m:Nat):List Cg:=cgA NU l i++cgM (NU i) i (pxL l i) m
theorem Qn3 {NU:Nat→Nat→UInt8} {l:List Fm} {i:Nat}:csT NU l i 0=cgA NU l i:=by unfold csT cgM;rw [List.append_nil]
theorem Qn1 {NU:Nat→Nat→UInt8} {l:List Fm} {i m:Nat} {f:Fm} (hf:l[i]?=some f) (e:NU i m=f.p.getD m 0):csT NU l i (m+1)=csT NU l i m:=by
 unfold csT
 rw [Q26 hf,cgM,if_pos e]
theorem Qkk {NU:Nat→Nat→UInt8} {l:List Fm} {i m:Nat} {f:Fm} (hf:l[i]?=some f) (e:¬ NU i m=f.p.getD m 0):csT NU l i (m+1)=csT NU l i m++[⟨i,m,f.p.getD m 0,NU i m⟩]:=by
 unfold csT
 rw [Q26 hf,cgM,if_neg e,List.append_assoc]
theorem Qn2 {NU:Nat→Nat→UInt8} {l:List Fm} {i:Nat} {f:Fm} (hf:l[i]?=some f):csT NU l i f.p.length=csT NU l (i+1) 0:=by
 rw [Qn3,Qn8 hf]
 unfold csT
 rw [Q26 hf]
theorem Qqy {NU:Nat→Nat→UInt8} {l:List Fm} {W H i m:Nat} (o:FOk l W H) (hi:i<l.length) (hm:m≤W * H):(csT NU l i m).length≤30000:=by
 have h1:=o.nn
 have h2:=o.n12
 have h3:=Qdd (NU:=NU) (l:=l) (fun f hf=>by rw [(o.all f hf).2.2];exact h1.2) (i:=i)
 have h4:=Qda (NU:=NU i) (i:=i) (p:=pxL l i) (m:=m)
 unfold csT
 rw [List.length_append]
 have:i * 2304≤11 * 2304:=Nat.mul_le_mul_right _ (by omega)
 omega
section
variable {M:Nat} {G:List B} {cs:List Cg} {v:V} {x:Cg}
theorem CL.new (hM:M≤G.length):CL M (G++[.blk (cgV x) true]) [x] (.ms 4 G.length (1 * 4) 0 1 false) :=
 .inr ⟨G.length,by omega,by simp,rfl,bget_new (i:=0)⟩
theorem CL.grow {q:Nat} {c:List V} (e:CL M G cs (.ms 4 q (cs.length * 4) 0 cs.length false)) (hc:c=cgC cs++cgV x):CL M (bset G q (.blk c true)) (cs++[x]) (.ms 4 q ((cs.length+1) * 4) 0 (cs.length+1) false):=by
 subst hc
 rcases e with ⟨_,h⟩ | ⟨q', h1,h2,h3,h4⟩
 ·cases h
 ·simp only [V.ms.injEq] at h3
  obtain ⟨_,rfl,_⟩:=h3
  exact .inr ⟨q,h1,by simp,by simp,by rw [bget_same (Q03 h4),Qn7]⟩
theorem CL.ms {cs:List Cg} {v:V} (e:CL M G cs v) (h:cs≠[]):∃ q,M≤q∧v = .ms 4 q (cs.length * 4) 0 cs.length false∧bget G q=some (.blk (cgC cs) true):=by
 rcases e with ⟨h1,_⟩ | ⟨q,h1,h2,h3,h4⟩
 ·exact absurd h1 h
 ·exact ⟨q,h1,h3,h4⟩
end
theorem Q5h {u:UInt8}:∀ {p:List UInt8} {m:Nat},over (ofBytes p) (0+m * 1) [.int .u8 u.toNat]=ofBytes (p.set m u):=by
 intro p m
 rw [Nat.zero_add,Nat.mul_one,Q68]
 induction p generalizing m with
 | nil=>cases m <;> rfl
 | cons x p ih =>
  cases m with
  | zero=>rfl
  | succ m=>simp only [ofBytes,List.set_cons_succ,ih]
theorem CL.frm {M:Nat} {G:List B} {cs:List Cg} {v:V} (e:CL M G cs v):v = .nilsl∨∃ q,v = .ms 4 q (cs.length * 4) 0 cs.length false:=by
 rcases e with ⟨_,h⟩ | ⟨q,_,_,h,_⟩
 ·exact .inl h
 ·exact .inr ⟨q,h⟩
structure EH (N M:Nat) (l:List Fm) (NU:Nat→Nat→UInt8) (o:Nat) (P:Nat→Nat) (i m:Nat) (v:V) (G:List B):Prop where
 cl:Cl G
 le:M≤G.length
 fh:FH N M l (mA NU l i m) o P G
 ch:CL M G (csT NU l i m) v
section
variable {N M:Nat} {l:List Fm} {NU:Nat→Nat→UInt8} {o:Nat} {P:Nat→Nat} {i m:Nat} {v:V} {G:List B} {f:Fm}
theorem EH.same (e:EH N M l NU o P i m v G) (hf:l[i]?=some f) (hm:m<f.p.length) (hE:NU i m=f.p.getD m 0):EH N M l NU o P i (m+1) v G :=
 ⟨e.cl,e.le,by rw [← Qq0 hf hm hE];exact e.fh,by rw [Qn1 hf hE];exact e.ch⟩
theorem EH.nextF (e:EH N M l NU o P i f.p.length v G) (hf:l[i]?=some f):EH N M l NU o P (i+1) 0 v G :=
 ⟨e.cl,e.le,by rw [← Qiy hf];exact e.fh,by rw [← Qn2 hf];exact e.ch⟩
theorem FH.cap {N M:Nat} {l:List Fm} {A:Nat→List UInt8} {o:Nat} {P:Nat→Nat} {h:List B} {k:Nat} (e:FH N M l A o P h) (hk:M≤k):FH N M l A o P (h.take k) :=
 ⟨e.oN,e.PN,e.inj,by have:=e.oN;rw [Q08 (by omega)];exact e.out,fun j hj=>by have:=e.PN j hj;rw [Q08 (by omega)];exact e.pic j hj,e.len⟩
theorem EH.take {k:Nat} (e:EH N M l NU o P i m v G) (hk:M≤k) (hv:k=G.length∨v.blo k=true) (c:Cl (G.take k)):EH N M l NU o P i m v (G.take k):=by
 rcases hv with rfl | hv
 ·rw [List.take_length];exact e
 ·exact ⟨c,by rw [List.length_take];have:=e.le;omega,e.fh.cap hk,e.ch.take hv⟩
theorem EH.norm {mk:List Bool} {tm:List V} {n j:Nat} (e:EH N M l NU o P i m v G) (hn:M≤n) (hn2:n≤G.length) (hv:tg (Q0r mk tm) j=v):EH N M l NU o P i m v (norm mk n ⟨tm,G⟩).h:=by
 obtain ⟨k,h1,h2,h3,h4⟩:=Q3t (mk:=mk) (tm:=tm) hn2 e.cl
 rw [h2]
 refine e.take (by omega) ?_ h3
 rcases h4 with h4 | h4
 ·exact .inl h4
 ·have:=Qdg (i:=j) h4
  rw [hv] at this
  exact .inr this
theorem EH.put0 {x:Cg} {c:List V} (e:EH N M l NU o P i m .nilsl G) (hf:l[i]?=some f) (hm:m<f.p.length) (hE:¬ NU i m=f.p.getD m 0) (hcs:csT NU l i m=[]) (hx:x=⟨i,m,f.p.getD m 0,NU i m⟩) (hc:c=cgV x):EH N M l NU o P i (m+1) (.ms 4 G.length (1 * 4) 0 1 false) (bset (G++[.blk c true]) (P i) (.blk (ofBytes ((mA NU l i m i).set m (NU i m))) true)):=by
 subst hc
 have hi:=(List.getElem?_eq_some_iff.1 hf).1
 have hP:=e.fh.PN i hi
 have hl:(G++[B.blk (cgV x) true]).length=G.length+1:=by rw [List.length_append];rfl
 have hle:=e.le
 refine ⟨(Q1z (A:=[.blk (cgV x) true]) e.cl ⟨rfl,trivial⟩).set rfl,by rw [bset_len,hl];omega,?_,?_⟩
 ·rw [← Qod hf hm]
  exact (e.fh.app (g:=[.blk (cgV x) true])).put hi
 ·rw [Qkk hf hE,hcs, ← hx]
  exact (CL.new hle).other hP.2.1
theorem EH.putS {x:Cg} {q:Nat} {c:List V} (e:EH N M l NU o P i m (.ms 4 q ((csT NU l i m).length * 4) 0 (csT NU l i m).length false) G) (hf:l[i]?=some f) (hm:m<f.p.length) (hE:¬ NU i m=f.p.getD m 0) (hq:M≤q) (hx:x=⟨i,m,f.p.getD m 0,NU i m⟩) (hc:c=cgC (csT NU l i m)++cgV x):EH N M l NU o P i (m+1) (.ms 4 q (((csT NU l i m).length+1) * 4) 0 ((csT NU l i m).length+1) false) (bset (bset (G++[.unborn]) q (.blk c true)) (P i) (.blk (ofBytes ((mA NU l i m i).set m (NU i m))) true)):=by
 have hi:=(List.getElem?_eq_some_iff.1 hf).1
 have hP:=e.fh.PN i hi
 have hl:(G++[B.unborn]).length=G.length+1:=by rw [List.length_append];rfl
 have hle:=e.le
 refine ⟨((Q1z (A:=[.unborn]) e.cl ⟨rfl,trivial⟩).set rfl).set rfl,by rw [bset_len,bset_len,hl];omega,?_,?_⟩
 ·rw [← Qod hf hm]
  exact ((e.fh.app (g:=[.unborn])).other (.inr hq)).put hi
 ·rw [Qkk hf hE, ← hx]
  exact ((e.ch.app (g:=[.unborn])).grow hc).other hP.2.1
end
end Go.Dr.T
