/- Top, of chapter 08: films that are cloned: the program's, and the reference's copy. -/
import Derived.Test.YtbnmdlnkhghbpaaGreatDoorR19Gd
set_option maxRecDepth 100000
set_option maxHeartbeats 20000000
namespace Go.Dr.T
theorem Qn0 {c:Bool} {n:Nat} {cs:List V} (h:n≠0):eqv2 3 (.sl c n cs) .nilsl=some false:=by
 cases n with
 | zero=>exact absurd rfl h
 | succ n=>rfl
theorem Qh0 {n:Nat} (h:n≤100):(([]:List V).length+n)*(40+1)<big:=by
 unfold big
 simp
 omega
theorem Qtl {n:Nat} (h:n≤2304):(([]:List V).length+n)*(1+1)<big:=by
 unfold big
 simp
 omega
theorem Qah {H g:List B} {v:V} {k:Nat} (hg:g.length=k+1) (hv:v.blo (H.length+k)=false):trunc H.length [v] (H++g)=H++g:=by
 unfold trunc
 rw [jD,Nat.add_sub_cancel_left,hg]
 unfold Q1k
 have:blos (H.length+k) [v]=false:=by simp only [blos,hv,Bool.false_and]
 rw [this,Bool.false_and]
 rfl
theorem Quq {H:List B} {c:Bool} {l:List Fm} {K:V→List B→Prop} (h0:0<l.length) (h12:l.length≤12) (hk:K (.ms 3 (H.length+1) (l.length*3) 0 l.length false) (H++[.unborn,.blk (fmC l) false])):CallP FB md 0 (.fn 61 []) [.sl c l.length (fmC l)] H K:=by
 have h0':l.length≠0:=by omega
 have hbig:(([]:List V).length+(fmC l).length)*(40+1)<big:=Qh0 (by rw [Q0e];omega)
 have e1:([]:List V).length+(fmC l).length=l.length*3:=by rw [Q0e];simp
 have e2:0+l.length=l.length:=Nat.zero_add _
 refine Q16 rfl rfl rfl ?_
 repeat' ((conv=>whnf);first|refine Br.f ?_|refine Get.mk _ (Qn0 h0') ?_|refine fLen.mk ?_|refine fB.i2 ?_|refine fB.i0 ?_|refine Req.mk ⟨rfl,bget_new (i:=1)⟩ ?_|refine Req.mk (Q0e _) ?_|refine Ifz.pos h0' ?_|refine Req.mk hbig ?_|refine Get.newj 1 rfl rfl ?_|refine fB.newj 1 rfl ?_|refine fB.mk ?_|refine Get.mk _ rfl ?_|refine Ends.of ?_|refine zR ?_)
 all_goals try (exfalso;omega)
 rw [e1,e2,Qah (k:=1) rfl (by simp [V.blo])]
 exact hk
theorem Qnp {H:List B} {c:Bool} {p:List UInt8} {K:V→List B→Prop} (h0:0<p.length) (h12:p.length≤2304) (hk:K (.ms 1 H.length p.length 0 p.length false) (H++[.blk (ofBytes p) true])):CallP FB md 0 (.fn 62 []) [.sl c p.length (ofBytes p)] H K:=by
 have h0':p.length≠0:=by omega
 have hl:=Q0j p
 have hbig:(([]:List V).length+(ofBytes p).length)*(1+1)<big:=Qtl (by omega)
 have e1:([]:List V).length+(ofBytes p).length=p.length:=by rw [hl];simp
 have e2:0+p.length=p.length:=Nat.zero_add _
 have hl1:(ofBytes p).length=p.length*1:=by omega
 have hsc:=Q7s p
 refine Q16 rfl rfl rfl ?_
 repeat' ((conv=>whnf);first|refine Br.f ?_|refine Get.mk _ (Qn0 h0') ?_|refine fLen.mk ?_|refine fB.i1 ?_|refine fB.i0 ?_|refine Req.mk ⟨rfl,bget_new (i:=0)⟩ ?_|refine Req.mk hl1 ?_|refine Req.mk (fun _=>hsc) ?_|refine Ifz.pos h0' ?_|refine Req.mk hbig ?_|refine Get.newj 0 rfl rfl ?_|refine fB.newj 0 rfl ?_|refine fB.mk ?_|refine Get.mk _ rfl ?_|refine Ends.of ?_|refine zR ?_)
 all_goals try (exfalso;omega)
 rw [e1,e2,Qah (k:=0) rfl (by simp [V.blo])]
 exact hk
def pxL (l:List Fm) (j:Nat):List UInt8 :=
 match l[j]? with
 | some f=>f.p
 | none=>[]
theorem Q25 {l:List Fm} {j:Nat} {f:Fm} (h:l[j]?=some f):pxL l j=f.p:=by unfold pxL;rw [h]
theorem pxL_mA {NU:Nat→Nat→UInt8} {l:List Fm}:pxL l=mA NU l 0 0:=by
 funext j
 unfold pxL mA
 cases l[j]? with
 | none=>rfl
 | some f =>
  dsimp only
  rw [if_neg (Nat.not_lt_zero _)]
  split
  ·rfl
  ·rfl
structure GA where
 i:Nat
 G:List B
structure CK (H:List B) (l:List Fm) (i:Nat) (G:List B):Prop where
 cl:Cl G
 len:G.length=H.length+2+i
 out:bget G (H.length+1)=some (.blk (fmG (fun j f=>if j<i then piV (fun j=>H.length+2+j) j f else .sl f.c f.p.length (ofBytes f.p)) 0 l) false)
 pic:∀ j f,j<i→l[j]?=some f→bget G (H.length+2+j)=some (.blk (ofBytes f.p) true)
 old:∀ m b,bget H m=some b→bget G m=some b
theorem CK.start {H:List B} {l:List Fm} (c:Cl H):CK H l 0 (H++[.unborn,.blk (fmC l) false]):=by
 have e:fmC l=fmG (fun j f=>if j<0 then piV (fun j=>H.length+2+j) j f else .sl f.c f.p.length (ofBytes f.p)) 0 l:=by
  rw [Qpx (k:=0)]
  exact Q6h fun j f _=>by rw [if_neg (Nat.not_lt_zero _)]
 refine ⟨Q27 c ⟨rfl,?_,trivial⟩,by rw [jD];rfl,by rw [← e];exact bget_new (i:=1),fun j f hj=>absurd hj (Nat.not_lt_zero _),fun m b h=>Q01 h⟩
 show (false||blos _ (fmC l))=true
 rw [Bool.false_or,Qpx (k:=0)]
 exact Qbb fun j f _=>rfl
theorem CK.next {H:List B} {l:List Fm} {i:Nat} {G:List B} {f:Fm} (c:CK H l i G) (hf:l[i]?=some f):CK H l (i+1) (bset (G++[.blk (ofBytes f.p) true]) (H.length+1) (.blk (over (fmG (fun j f=>if j<i then piV (fun j=>H.length+2+j) j f else .sl f.c f.p.length (ofBytes f.p)) 0 l) (0+i*3+2) [.ms 1 G.length f.p.length 0 f.p.length false]) false)):=by
 have hl:=c.len
 have hi:=(jB.1 hf).1
 have ho:=Q05 c.out
 have e:over (fmG (fun j f=>if j<i then piV (fun j=>H.length+2+j) j f else .sl f.c f.p.length (ofBytes f.p)) 0 l) (0+i*3+2) [.ms 1 G.length f.p.length 0 f.p.length false]=fmG (fun j f=>if j<i+1 then piV (fun j=>H.length+2+j) j f else .sl f.c f.p.length (ofBytes f.p)) 0 l:=by
  rw [Nat.zero_add,Qms hi]
  refine Q6h fun j u hu=>?_
  rw [Nat.zero_add]
  by_cases e:j=i
  ·subst e
   rw [hf] at hu
   cases hu
   rw [if_pos (by omega),if_pos (by omega)]
   unfold piV
   rw [hl]
  ·rw [if_neg (by omega)]
   by_cases e2:j<i
   ·rw [if_pos e2,if_pos (by omega)]
   ·rw [if_neg e2,if_neg (by omega)]
 rw [e]
 have hlen:(G++[B.blk (ofBytes f.p) true]).length=H.length+2+(i+1):=by rw [jD,hl];rfl
 refine ⟨(c.cl.app (b:=.blk (ofBytes f.p) true) rfl).set ?_,by rw [Q03,hlen],Q0b (by rw [hlen];omega),fun j u hj hu=>?_,fun m b h=>?_⟩
 ·rw [hlen]
  show (false||blos _ _)=true
  rw [Bool.false_or]
  refine Qbb fun j u _=>?_
  split
  ·refine decide_eq_true ?_
   show H.length+2+(0+j)<_
   omega
  ·rfl
 ·rw [Q02 (by omega)]
  by_cases e:j=i
  ·subst e
   rw [hf] at hu
   cases hu
   rw [← hl]
   exact bget_new (i:=0)
  ·exact Q01 (c.pic j u (by omega) hu)
 ·have:=Q05 h
  rw [Q02 (by omega)]
  exact Q01 (c.old m b h)
theorem CK.norm {H:List B} {l:List Fm} {i:Nat} {G:List B} {mk:List Bool} {tm:List V} (c:CK H l (i+1) G) (hi:i<l.length) {n:Nat} (hn:n=H.length+2):norm mk n ⟨tm,G⟩=⟨Q0m mk tm,G⟩:=by
 have hl:=c.len
 refine Qpd (r:=H.length+2+i) (o:=H.length+1) (by omega) (by omega) (by omega) c.out fun k hk=>?_
 have hk:blos k _=true:=hk
 have h2:=Qba (i:=i) hk (jC hi)
 rw [Nat.zero_add,if_pos (by omega)] at h2
 exact of_decide_eq_true h2
theorem CK.fin {H:List B} {l:List Fm} {G:List B} (c:CK H l l.length G):FH H.length G.length l (pxL l) (H.length+1) (fun j=>H.length+2+j) G:=by
 have hl:=c.len
 refine ⟨by omega,fun j hj=>by omega,fun i j _ _ h=>by omega,?_,fun j hj=>?_,fun j f hf=>by rw [Q25 hf]⟩
 ·rw [c.out]
  congr 2
  exact Q6h fun j f hf=>by
   have:=(jB.1 hf).1
   rw [Nat.zero_add,if_pos this]
 ·have hf:=jC hj
  rw [Q25 hf]
  exact c.pic j _ hj hf
theorem Q7n {n r o:Nat} {h:List B} {v:V} {b:B} (hr:h.length=r+1) (hn:n≤r) (hc:Cl h) (hv:∀ k,v.blo k=true→o<k) (hb:bget h o=some b) (hbv:∀ k,b.blo k=true→r<k):trunc n [v] h=h:=by
 obtain ⟨k,h1,h2,h3,h4⟩:=Q19 (n:=n) (tm:=[v]) (h:=h) (by omega) hc
 rw [h2]
 rcases h4 with h4|h4
 ·rw [h4,List.take_length]
 ·simp only [blos,Bool.and_true] at h4
  have ho:=hv k h4
  have hb':bget (h.take k) o=some b:=by rw [Q09 ho];exact hb
  have:=hbv _ (Q08 h3 (Q0p hb'))
  rw [jQ] at this
  exact List.take_of_length_le (by omega)
theorem Q6m {H:List B} {c:Bool} {l:List Fm} {W Hh:Nat} {K:V→List B→Prop} (o:FOk l W Hh) (hc:Cl H) (hk:∀ G,Cl G→(∀ m b,bget H m=some b→bget G m=some b)→G.length=H.length+2+l.length→FH H.length G.length l (pxL l) (H.length+1) (fun j=>H.length+2+j) G→K (.ms 3 (H.length+1) (l.length*3) 0 l.length false) G):CallP FB md 0 (.fn 28 []) [.sl c l.length (fmC l)] H K:=by
 have hn0:=o.n0
 have hn12:=o.n12
 have hnn:=o.nn
 have h91:∀ {K:V→List B→Prop},K (.ms 3 (H.length+1) (l.length*3) 0 l.length false) (H++[.unborn,.blk (fmC l) false])→CallP FB md 0 (.fn 61 []) [.sl c l.length (fmC l)] H K:=fun h=>Quq hn0 hn12 h
 refine Q16 rfl rfl rfl ?_
 repeat' ((conv=>whnf);first|refine fLen.mk ?_|refine fB.i0 ?_|refine h91 ?_)
 all_goals try (exfalso;omega)
 refine LoopP.by (fun a:GA=>a.i≤l.length∧CK H l a.i a.G) (fun a=>[(8,.int .i64 (a.i:Nat))]) (fun a=>a.G) (fun a=>l.length-a.i) ⟨0,_⟩ ⟨Nat.zero_le _,CK.start hc⟩ rfl ?_
 rintro ⟨i,G⟩ ⟨w1,w2⟩
 dsimp only at w1 w2 ⊢
 by_cases hi:i<l.length
 ·obtain ⟨f,hf,_,_,hfp⟩:=o.at hi
  obtain ⟨_,_,a2⟩:=Qf1 (g:=fun j f=>if j<i then piV (fun j=>H.length+2+j) j f else .sl f.c f.p.length (ofBytes f.p)) (k:=0) hf
  rw [Nat.zero_add,if_neg (Nat.lt_irrefl i)] at a2
  have a2':Q0h (fmG (fun j f=>if j<i then piV (fun j=>H.length+2+j) j f else .sl f.c f.p.length (ofBytes f.p)) 0 l) (0+i*3+2)=some (.sl f.c f.p.length (ofBytes f.p)):=by rw [Nat.zero_add];exact a2
  have hout:=w2.out
  have hout':=Q01 (g:=[.blk (ofBytes f.p) true]) hout
  have h92:∀ {K:V→List B→Prop},K (.ms 1 G.length f.p.length 0 f.p.length false) (G++[.blk (ofBytes f.p) true])→CallP FB md 0 (.fn 62 []) [.sl f.c f.p.length (ofBytes f.p)] G K:=fun h=>Qnp (by omega) (by omega) h
  have hiw:IntKind.i64.wrap ((i:Int)+1)=((i+1:Nat):Int):=by rw [wrap_i64 (by omega) (by omega)];omega
  have hil:i≤l.length-1:=by omega
  have hgl:=Q1p (g:=fun j f=>if j<i then piV (fun j=>H.length+2+j) j f else .sl f.c f.p.length (ofBytes f.p)) (k:=0) (l:=l)
  have hst:(fmG (fun j f=>if j<i then piV (fun j=>H.length+2+j) j f else .sl f.c f.p.length (ofBytes f.p)) 0 l).length=l.length*3∧0+i*3+2+1≤(fmG (fun j f=>if j<i then piV (fun j=>H.length+2+j) j f else .sl f.c f.p.length (ofBytes f.p)) 0 l).length:=⟨hgl,by rw [hgl];omega⟩
  have cn:=w2.next hf
  repeat' ((conv=>whnf);first|refine Bnd.eq hiw ?_|refine zT ?_|refine fLen.mk ?_|refine fB.i0 ?_|refine h92 ?_|refine Get.mk _ hout ?_|refine Get.mk _ hout' ?_|refine Get.mk _ a2' ?_|refine Req.mk hgl ?_|refine Req.mk hst ?_|refine Idx.nat hil ?_|refine Req.mk hn0 ?_|refine fB.mk ?_|refine fV.mk ?_|refine zR ?_)
  all_goals try (exfalso;omega)
  ·exact NextP.mk ⟨i+1,_⟩ ⟨hi,cn⟩ (by dsimp only;omega) (cn.norm hi (by rw [jD];rfl))
 obtain rfl:i=l.length:=by omega
 have hl:=w2.len
 have ht:trunc H.length [.ms 3 (H.length+1) (l.length*3) 0 l.length false] G=G:=by
  obtain ⟨i,hi⟩:∃ i,l.length=i+1:=⟨l.length-1,by omega⟩
  refine Q7n (r:=H.length+2+i) (o:=H.length+1) (by omega) (by omega) w2.cl (fun k hk=>of_decide_eq_true hk) w2.out fun k hk=>?_
  have hk:blos k _=true:=hk
  have h2:=Qba (i:=i) hk (jC (by omega))
  rw [Nat.zero_add,if_pos (by omega)] at h2
  exact of_decide_eq_true h2
 repeat' ((conv=>whnf);first|refine zF ?_|refine fLen.mk ?_|refine fB.i0 ?_|refine fB.mk ?_|refine Get.mk _ rfl ?_|refine Ends.of ?_)
 all_goals try (exfalso;omega)
 rw [ht]
 exact hk G w2.cl w2.old hl w2.fin
end Go.Dr.T
namespace Go.Dr.T
def shB (e k:Int) (j:Nat):UInt8:=UInt8.ofNat (IntKind.u8.wrap (16*e+k+j)).toNat
theorem shB_n {e k:Int} {j:Nat}:(((shB e k j).toNat:Nat):Int)=IntKind.u8.wrap (16*e+k+j):=by
 have h:∀ z:Int,0≤IntKind.u8.wrap z∧IntKind.u8.wrap z<256:=fun z=>by
  have e:IntKind.u8.wrap z=z%256:=rfl
  rw [e]
  exact ⟨Int.emod_nonneg _ (by decide),Int.emod_lt_of_pos _ (by decide)⟩
 obtain ⟨h1,h2⟩:=h (16*e+k+j)
 unfold shB
 generalize IntKind.u8.wrap (16*e+k+j)=z at *
 rw [UInt8.toNat_ofNat_of_lt' (by show z.toNat<256;omega)]
 omega
def shL (e k:Int) (n:Nat):List UInt8:=(List.range n).map (shB e k)
theorem Qe5 {e k:Int} {n:Nat}:(shL e k n).length=n:=by simp [shL]
theorem Qp1 {e k:Int} {n:Nat}:shL e k (n+1)=shL e k n++[shB e k n]:=by simp [shL,List.range_succ]
theorem ofBytes_snoc:∀ {l:List UInt8} {b:UInt8},ofBytes (l++[b])=ofBytes l++[.int .u8 (b.toNat:Nat)]
 | [],_=>rfl
 | _::l,b=>by simp only [List.cons_append,ofBytes,ofBytes_snoc (l:=l)]
structure PX (W H:Nat) (L:List UInt8) (v:V) (G:List B):Prop where
 cl:Cl G
 le:2≤G.length
 b0:bget G 0=some (.blk [.int .i64 0,.int .i64 0,.nilsl] false)
 b1:bget G 1=some (.blk [.int .i64 (W:Nat),.int .i64 (H:Nat),v] false)
 px:(L=[]∧v=.nilsl)∨∃ q,2≤q∧L≠[]∧v=.ms 1 q L.length 0 L.length false∧bget G q=some (.blk (ofBytes L) true)
section
variable {W H:Nat} {L:List UInt8} {v:V} {G:List B}
theorem PX.norm {mk:List Bool} {tm:List V} (e:PX W H L v G):PX W H L v (norm mk 2 ⟨tm,G⟩).h:=by
 obtain ⟨k,h1,h2,h3,_⟩:=Q4k (mk:=mk) (tm:=tm) e.le e.cl
 have hl:=e.le
 rw [h2]
 show PX W H L v (G.take k)
 refine ⟨h3,by rw [jQ];omega,by rw [Q09 (by omega)];exact e.b0,by rw [Q09 (by omega)];exact e.b1,?_⟩
 rcases e.px with h|⟨q,q2,hL,rfl,hq⟩
 ·exact .inl h
 ·have hb:=Q3d h3 ((Q09 (by omega)).trans e.b1)
  have hqk:q<k:=by
   have h4:B.blo (G.take k).length (.blk [.int .i64 (W:Nat),.int .i64 (H:Nat),.ms 1 q L.length 0 L.length false] false)=true:=hb
   rw [jQ] at h4
   simp [B.blo,blos,V.blo] at h4
   omega
  exact .inr ⟨q,q2,hL,rfl,by rw [Q09 hqk];exact hq⟩
theorem PX.first {b:UInt8} (e:PX W H [] .nilsl G):PX W H [b] (.ms 1 G.length 1 0 1 false) (bset (G++[.blk (ofBytes [b]) true]) 1 (.blk [.int .i64 (W:Nat),.int .i64 (H:Nat),.ms 1 G.length 1 0 1 false] false)):=by
 have hl:=e.le
 have hX:hasc G.length [B.blk (ofBytes [b]) true]:=⟨rfl,trivial⟩
 have hn:(G++[B.blk (ofBytes [b]) true]).length=G.length+1:=by rw [jD];rfl
 refine ⟨(Q27 e.cl hX).set (by rw [hn];simp [B.blo,blos,V.blo]),by rw [Q03,hn];omega,?_,Q0b (by rw [hn];omega),.inr ⟨G.length,by omega,by simp,rfl,?_⟩⟩
 ·rw [Q02 (by omega)];exact Q01 e.b0
 ·rw [Q02 (by omega)];exact bget_new (i:=0)
theorem PX.more {b:UInt8} {q n:Nat} (e:PX W H L (.ms 1 q L.length 0 L.length false) G) (hn:n=L.length+1):PX W H (L++[b]) (.ms 1 q n 0 n false) (bset (bset (G++[.unborn]) q (.blk (ofBytes L++[.int .u8 (b.toNat:Nat)]) true)) 1 (.blk [.int .i64 (W:Nat),.int .i64 (H:Nat),.ms 1 q n 0 n false] false)):=by
 subst hn
 have hl:=e.le
 rcases e.px with ⟨_,h⟩|⟨q',q2,hL,h,hq⟩
 ·cases h
 cases h
 have hql:=Q05 hq
 rw [← ofBytes_snoc]
 have hX:hasc G.length [B.unborn]:=⟨rfl,trivial⟩
 have hnn:(G++[B.unborn]).length=G.length+1:=by rw [jD];rfl
 have c1:Cl (bset (G++[.unborn]) q (.blk (ofBytes (L++[b])) true)):=(Q27 e.cl hX).set rfl
 refine ⟨c1.set (by rw [Q03,hnn];simp [B.blo,blos,V.blo];omega),by rw [Q03,Q03,hnn];omega,?_,Q0b (by rw [Q03,hnn];omega),.inr ⟨q,q2,by simp,by rw [jD];rfl,?_⟩⟩
 ·rw [Q02 (by omega),Q02 (by omega)];exact Q01 e.b0
 ·rw [Q02 (by omega)];exact Q0b (by rw [hnn];omega)
end
structure PS where
 j:Nat
 v:V
 G:List B
theorem Qkn {W H:Nat} {e k:Int} (h1:1≤W∧W≤7) (h2:1≤H∧H≤7) (he:0≤e∧e≤1000000) (hk:0≤k∧k≤1000000):Fun FB md 6 [.int .i64 (W:Nat),.int .i64 (H:Nat),.int .i64 e,.int .i64 k] (.agg [.int .i64 (W:Nat),.int .i64 (H:Nat),.sl false (shL e k (W*H)).length (ofBytes (shL e k (W*H)))]):=by
 have hWH:W*H≤7*7:=Nat.mul_le_mul h1.2 h2.2
 have hWH1:1*1≤W*H:=Nat.mul_le_mul h1.1 h2.1
 have hm:IntKind.i64.wrap ((W:Int)*(H:Int))=((W*H:Nat):Int):=by
  rw [← Int.natCast_mul]
  exact wrap_i64 (by omega) (by omega)
 refine Q04 rfl rfl ?_
 repeat' ((conv=>whnf);first|refine Get.mk _ rfl ?_|refine zR ?_)
 all_goals try (exfalso;omega)
 refine LoopP.by (fun x:PS=>x.j≤W*H∧PX W H (shL e k x.j) x.v x.G) (fun x=>[(10,.int .i64 (x.j:Nat))]) (fun x=>x.G) (fun x=>W*H-x.j) ⟨0,.nilsl,_⟩ ⟨Nat.zero_le _,?_,?_,rfl,rfl,.inl ⟨rfl,rfl⟩⟩ rfl ?_
 ·rfl
 ·exact Nat.le_of_ble_eq_true rfl
 rintro ⟨j,v,G⟩ ⟨u1,u2⟩
 dsimp only at u1 u2 ⊢
 have d0:=u2.b0
 have d1:=u2.b1
 have hl:=u2.le
 have hj1:IntKind.i64.wrap ((j:Int)+1)=((j+1:Nat):Int):=by rw [wrap_i64 (by omega) (by omega)];omega
 have hs1:j<W*H→IntKind.i64.wrap (16*e+k+(j:Int))=16*e+k+j:=fun hj=>wrap_i64 (by omega) (by omega)
 have hb:=(shB_n (e:=e) (k:=k) (j:=j)).symm
 have hLl:=Qe5 (e:=e) (k:=k) (n:=j)
 have hsn:=Qp1 (e:=e) (k:=k) (n:=j)
 by_cases hj:j<W*H
 ·replace hs1:=hs1 hj
  rcases u2.px with ⟨e1,rfl⟩|⟨q,q2,hL,rfl,hq⟩
  ·repeat' ((conv=>whnf);first|refine Bnd.eq hb ?_|refine Bnd.eq hs1 ?_|refine Bnd.eq hm ?_|refine Bnd.eq hj1 ?_|refine zT ?_|refine zB ?_|refine fLen.mk ?_|refine fB.i0 ?_|refine fB.i1 ?_|refine Get.mk _ (Q01 d1) ?_|refine Req.mk (bget_new (i:=0)) ?_|refine Get.newj 0 rfl rfl ?_|refine fB.newj 0 rfl ?_|refine fB.mk ?_|refine zZ ?_|refine Get.mk _ rfl ?_|refine zR ?_)
   all_goals try (exfalso;omega)
   have hf:=(e1▸u2:PX W H [] .nilsl G).first (b:=shB e k j)
   have hf:PX W H (shL e k (j+1)) (.ms 1 G.length 1 0 1 false) (bset (G++[.blk (ofBytes [shB e k j]) true]) 1 (.blk [.int .i64 (W:Nat),.int .i64 (H:Nat),.ms 1 G.length 1 0 1 false] false)):=by rw [hsn,e1];exact hf
   exact NextP.of (fun h=>PS.mk (j+1) (.ms 1 G.length 1 0 1 false) h) ⟨hj,hf.norm⟩ (by dsimp only;omega) rfl
  ·have hql:=Q05 hq
   have hsz:∀ a:V,0+(shL e k j).length*1=(shL e k j).length∧((ofBytes (shL e k j)).length+[a].length)*(1+1)<big:=fun a=>⟨by omega,by rw [Q0j,hLl];unfold big;simp;omega⟩
   have hsc:∀ b:UInt8,true=true→scalars [.int .u8 (b.toNat:Nat)]=true:=fun b _=>rfl
   have hd1:∀ z:B,bget (bset (G++[B.unborn]) q z) (0+1)=_:=fun z=>(Q02 (by omega)).trans (Q01 d1)
   have hob:(ofBytes (shL e k j)).length=(shL e k j).length:=Q0j _
   repeat' ((conv=>whnf);first|refine Bnd.eq hb ?_|refine Bnd.eq hs1 ?_|refine Bnd.eq hm ?_|refine Bnd.eq hj1 ?_|refine zT ?_|refine zB ?_|refine fLen.mk ?_|refine fB.i0 ?_|refine fB.i1 ?_|refine Get.mk _ (Q01 d1) ?_|refine Get.mk _ (Q01 hq) ?_|refine Req.mk hob ?_|refine Req.mk (hsz _) ?_|refine Req.mk (hsc _) ?_|refine Get.mk _ (hd1 _) ?_|refine fB.mk ?_|refine zZ ?_|refine Get.mk _ rfl ?_|refine zR ?_)
   all_goals try (exfalso;omega)
   have hf:=u2.more (b:=shB e k j) (n:=(shL e k j).length+1) rfl
   rw [← hsn] at hf
   exact NextP.of (fun h=>PS.mk (j+1) (.ms 1 q ((shL e k j).length+1) 0 ((shL e k j).length+1) false) h) ⟨hj,hf.norm⟩ (by dsimp only;omega) rfl
 ·obtain rfl:j=W*H:=by omega
  rcases u2.px with ⟨e1,rfl⟩|⟨q,q2,hL,rfl,hq⟩
  ·rw [e1] at hLl
   exact absurd hLl (by simp;omega)
  ·repeat' ((conv=>whnf);first|refine Bnd.eq hm ?_|refine zF ?_|refine fLen.mk ?_|refine fB.i0 ?_|refine Get.mk _ d0 ?_|refine Get.mk _ d1 ?_|refine fB.mk ?_|refine Get.mk _ rfl ?_|refine Leaves.of ?_|refine zR ?_)
   all_goals try (exfalso;omega)
   have hb0:bget (bset G (0+0) (.blk [.int .i64 (W:Nat),.int .i64 (H:Nat),.ms 1 q (shL e k (W*H)).length 0 (shL e k (W*H)).length false] false)) 0=some (.blk [.int .i64 (W:Nat),.int .i64 (H:Nat),.ms 1 q (shL e k (W*H)).length 0 (shL e k (W*H)).length false] false):=Q0b (by omega)
   refine Get.mk (.agg [.int .i64 (W:Nat),.int .i64 (H:Nat),.ms 1 q (shL e k (W*H)).length 0 (shL e k (W*H)).length false]) ?_ ?_
   ·show Q0s _ [.cell 8 true 3]=_
    simp only [Q0s,results]
    rw [show ∀ (a b c d f:V) (l:List V),tg (a::b::c::d::.dead::.dead::.dead::.dead::f::l) 8=f from fun _ _ _ _ _ _=>rfl]
    simp only [hb0]
    rfl
   ·exact Vw.agg (VwL.cons (Vw.int rfl) (VwL.cons (Vw.int rfl) (VwL.cons (Vw.bytes (by rw [Q02 (by omega)];exact hq) rfl rfl rfl rfl) VwL.nil)))
end Go.Dr.T
