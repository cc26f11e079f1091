/- Top: Run, called with a film and steps of the caller's own, in the caller's blocks. -/
import Derived.Test.YthoefcibbdfakaaGreatDoorR18Gj
namespace Go.Dr.T
theorem CallP.tab {F H:Nat→Option Fc} {md:Nat→Nat} (hFG:Sub' F H) {ro:Nat} {fv:V} {as:List V} {hh:List B} {K:V→List B→Prop} (h:CallP F md ro fv as hh K):CallP H md ro fv as hh K:=by
 obtain ⟨v,h', ⟨n,e⟩,hk⟩:=h
 exact ⟨v,h', ⟨n,fun m hm=>Q8u hFG (Q9a hFG m) ro _ _ _ _ (e m hm)⟩,hk⟩
theorem Qmq {id g off n:Nat} {clip:Bool}:eqv2 3 (.ms 3 id g off n clip) .nilsl=some false:=rfl
set_option maxRecDepth 100000 in
set_option maxHeartbeats 20000000 in
theorem Qn5 {H:List B} {fid:Nat} {l:List Fm} {K:V→List B→Prop} (h0:0<l.length) (h12:l.length≤12) (hb:bget H fid=some (.blk (fmC l) false)) (hk:K (.ms 3 (H.length+1) (l.length * 3) 0 l.length false) (H++[.unborn,.blk (fmC l) false])):CallP FB md 0 (.fn 60 []) [.ms 3 fid (l.length * 3) 0 l.length false] H K:=by
 have h0' : l.length≠0:=by omega
 have hbig:(([]:List V).length+(fmC l).length) * (40+1)<big:=Qeq (by rw [Q0c];omega)
 have e1:([]:List V).length+(fmC l).length=l.length * 3:=by rw [Q0c];simp
 have e2:0+l.length=l.length:=Nat.zero_add _
 have hpt:part (fmC l) 0 (l.length * 3)=some (fmC l):=Q13 (Q0c _)
 refine Q11 rfl rfl rfl ?_
 repeat' (first
 | (conv=>whnf)
   first
   | refine Br.f ?_
   | refine Get.mk _ (Qmq) ?_
   | refine Get.mk _ (bget_app hb) ?_
   | refine Get.mk _ hpt ?_
   | refine fLen.mk ?_
   | refine fB.i2 ?_
   | refine fB.i0 ?_
   | refine Req.mk ⟨rfl,bget_new (i:=1)⟩ ?_
   | refine Req.mk (Q0c _) ?_
   | refine Ifz.pos h0' ?_
   | refine Req.mk hbig ?_
   | refine Get.newj 1 rfl rfl ?_
   | refine fB.newj 1 rfl ?_
   | refine fB.mk ?_
   | refine Get.mk _ rfl ?_
   | refine Ends.of ?_
   | (refine Req.mk ?_ ?_;(focus first | rfl | decide | exact ⟨rfl,rfl⟩ | exact ⟨rfl,by decide⟩ | exact (fun _=>rfl) | exact (fun h=>nomatch h) | (simp;done) | omega | (simp [big];done) | exact Q02 (by omega) | exact Q01 (by omega))))
 all_goals try (exfalso;omega;done)
 rw [e1,e2,Q91 (k:=1) rfl (by simp [V.blo])]
 exact hk
set_option maxRecDepth 100000 in
set_option maxHeartbeats 20000000 in
theorem Qd8 {H:List B} {fid:Nat} {l:List Fm} {W Hh:Nat} {K:V→List B→Prop} (o:FOk l W Hh) (hc:Cl H) (hb:bget H fid=some (.blk (fmC l) false)) (hk:∀ G,Cl G→(∀ m b,bget H m=some b→bget G m=some b)→G.length=H.length+2+l.length→FH H.length G.length l (pxL l) (H.length+1) (fun j=>H.length+2+j) G→K (.ms 3 (H.length+1) (l.length * 3) 0 l.length false) G):CallP FB md 0 (.fn 38 []) [.ms 3 fid (l.length * 3) 0 l.length false] H K:=by
 have hn0:=o.n0
 have hn12:=o.n12
 have hnn:=o.nn
 have h91:∀ {K:V→List B→Prop},K (.ms 3 (H.length+1) (l.length * 3) 0 l.length false) (H++[.unborn,.blk (fmC l) false])→CallP FB md 0 (.fn 60 []) [.ms 3 fid (l.length * 3) 0 l.length false] H K:=fun h=>Qn5 hn0 hn12 hb h
 refine Q11 rfl rfl rfl ?_
 repeat' (first
 | (conv=>whnf)
   first
   | refine fLen.mk ?_
   | refine fB.i0 ?_
   | refine h91 ?_)
 all_goals try (exfalso;omega;done)
 refine LoopP.by (fun a:GA=>a.i≤l.length∧CK H l a.i a.G) (fun a=>[(8,.int .i64 (a.i:Nat))]) (fun a=>a.G) (fun a=>l.length - a.i) ⟨0,_⟩ ⟨Nat.zero_le _,CK.start hc⟩ rfl ?_
 rintro ⟨i,G⟩ ⟨w1,w2⟩
 dsimp only at w1 w2 ⊢
 by_cases hi:i<l.length
 ·obtain ⟨f,hf,_,_,hfp⟩:=o.at hi
  obtain ⟨_,_,a2⟩:=Qgg (g:=fun j f=>if j<i then piV (fun j=>H.length+2+j) j f else .sl f.c f.p.length (ofBytes f.p)) (k:=0) hf
  rw [Nat.zero_add,if_neg (Nat.lt_irrefl i)] at a2
  have a2' : Q0h (fmG (fun j f=>if j<i then piV (fun j=>H.length+2+j) j f else .sl f.c f.p.length (ofBytes f.p)) 0 l) (0+i * 3+2)=some (.sl f.c f.p.length (ofBytes f.p)):=by rw [Nat.zero_add];exact a2
  have hout:=w2.out
  have hout' := bget_app (g:=[.blk (ofBytes f.p) true]) hout
  have h92:∀ {K:V→List B→Prop},K (.ms 1 G.length f.p.length 0 f.p.length false) (G++[.blk (ofBytes f.p) true])→CallP FB md 0 (.fn 61 []) [.sl f.c f.p.length (ofBytes f.p)] G K:=fun h=>Qkm (by omega) (by omega) h
  have hiw:IntKind.i64.wrap ((i:Int)+1)=((i+1:Nat):Int):=by rw [wrap_i64 (by omega) (by omega)];omega
  have hil:i≤l.length - 1:=by omega
  have hgl:=Q1h (g:=fun j f=>if j<i then piV (fun j=>H.length+2+j) j f else .sl f.c f.p.length (ofBytes f.p)) (k:=0) (l:=l)
  have hst:(fmG (fun j f=>if j<i then piV (fun j=>H.length+2+j) j f else .sl f.c f.p.length (ofBytes f.p)) 0 l).length=l.length * 3∧0+i * 3+2+1≤(fmG (fun j f=>if j<i then piV (fun j=>H.length+2+j) j f else .sl f.c f.p.length (ofBytes f.p)) 0 l).length:=⟨hgl,by rw [hgl];omega⟩
  have cn:=w2.next hf
  repeat' (first
 | (conv=>whnf)
   first
   | refine Bnd.eq hiw ?_
   | (refine Br.decT ?_ ?_;(focus first | assumption | omega))
   | refine fLen.mk ?_
   | refine fB.i0 ?_
   | refine h92 ?_
   | refine Get.mk _ hout ?_
   | refine Get.mk _ hout' ?_
   | refine Get.mk _ a2' ?_
   | refine Req.mk hgl ?_
   | refine Req.mk hst ?_
   | refine Idx.nat hil ?_
   | refine Req.mk hn0 ?_
   | refine fB.mk ?_
   | refine fV.mk ?_
   | (refine Req.mk ?_ ?_;(focus first | rfl | decide | exact ⟨rfl,rfl⟩ | exact ⟨rfl,by decide⟩ | exact (fun _=>rfl) | exact (fun h=>nomatch h) | (simp;done) | omega | (simp [big];done) | exact Q02 (by omega) | exact Q01 (by omega))))
  all_goals try (exfalso;omega;done)
  ·exact NextP.mk ⟨i+1,_⟩ ⟨hi,cn⟩ (by dsimp only;omega) (cn.norm hi (by rw [List.length_append];rfl))
 obtain rfl:i=l.length:=by omega
 have hl:=w2.len
 have ht:trunc H.length [.ms 3 (H.length+1) (l.length * 3) 0 l.length false] G=G:=by
  obtain ⟨i,hi⟩:∃ i,l.length=i+1:=⟨l.length - 1,by omega⟩
  refine Qaj (r:=H.length+2+i) (o:=H.length+1) (by omega) (by omega) w2.cl (fun k hk=>of_decide_eq_true hk) w2.out fun k hk => ?_
  have hk:blos k _=true:=hk
  have h2:=Q78 (i:=i) hk (List.getElem?_eq_getElem (by omega))
  rw [Nat.zero_add,if_pos (by omega)] at h2
  exact of_decide_eq_true h2
 repeat' (first
 | (conv=>whnf)
   first
   | (refine Br.decF ?_ ?_;(focus first | assumption | omega))
   | refine fLen.mk ?_
   | refine fB.i0 ?_
   | refine fB.mk ?_
   | refine Get.mk _ rfl ?_
   | refine Ends.of ?_)
 all_goals try (exfalso;omega;done)
 rw [ht]
 exact hk G w2.cl w2.old hl w2.fin
def spN (s:Sp):List V:=[.int .i64 s.k,.int .i64 s.fr,.int .i64 s.un,.nilsl,.int .i64 s.a,.int .i64 s.b,.int .i64 s.c,.nilsl]
def stC:List Sp→List V
 | []=>[]
 | s :: l=>.int .i64 s.k :: .int .i64 s.fr :: .int .i64 s.un :: .nilsl :: .int .i64 s.a :: .int .i64 s.b :: .int .i64 s.c :: .nilsl :: stC l
theorem Q1r:∀ l,(stC l).length=l.length * 8
 | []=>rfl
 | _ :: l=>by simp only [stC,List.length_cons,Q1r l];omega
theorem Qe4:∀ {l:List Sp} {i:Nat} {s:Sp},l[i]?=some s→(stC l).drop (i * 8)=spN s++stC (l.drop (i+1))
 | g :: l,0,f,h=>by simp only [List.getElem?_cons_zero,Option.some.injEq] at h;subst h;rfl
 | g :: l,i+1,f,h=>by
  rw [show (i+1) * 8=i * 8+1+1+1+1+1+1+1+1 by omega]
  simp only [stC,List.drop_succ_cons]
  exact Qe4 (l:=l) (by simpa using h)
theorem Qlm {l:List Sp} {i:Nat} {s:Sp} (h:l[i]?=some s):part (stC l) (i * 8) 8=some (spN s):=by
 unfold part
 simp only [Q32,Q43,Qe4 h]
 rfl
theorem stC_snoc:∀ {l:List Sp} {s:Sp},stC (l++[s])=stC l++spN s
 | [],_=>rfl
 | _ :: l,s=>by simp only [List.cons_append,stC,stC_snoc (l:=l)]
theorem Qe5 {n:Nat}:∀ l:List Sp,blos n (stC l)=true
 | []=>rfl
 | _ :: l=>by have:=Qe5 (n:=n) l;simp only [stC,blos,V.blo,Bool.true_and];exact this
def Bare (ss:List Sp):Prop:=∀ s∈ss,s.kc=true∧s.kp=[]∧s.tc=true∧s.tb=[]
theorem Qo4 {h:List B} {d:Nat} {s:Sp} (e:s.kc=true∧s.kp=[]∧s.tc=true∧s.tb=[]):Vw h (d+2) (.agg (spN s)) (.agg (spV s)):=by
 unfold spN spV
 rw [e.1,e.2.1,e.2.2.1,e.2.2.2]
 exact Vw.agg (VwL.cons (Vw.int rfl) (VwL.cons (Vw.int rfl) (VwL.cons (Vw.int rfl) (VwL.cons Vw.nil (VwL.cons (Vw.int rfl) (VwL.cons (Vw.int rfl) (VwL.cons (Vw.int rfl) (VwL.cons Vw.nil VwL.nil))))))))
theorem Qhs {h:List B} {d:Nat}:∀ {l:List Sp},Bare l→VwL h (d+1) (stC l) (spC l)
 | [],_=>VwL.nil
 | s :: l,e=>by
  obtain ⟨e1,e2,e3,e4⟩:=e s (by simp)
  unfold stC spC
  rw [e1,e2,e3,e4]
  exact VwL.cons (Vw.int rfl) (VwL.cons (Vw.int rfl) (VwL.cons (Vw.int rfl) (VwL.cons Vw.nil (VwL.cons (Vw.int rfl) (VwL.cons (Vw.int rfl) (VwL.cons (Vw.int rfl) (VwL.cons Vw.nil (Qhs fun x hx=>e x (by simp [hx])))))))))
theorem Qeu {h:List B} {d:Nat}:∀ l:List Fm,VwL h (d+1) (fmC l) (fmC l)
 | []=>VwL.nil
 | _ :: l=>VwL.cons (Vw.int rfl) (VwL.cons (Vw.int rfl) (VwL.cons Vw.sl (Qeu l)))
def RJ (W H:Nat) (l:List Fm) (ss:List Sp) (G0:List B) (o i:Nat) (fv lv:V) (G:List B):Prop :=
 (i=0∧fv = .ms 3 o (l.length * 3) 0 l.length false∧lv = .nilsl∧G=G0) ∨
 (0<i∧fv = .sl false l.length (fmC (rnF W H (czF l) (ss.take i)))∧∃ q,G0.length≤q∧lv = .ms 1 q i 0 i false∧bget G q=some (.blk (lgC (rnC W H (czF l) (ss.take i))) false)∧Cl G∧G0.length≤G.length∧∀ m b,m<G0.length→bget G0 m=some b→bget G m=some b)
theorem Q3s {mk:List Bool} {tm:List V} {n m:Nat} {G:List B} {b:B} (hn:n≤G.length) (c:Cl G) (hm:m<n) (hb:bget G m=some b):bget (norm mk n ⟨tm,G⟩).h m=some b:=by
 obtain ⟨k,h1,h2,_,_⟩:=Q3t (mk:=mk) (tm:=tm) hn c
 rw [h2]
 show bget (G.take k) m=_
 rw [Q08 (by omega)]
 exact hb
theorem RJ.first {W H:Nat} {l:List Fm} {ss:List Sp} {G0 X:List B} {o:Nat} {s:Sp} {mk:List Bool} {tm:List V} {n j q:Nat} (c:Cl G0) (hs:ss[0]?=some s) (hn:n=G0.length) (hq0:G0.length≤q) (hX:hasc G0.length X) (hq:bget (G0++X) q=some (.blk [cgL (doC l W H s)] false)) (hv:tg (Q0r mk tm) j = .ms 1 q 1 0 1 false):RJ W H l ss G0 o 1 (.sl false l.length (fmC (doF l W H s))) (.ms 1 q 1 0 1 false) (norm mk n ⟨tm,G0++X⟩).h:=by
 subst hn
 have ht:ss.take 1=[s]:=by
  cases ss with
  | nil=>cases hs
  | cons t ss=>simp only [List.getElem?_cons_zero,Option.some.injEq] at hs;subst hs;rfl
 have hl:G0.length≤(⟨tm,G0++X⟩:St).h.length:=by show _≤(G0++X).length;rw [List.length_append];omega
 refine .inr ⟨Nat.one_pos,?_,q,hq0,rfl,?_,Q4e hl (Q1z c hX),Q1f hl,fun m b hm hb=>Q3s hl (Q1z c hX) hm (bget_app hb)⟩
 ·rw [ht]
  show _=V.sl false l.length (fmC (doF (czF l) W H s))
  rw [Qf7]
 ·rw [ht]
  show _=some (B.blk [cgL (doC (czF l) W H s)] false)
  rw [Qf8]
  exact Q1m (i:=j) hl (fun k hk=>by rw [hv] at hk;exact of_decide_eq_true hk) hq
theorem RJ.more {W H:Nat} {l:List Fm} {ss:List Sp} {G0 G X:List B} {o i:Nat} {s:Sp} {mk:List Bool} {tm:List V} {n j q:Nat} (hi:0<i) (c:Cl G) (hl0:G0.length≤G.length) (hlow:∀ m b,m<G0.length→bget G0 m=some b→bget G m=some b) (hs:ss[i]?=some s) (hn:n=G0.length) (hq0:G0.length≤q) (hX:hasc G.length X) (hq:q<G.length) (hv:tg (Q0r mk tm) j = .ms 1 q (i+1) 0 (i+1) false):RJ W H l ss G0 o (i+1) (.sl false l.length (fmC (doF (rnF W H (czF l) (ss.take i)) W H s))) (.ms 1 q (i+1) 0 (i+1) false) (norm mk n ⟨tm,bset (G++X) q (.blk (lgC (rnC W H (czF l) (ss.take i))++[cgL (doC (rnF W H (czF l) (ss.take i)) W H s)]) false)⟩).h:=by
 subst hn
 have ht:ss.take (i+1)=ss.take i++[s]:=by
  rw [List.take_add_one,hs]
  rfl
 have hlX:(G++X).length=G.length+X.length:=List.length_append
 have hc:Cl (bset (G++X) q (.blk (lgC (rnC W H (czF l) (ss.take i))++[cgL (doC (rnF W H (czF l) (ss.take i)) W H s)]) false)):=(Q1z c hX).set (by
  show (false || blos _ _)=true
  rw [Bool.false_or, ← Q6e]
  exact Qer)
 have hl:G0.length≤(⟨tm,bset (G++X) q (.blk (lgC (rnC W H (czF l) (ss.take i))++[cgL (doC (rnF W H (czF l) (ss.take i)) W H s)]) false)⟩:St).h.length:=by
  show _≤(bset _ _ _).length
  rw [bset_len,hlX];omega
 refine .inr ⟨Nat.succ_pos _,by rw [ht,rnF_snoc],q,hq0,rfl,?_,Q4e hl hc,Q1f hl,fun m b hm hb=>Q3s hl hc hm (by rw [bset_other (by omega)];exact bget_app (hlow m b hm hb))⟩
 rw [ht,rnC_snoc,Q6e]
 exact Q1m (i:=j) hl (fun k hk=>by rw [hv] at hk;exact of_decide_eq_true hk) (bget_same (by rw [hlX];omega))
set_option maxRecDepth 100000 in
set_option maxHeartbeats 20000000 in
theorem Qlw {H0:List B} {fid sid:Nat} {l:List Fm} {ss:List Sp} {W H:Nat} {K:V→List B→Prop} (o:FOk l W H) (hs20:ss.length≤20) (p:∀ s∈ss,SOk s l.length W H) (he:(csE l ss).2=0) (hbare:Bare ss) (h0:0<ss.length) (hc:Cl H0) (hb:bget H0 fid=some (.blk (fmC l) false)) (hsb:bget H0 sid=some (.blk (stC ss) false))
  (hk:∀ G q,Cl G→H0.length≤G.length→H0.length≤q→(∀ m b,m<H0.length→bget H0 m=some b→bget G m=some b)→bget G q=some (.blk (lgC (rnC W H (czF l) ss)) false)→K (.tup [.sl false l.length (fmC (rnF W H (czF l) ss)),.ms 1 q ss.length 0 ss.length false,.int .i64 0]) G):CallP FB md 0 (.fn 8 []) [.ms 3 fid (l.length * 3) 0 l.length false,.ms 8 sid (ss.length * 8) 0 ss.length false] H0 K:=by
 have k1:=Q7h (c:=false) (d:=false) (l:=l) (ss:=ss)
 rw [he] at k1
 generalize (csE l ss).1=z1 at *
 have hn0:=o.n0
 have hn12:=o.n12
 have hvw:Q1p H0 depth [.ms 3 fid (l.length * 3) 0 l.length false,.ms 8 sid (ss.length * 8) 0 ss.length false]=some [.sl false l.length (fmC l),.sl false ss.length (spC ss)]:=(VwL.cons (Vw.ms (d:=62+1) hb (Q0c l) (Q13 (Q0c l)) (Qeu l)) (VwL.cons (Vw.ms (d:=62+1) hsb (Q1r ss) (Q13 (Q1r ss)) (Qhs hbare)) VwL.nil)).1
 refine Q11 rfl rfl rfl ?_
 repeat' (first
 | (conv=>whnf)
   first
   | refine Br.f ?_
   | refine fLen.mk ?_
   | refine fB.i0 ?_
   | refine Q00 rfl hvw k1 (.inr rfl) ?_
   | refine Get.mk _ rfl ?_)
 all_goals try (exfalso;omega;done)
 refine Qd8 o hc hb ?_
 intro G0 c1 c2 c3 c4
 clear k1 hvw
 have hsG:=c2 _ _ hsb
 have hstl:=Q1r ss
 repeat' (first
 | (conv=>whnf)
   first
   | refine fLen.mk ?_
   | refine fB.i0 ?_)
 all_goals try (exfalso;omega;done)
 have hG0:H0.length≤G0.length:=by omega
 refine LoopP.by (fun a:RS=>a.i≤ss.length∧RJ W H l ss G0 (H0.length+1) a.i a.fv a.lv a.G) (fun a=>[(4,a.fv),(5,a.lv),(24,.int .i64 (a.i:Nat))]) (fun a=>a.G) (fun a=>ss.length - a.i) ⟨0,_,_,G0⟩ ⟨Nat.zero_le _,.inl ⟨rfl,rfl,rfl,rfl⟩⟩ rfl ?_
 rintro ⟨i,fv,lv,G⟩ ⟨w1,w2⟩
 dsimp only at w1 w2 ⊢
 by_cases hi:i<ss.length
 rotate_left
 ·obtain rfl:i=ss.length:=by omega
  rcases w2 with ⟨h0', _⟩ | ⟨_,rfl,q,hq0,rfl,hq,hcl,hgl,hlow⟩
  ·omega
  ·rw [List.take_length] at *
   have hql:=Q03 hq
   repeat' (first
 | (conv=>whnf)
   first
   | (refine Br.decF ?_ ?_;(focus first | assumption | omega))
   | refine fLen.mk ?_
   | refine fB.i0 ?_
   | refine fB.mk ?_
   | refine Get.mk _ rfl ?_
   | refine Ends.of ?_)
   all_goals try (exfalso;omega;done)
   obtain ⟨k,k1,k2,k3,k4⟩:=Q0z (n:=H0.length) (tm:=[.tup [.sl false l.length (fmC (rnF W H (czF l) ss)),.ms 1 q ss.length 0 ss.length false,.int .i64 0]]) (h:=G) (by omega) hcl
   show K (.tup [.sl false l.length (fmC (rnF W H (czF l) ss)),.ms 1 q ss.length 0 ss.length false,.int .i64 0]) (trunc H0.length [.tup [.sl false l.length (fmC (rnF W H (czF l) ss)),.ms 1 q ss.length 0 ss.length false,.int .i64 0]] G)
   have hqk:q<k:=by
    have:=k4
    simp [blos,V.blo] at this
    omega
   rw [k2]
   exact hk _ q k3 (by rw [List.length_take];omega) (by omega) (fun m b hm hb2=>by rw [Q08 (by omega)];exact hlow m b (by omega) (c2 m b hb2)) (by rw [Q08 hqk];exact hq)
 obtain ⟨s,hs⟩:∃ s,ss[i]?=some s:=⟨_,List.getElem?_eq_getElem hi⟩
 have hp:=Qlm hs
 have ps:=p s (List.mem_of_getElem? hs)
 have hbs:=hbare s (List.mem_of_getElem? hs)
 have hiw:IntKind.i64.wrap ((i:Int)+1)=((i+1:Nat):Int):=by rw [wrap_i64 (by omega) (by omega)];omega
 have hil:i≤ss.length - 1:=by omega
 have h0l:0<ss.length:=by omega
 have hp2:part (stC ss) (0+i * 8) 8=some (spN s):=by rw [Nat.zero_add];exact hp
 rcases w2 with ⟨h0', rfl,rfl,rfl⟩ | ⟨h0', rfl,q,hq0,rfl,hq,hcl,hgl,hlow⟩
 ·subst h0'
  have kd:=Qms (c:=false) (l:=czF l) (Q52 o) (by rw [Q0u];exact ps)
  rw [Q0u,Q2b,Q0u,Qf7,Qf8] at kd
  have hvw:∀ X:List B,Q1p (G++X) depth [.ms 3 (H0.length+1) (l.length * 3) 0 l.length false,.agg (spN s)]=some [.sl false l.length (fmC (czF l)),.agg (spV s)]:=fun X=>(VwL.cons (VwF.vw ((c4.app (g:=X)).cz (d:=61))) (VwL.cons (Qo4 (d:=62) hbs) VwL.nil)).1
  repeat' (first
 | (conv=>whnf)
   first
   | refine Bnd.eq hiw ?_
   | (refine Br.decT ?_ ?_;(focus first | assumption | omega))
   | refine fLen.mk ?_
   | refine fB.i0 ?_
   | refine fB.i1 ?_
   | refine Get.mk _ hp2 ?_
   | refine Get.mk _ (bget_app hsG) ?_
   | refine Req.mk hstl ?_
   | refine Idx.nat hil ?_
   | refine Req.mk h0l ?_
   | refine Q1s rfl (hvw _) kd ?_
   | refine Req.mk (bget_new (i:=1)) ?_
   | refine Get.newj 0 rfl rfl ?_
   | refine Get.newj 1 rfl rfl ?_
   | refine fB.newj 0 rfl ?_
   | refine fB.newj 1 rfl ?_
   | refine fB.mk ?_
   | (refine Ifz.pos ?_ ?_;(focus omega))
   | refine Get.mk _ rfl ?_
   | (refine Req.mk ?_ ?_;(focus first | rfl | decide | exact ⟨rfl,rfl⟩ | exact ⟨rfl,by decide⟩ | exact (fun _=>rfl) | exact (fun h=>nomatch h) | (simp;done) | omega | (simp [big];done) | exact Q02 (by omega) | exact Q01 (by omega))))
  all_goals try (exfalso;omega;done)
  rw [List.append_assoc]
  exact NextP.of (fun h=>⟨1,_,_,h⟩) ⟨hi,RJ.first (j:=5) c1 hs rfl (by rw [List.length_append];omega) ⟨rfl,rfl,rfl,trivial⟩ (by rw [List.length_append];exact bget_new (i:=2)) rfl⟩ (by dsimp only;omega) rfl
 ·have kd:=Qms (c:=false) (Q6o (ss:=ss.take i) (Q52 o)) (by rw [Q2m,Q0u];exact ps)
  rw [Q2m,Q0u,Q2b,Q2m,Q0u] at kd
  have hll:(lgC (rnC W H (czF l) (ss.take i))).length=i:=by rw [Q2a,Q21,List.length_take];omega
  have hsz:∀ a:V,0+i * 1=i∧((lgC (rnC W H (czF l) (ss.take i))).length+[a].length) * (24+1)<big:=fun a=>⟨by omega,by rw [hll];unfold big;simp;omega⟩
  have hq' := Q03 hq
  have hsG2:=hlow _ _ (Q03 hsG) hsG
  have hvw:∀ X:List B,Q1p X depth [.sl false l.length (fmC (rnF W H (czF l) (ss.take i))),.agg (spN s)]=some [.sl false l.length (fmC (rnF W H (czF l) (ss.take i))),.agg (spV s)]:=fun X=>(VwL.cons Vw.sl (VwL.cons (Qo4 (d:=62) hbs) VwL.nil)).1
  repeat' (first
 | (conv=>whnf)
   first
   | refine Bnd.eq hiw ?_
   | (refine Br.decT ?_ ?_;(focus first | assumption | omega))
   | refine fLen.mk ?_
   | refine fB.i0 ?_
   | refine fB.i1 ?_
   | refine Get.mk _ hp2 ?_
   | refine Get.mk _ (bget_app hsG2) ?_
   | refine Req.mk hstl ?_
   | refine Idx.nat hil ?_
   | refine Req.mk h0l ?_
   | refine Q1s rfl (hvw _) kd ?_
   | refine Get.mk _ (bget_app (bget_app hq)) ?_
   | refine Req.mk hll ?_
   | refine Req.mk (hsz _) ?_
   | refine Get.newj 0 rfl rfl ?_
   | refine fB.newj 0 rfl ?_
   | refine fB.mk ?_
   | (refine Ifz.pos ?_ ?_;(focus omega))
   | refine Get.mk _ rfl ?_
   | (refine Req.mk ?_ ?_;(focus first | rfl | decide | exact ⟨rfl,rfl⟩ | exact ⟨rfl,by decide⟩ | exact (fun _=>rfl) | exact (fun h=>nomatch h) | (simp;done) | omega | (simp [big];done) | exact Q02 (by omega) | exact Q01 (by omega))))
  all_goals try (exfalso;omega;done)
  rw [List.append_assoc]
  exact NextP.of (fun h=>⟨i+1,_,_,h⟩) ⟨hi,RJ.more (j:=5) h0' hcl hgl hlow hs rfl hq0 ⟨rfl,rfl,rfl,trivial⟩ hq' rfl⟩ (by dsimp only;omega) rfl
end Go.Dr.T
