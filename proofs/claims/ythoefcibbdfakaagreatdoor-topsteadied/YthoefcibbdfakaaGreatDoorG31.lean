/- Top: law TopSteadied, walked: a frame is looked at. -/
import Derived.Test.YthoefcibbdfakaaGreatDoorG30
import Derived.Test.YthoefcibbdfakaaGreatDoorG24
import Derived.Test.YthoefcibbdfakaaGreatDoorR18Wb
import Derived.Test.YthoefcibbdfakaaGreatDoorDrE
import Derived.Test.YthoefcibbdfakaaGreatDoorG0
import Derived.Lib.LaidTab
namespace Go.Dr.T
structure WL (fv sv:List V) (F:List Fm) (q:Nat) (S:List Sp) (M:List T7.Sh3) (st sh:V) (r:Nat) (L:List V) (G:List B):Prop where
 ws:WS fv sv F q S M st sh G
 r2:2≤r
 br:bget G r=some (.blk L false)
section
variable {fv sv L:List V} {F:List Fm} {q r:Nat} {S:List Sp} {M:List T7.Sh3} {st sh:V} {G:List B}
theorem WL.app {X:List B} (e:WL fv sv F q S M st sh r L G) (hX:hasc G.length X):WL fv sv F q S M st sh r L (G++X):=⟨e.ws.app hX,e.r2,bget_app e.br⟩
theorem WL.norm {mk:List Bool} {tm:List V} {m i j k n z:Nat} (e:WL fv sv F q S M st sh r L G) (hm:2≤m) (hm2:m≤G.length) (hq:tg (Q0r mk tm) i = .ms 3 q (F.length * 3) 0 F.length false) (hs:tg (Q0r mk tm) j=st) (hh:tg (Q0r mk tm) k=sh) (hr:tg (Q0r mk tm) n = .ms 1 r z 0 z false):WL fv sv F q S M st sh r L (norm mk m ⟨tm,G⟩).h :=
 ⟨e.ws.norm hm hm2 hq hs hh,e.r2,Q1m (i:=n) hm2 (fun z hz=>by rw [hr] at hz;exact of_decide_eq_true hz) e.br⟩
theorem WS.old {H:List B} (e:WS fv sv F q S M st sh G) (c:Cl H) (hl:G.length≤H.length) (h:∀ m b,m<G.length→bget G m=some b→bget H m=some b):WS fv sv F q S M st sh H:=by
 have hle:=e.le
 refine ⟨c,by omega,h _ _ (Q03 e.b0) e.b0,h _ _ (Q03 e.b1) e.b1,e.q2,h _ _ (Q03 e.bq) e.bq,?_⟩
 rcases e.tv with t | ⟨s1,s2,h1,h2,h3,h4,h5,h6⟩
 ·exact .inl t
 ·exact .inr ⟨s1,s2,h1,h2,h3,h _ _ (Q03 h4) h4,h5,h _ _ (Q03 h6) h6⟩
end
set_option maxRecDepth 100000 in
set_option maxHeartbeats 20000000 in
theorem body5 {tm:List V} {G:List B} {Q:X→St→Prop} {W H:Nat} {c cb:Bool} {p:List UInt8} {a b d e r nd:Int} {Bs:List (Int × Int)} {fill:UInt8} {px pix q s1 s2 rl k:Nat} {D:List (Int × Int)} {M:List T7.Sh3} {z:Int × Int} {m:T7.Sh3} {Lg:List V} (h1:1≤W∧W≤48) (h2:1≤H∧H≤48) (hp:p.length=W * H) (hDl:D.length≤11) (hMl:M.length=D.length) (hMr:∀ m∈M,(-12≤m.1∧m.1≤12)∧(-12≤m.2.1∧m.2.1≤12)) (hpix:pix<W * H) (hz:D[k]?=some z) (hm:M[k]?=some m)
  (hnd:m.2.2=0→nd=0) (kd:Fun FB md 10 [T7.frV W H c p,T7.frV W H false (T7.moveL W H (T7.moveL W H p z.1 z.2 fill (W * H)) (0 - m.1) (0 - m.2.1) fill (W * H)),T7.winV a b d e,.int .i64 0,.int .i64 0] (.tup [.int .i64 nd,.bool true]))
  (htm:tm=TMA (tg tm) q (shF c W H p fill D).length s1 s2 (Q0l fill M).length M.length pix k (fmC (rnF W H (czF (shF c W H p fill D)) (Q0l fill M))))
  (w:WL (frC W H c p) (shC' cb a b d e r Bs fill px) (shF c W H p fill D) q (Q0l fill M) M (.ms 8 s1 ((Q0l fill M).length * 8) 0 (Q0l fill M).length false) (.ms 3 s2 (M.length * 3) 0 M.length false) rl Lg G)
  (hQ:∀ tm' G', WL (frC W H c p) (shC' cb a b d e r Bs fill px) (shF c W H p fill D) q (Q0l fill M) M (.ms 8 s1 ((Q0l fill M).length * 8) 0 (Q0l fill M).length false) (.ms 3 s2 (M.length * 3) 0 M.length false) rl Lg G' → G.length≤G'.length→(∃ Y,tm' = TMAY (tg tm) Y q (shF c W H p fill D).length s1 s2 (Q0l fill M).length M.length pix k (fmC (rnF W H (czF (shF c W H p fill D)) (Q0l fill M))))→Q .nrm ⟨tm', G'⟩):wp FB1 md 0 Qnu ⟨tm,G⟩ Q:=by
 generalize tg tm=T at *
 subst htm
 have hkD:=(List.getElem?_eq_some_iff.1 hz).1
 have hFl:=Q2l (c:=c) (W:=W) (H:=H) (p:=p) (fill:=fill) (D:=D)
 have hSl:=Q95 (fill:=fill) (M:=M)
 have hr:=hMr m (List.mem_of_getElem? hm)
 have o:=Qap (c:=c) (p:=p) (fill:=fill) (D:=D) h1 h2 hp hDl
 have hspE:=Qht (fill:=fill) (M:=M) (N:=(shF c W H p fill D).length) (w:=W) (h:=H) (by omega) hMr
 obtain ⟨cc,haft⟩:=Qnq (c:=c) (fill:=fill) h1 h2 hp hDl hz hm
 obtain ⟨ta,tb,L,htr,hL1,hL,hin,hno⟩:=trc_is (c:=c) (p:=p) (fill:=fill) (H:=H) hz hm hDl (show 0<W by omega) hpix
 have kt:=Qpb (b:=false) (d:=false) o (by omega) (fun s hs=>SOk.of (hspE s hs)) (Qkl o (by omega) hspE) (show k+1<(shF c W H p fill D).length by omega) hpix
 rw [htr] at kt
 have k6:Fun FB1 md 6 _ _:=tabF (T7.move_ok (c:=false) h1.1 h1.2 h2.1 h2.2 (T7.moveL_length W H p z.1 z.2 fill (W * H)) (dx:=0 - m.1) (dy:=0 - m.2.1) (by omega) (by omega) fill)
 have k10:=tabF kd
 have hp2:=Q42 (Qeb (c:=c) (W:=W) (H:=H) (p:=p) (fill:=fill) hz)
 rw [← Nat.zero_add ((k+1) * 3)] at hp2
 unfold mvF at hp2
 have hp3:=Q42 haft
 dsimp only at hp2 hp3
 generalize T7.moveL W H p z.1 z.2 fill (W * H)=pm at *
 generalize T7.moveL W H pm (0 - m.1) (0 - m.2.1) fill (W * H)=gm at *
 have k9:Fun FB1 md 9 _ _:=tabF (T7.sameR_any W H cc gm W H false gm)
 rw [show (decide ((W:Int)=W) && decide ((H:Int)=H) && (gm == gm))=true by simp] at k9
 have hp1:part (T7.ofS3 M) (0+k * 3) 3=some [.int .i64 m.1,.int .i64 m.2.1,.int .i64 m.2.2]:=by
  rw [Nat.zero_add,T7.ofS3_part (l:=M) (i:=k) (by omega)]
  rw [List.getElem?_eq_getElem (by omega)] at hm
  rw [Option.some.inj hm]
 have d0:=w.ws.b0
 have d1:=w.ws.b1
 have hbq:=w.ws.bq
 have hle:=w.ws.le
 rcases w.ws.tv with ⟨_,_,h,_⟩ | ⟨t1,t2,⟨g1,g2,g3,g4,g5⟩,_,g7,hs1,g9,hs2⟩
 ·cases h
 cases g7
 cases g9
 have hq:=Q03 hbq
 have hl1:=Q03 hs1
 have hl2:=Q03 hs2
 unfold frC at d0
 unfold shC' at d1
 have hlen3:(fmC (shF c W H p fill D)).length=(shF c W H p fill D).length * 3:=Q0c _
 have hl3:(T7.ofS3 M).length=M.length * 3:=by rw [T7.ofS3_length,Nat.mul_comm]
 have hkl:k+1≤(shF c W H p fill D).length - 1:=by omega
 have hkm:k≤M.length - 1:=by omega
 have hx0:0<(shF c W H p fill D).length:=by omega
 have hm0:0<M.length:=by omega
 have hkw:IntKind.i64.wrap ((k:Int)+1)=((k+1:Nat):Int):=by rw [wrap_i64 (by omega) (by omega)];omega
 have hn1:IntKind.i64.wrap (0 - m.1)=0 - m.1:=wrap_i64 (by omega) (by omega)
 have hn2:IntKind.i64.wrap (0 - m.2.1)=0 - m.2.1:=wrap_i64 (by omega) (by omega)
 have hX:hasc G.length [B.blk [.int .i64 m.1,.int .i64 m.2.1,.int .i64 m.2.2] false,B.blk [.int .i64 (W:Nat),.int .i64 (H:Nat),.sl false gm.length (ofBytes gm)] false,B.blk [.int .i64 ta,.int .i64 tb] false,B.blk [.int .i64 ta,.int .i64 tb] false]:=⟨rfl,rfl,rfl,rfl,trivial⟩
 have hlX:G.length≤(G++[B.blk [.int .i64 m.1,.int .i64 m.2.1,.int .i64 m.2.2] false,B.blk [.int .i64 (W:Nat),.int .i64 (H:Nat),.sl false gm.length (ofBytes gm)] false,B.blk [.int .i64 ta,.int .i64 tb] false,B.blk [.int .i64 ta,.int .i64 tb] false]).length:=by rw [List.length_append];omega
 have hQ2:=fun (tm' : List V) (hY:tm' = TMAY T (tg tm') q (shF c W H p fill D).length s1 s2 (Q0l fill M).length M.length pix k (fmC (rnF W H (czF (shF c W H p fill D)) (Q0l fill M))))=>hQ tm' _ (w.app hX) hlX ⟨tg tm', hY⟩
 clear hQ hlX
 have hGl:(G++[B.blk [.int .i64 m.1,.int .i64 m.2.1,.int .i64 m.2.2] false]).length=G.length+1:=by rw [List.length_append];rfl
 unfold Qnu TMA
 repeat' (first
 | (conv=>whnf)
   first
   | refine Bnd.eq hkw ?_
   | refine Bnd.eq hn1 ?_
   | refine Bnd.eq hn2 ?_
   | refine Br.f ?_
   | (refine Br.decT ?_ ?_;(focus first | assumption | omega))
   | (refine Br.decF ?_ ?_;(focus first | assumption | omega))
   | refine Br.dec (fun _ => ?_) (fun _ => ?_)
   | refine Br.not ?_
   | refine fLen.mk ?_
   | refine fB.i0 ?_
   | refine fB.i1 ?_
   | refine Get.mk _ (bget_app hs2) ?_
   | refine Get.mk _ (bget_app (bget_app d0)) ?_
   | refine Get.mk _ (bget_app (bget_app d1)) ?_
   | refine Get.mk _ (bget_app (bget_app hbq)) ?_
   | refine Get.mk _ hp1 ?_
   | refine Get.mk _ hp2 ?_
   | refine Get.mk _ hp3 ?_
   | refine Req.mk hlen3 ?_
   | refine Req.mk hl3 ?_
   | refine Idx.nat hkl ?_
   | refine Idx.nat hkm ?_
   | refine Req.mk hx0 ?_
   | refine Req.mk hm0 ?_
   | refine Q00 rfl rfl k6 (.inl rfl) ?_
   | refine Q00 rfl rfl k9 (.inl rfl) ?_
   | refine Q00 rfl rfl k10 (.inl rfl) ?_
   | (refine Q8g ?_ ?_;(focus repeat' (first | exact Q40 | refine Q0e rfl ?_ | refine Q0e (Q8l (by omega)) ?_ | refine Q0e (Q8k (by omega)) ?_ | refine Q0e (Q8m (by omega)) ?_)))
   | refine Get.newj 0 rfl rfl ?_
   | refine fB.newj 0 rfl ?_
   | refine Get.mk _ (bget_app (bget_new (i:=0))) ?_
   | refine Get.mk _ rfl ?_
   | (refine Req.mk ?_ ?_;(focus first | rfl | decide | exact ⟨rfl,rfl⟩ | exact ⟨rfl,by decide⟩ | exact (fun _=>rfl) | exact (fun h=>nomatch h) | (simp;done) | omega | (simp [big];done) | exact Q02 (by omega) | exact Q01 (by omega))))
 all_goals try (exfalso;omega;done)
 all_goals
  refine bodyB (m3:=m.2.2) (x:=G.length+0+0) (c:=c) (F:=shF c W H p fill D) (S:=Q0l fill M) h1 h2 hp (by omega) hpix hr.1 hr.2 Qe7 ?htm (bget_app (bget_app d0)) (bget_app (bget_app hbq)) (bget_app (bget_app hs1)) ?h19 kt hL1 hL hin hno ?hq
  case htm=>exact rfl
  case h19=>exact bget_app (bget_new (i:=0))
  case hq =>
   rintro tm' ⟨Y,rfl⟩
   rw [List.append_assoc,List.append_assoc,List.append_assoc]
   exact hQ2 _ rfl
end Go.Dr.T
namespace Go.Dr.T
set_option maxRecDepth 100000 in
set_option maxHeartbeats 20000000 in
theorem rest5 {tm:List V} {G:List B} {W H:Nat} {F:List Fm} {S:List Sp} {q rl:Nat} (o:FOk F W H) (hS:S.length≤20) (hbq:bget G q=some (.blk (fmC F) false)) (hbr:bget G rl=some (.blk (lgC (rnC W H (czF F) S)) false))
  (htm:tm=TM5 (tg tm) q F.length rl S.length (fmC (rnF W H (czF F) S))):wp FB1 md 0 Ql8 ⟨tm,G⟩ (Leaves c3z.res (.bool true)):=by
 generalize tg tm=T at *
 subst htm
 have k5:=Qgq
 have hn12:=o.n12
 have hlen3:(fmC F).length=F.length * 3:=Q0c _
 obtain ⟨B,hB,hBu⟩:=Q80 (c:=false) (d:=false) (ss:=S) (Q52 o) hS
 rw [Q0u] at hBu
 have hvw:Q1p G depth [.sl false F.length (fmC (rnF W H (czF F) S)),.ms 1 rl S.length 0 S.length false]=some [.sl false F.length (fmC (rnF W H (czF F) S)),.sl false S.length (lgC (rnC W H (czF F) S))]:=(VwL.cons Vw.sl (VwL.cons (Vw.ms (d:=62+1) hbr (by rw [Q2a,Q21]) (Q13 (by rw [Q2a,Q21,Nat.mul_one])) Qj4) VwL.nil)).1
 have hBl:B.length=F.length:=hB.len.trans Q0u
 have k14:Fun FB1 md 14 [.sl false F.length (fmC B),.sl false F.length (fmC F)] (.bool true):=by
  have:=tabF (Q8p (c:=false) (d:=false) (A:=B) (B:=F) (by omega) ⟨hBl,fun i f g hf hg=>by
   have:=hB.eq i f _ hf (Q9z hg)
   exact this⟩)
  rw [hBl] at this
  exact this
 have hvw2:Q1p G depth [.sl false F.length (fmC B),.ms 3 q (F.length * 3) 0 F.length false]=some [.sl false F.length (fmC B),.sl false F.length (fmC F)]:=(VwL.cons Vw.sl (VwL.cons (Vw.ms (d:=62+1) hbq (Q0c F) (Q13 (Q0c F)) (Qeu F)) VwL.nil)).1
 unfold Ql8 TM5
 repeat' (first
 | (conv=>whnf)
   first
   | refine Br.t ?_
   | refine fLen.mk ?_
   | refine fB.i0 ?_
   | refine Q1s rfl hvw hBu ?_
   | refine Q00 rfl hvw2 k14 (.inr rfl) ?_
   | refine Q00 rfl rfl k5 (.inl rfl) ?_
   | refine Get.mk _ rfl ?_
   | refine Leaves.of ?_
   | refine Vw.bool ?_)
 all_goals first | rfl | (exfalso;omega;done)
end Go.Dr.T
namespace Go.Dr.T
structure WK where
 k:Nat
 G:List B
set_option maxRecDepth 100000 in
set_option maxHeartbeats 20000000 in
theorem rest4 {W H:Nat} {c cb:Bool} {p:List UInt8} {a b d e r:Int} {Bs:List (Int × Int)} {fill:UInt8} {px:Nat} {n6 n11 n100:Int} {g43 g47 b101:Bool} {g45 g46 st sh:V} {G:List B} {D:List (Int × Int)} {M:List T7.Sh3} {q:Nat} (h1:1≤W∧W≤48) (h2:1≤H∧H≤48) (hp:p.length=W * H) (hpx:px≤65535) (hDl:D.length≤11) (hD0:0<D.length) (hMl:M.length=D.length) (hMr:∀ m∈M,(-12≤m.1∧m.1≤12)∧(-12≤m.2.1∧m.2.1≤12))
  (hd:∀ (j:Nat) (z:Int × Int) (m:T7.Sh3),D[j]?=some z→M[j]?=some m→∃ nd:Int,(m.2.2=0→nd=0)∧Fun FB md 10 [T7.frV W H c p,T7.frV W H false (T7.moveL W H (T7.moveL W H p z.1 z.2 fill (W * H)) (0 - m.1) (0 - m.2.1) fill (W * H)),T7.winV a b d e,.int .i64 0,.int .i64 0] (.tup [.int .i64 nd,.bool true]))
  (hg:(g45 = .tup []∧g46 = .tup [])∨∃ x y,g45 = .int .i64 x∧g46 = .bool y) (w:WS (frC W H c p) (shC' cb a b d e r Bs fill px) (shF c W H p fill D) q (Q0l fill M) M st sh G):wp FB1 md 0 Qgr ⟨TM4 W H c cb p a b d e r Bs fill px (.ms 3 q ((shF c W H p fill D).length * 3) 0 (shF c W H p fill D).length false) n6 g43 g47 g45 g46 st sh n11 n100 b101,G⟩ (Leaves c3z.res (.bool true)):=by
 have hFl:=Q2l (c:=c) (W:=W) (H:=H) (p:=p) (fill:=fill) (D:=D)
 have hSl:=Q95 (fill:=fill) (M:=M)
 have o:=Qap (c:=c) (p:=p) (fill:=fill) (D:=D) h1 h2 hp hDl
 have hspE:=Qht (fill:=fill) (M:=M) (N:=(shF c W H p fill D).length) (w:=W) (h:=H) (by omega) hMr
 have he:=Qkl o (by omega) hspE
 obtain ⟨cc,haft⟩:=Ql4 (c:=c) (fill:=fill) (M:=M) h1 h2 hp hDl
 have hp3:=Q42 haft
 dsimp only at hp3
 have k9:Fun FB1 md 9 _ _:=tabF (T7.sameR_any W H cc p W H c p)
 rw [show (decide ((W:Int)=W) && decide ((H:Int)=H) && (p == p))=true by simp] at k9
 have hp0:(p.length:Int)≠0:=by rw [hp];have:=Nat.mul_le_mul h1.1 h2.1;omega
 have hmod:(px:Int).tmod (p.length:Int)=((px % p.length:Nat):Int):=by rw [Int.ofNat_tmod]
 have hpw:IntKind.i64.wrap ((px:Nat):Int)=(px:Int):=wrap_i64 (by omega) (by omega)
 have hpix:px % p.length<W * H:=by rw [← hp];exact Nat.mod_lt _ (by omega)
 rcases w.tv with ⟨_,h,_⟩ | ⟨s1,s2,hss,hSn,rfl,hs1,rfl,hs2⟩
 ·rw [h] at hMl
  exact absurd hMl (by simp only [List.length_nil];omega)
 have hG2:=w.le
 have hx0:0<(shF c W H p fill D).length:=by omega
 unfold TM4 Qgr
 repeat' (first
 | (conv=>whnf)
   first
   | refine fLen.mk ?_
   | refine fB.i0 ?_)
 all_goals try (exfalso;omega;done)
 refine CallP.tab sub1 (Qlw o (by omega) (fun s hs=>SOk.of (hspE s hs)) he Qe7 (by omega) w.cl w.bq hs1 ?_)
 intro G1 rl c1 c2 c3 c4 c5
 have w1:=w.old c1 c2 c4
 have d0:=w1.b0
 have d1:=w1.b1
 unfold frC at d0
 unfold shC' at d1
 have hl2:=w1.le
 have wl:WL (frC W H c p) (shC' cb a b d e r Bs fill px) (shF c W H p fill D) q (Q0l fill M) M (.ms 8 s1 ((Q0l fill M).length * 8) 0 (Q0l fill M).length false) (.ms 3 s2 (M.length * 3) 0 M.length false) rl (lgC (rnC W H (czF (shF c W H p fill D)) (Q0l fill M))) G1:=⟨w1,by omega,c5⟩
 repeat' (first
 | (conv=>whnf)
   first
   | refine Bnd.eq hmod ?_
   | refine Bnd.eq hpw ?_
   | refine Br.f ?_
   | (refine Br.decT ?_ ?_;(focus first | assumption | omega))
   | refine Br.not ?_
   | refine fLen.mk ?_
   | refine fB.i0 ?_
   | refine Get.mk _ d0 ?_
   | refine Get.mk _ d1 ?_
   | refine Req.mk hp0 ?_
   | refine Req.mk hx0 ?_
   | refine Get.mk _ hp3 ?_
   | refine Q00 rfl rfl k9 (.inl rfl) ?_
   | (refine Idx.int ?_ ?_ ?_;(focus omega);(focus omega))
   | refine Get.mk _ rfl ?_
   | (refine Req.mk ?_ ?_;(focus first | rfl | decide | exact ⟨rfl,rfl⟩ | exact ⟨rfl,by decide⟩ | exact (fun _=>rfl) | exact (fun h=>nomatch h) | (simp;done) | omega | (simp [big];done) | exact Q02 (by omega) | exact Q01 (by omega))))
 all_goals try (exfalso;omega;done)
 refine LoopP.by (fun x:WK=>x.k≤M.length∧WL (frC W H c p) (shC' cb a b d e r Bs fill px) (shF c W H p fill D) q (Q0l fill M) M (.ms 8 s1 ((Q0l fill M).length * 8) 0 (Q0l fill M).length false) (.ms 3 s2 (M.length * 3) 0 M.length false) rl (lgC (rnC W H (czF (shF c W H p fill D)) (Q0l fill M))) x.G∧G1.length≤x.G.length) (fun x=>[(18,.int .i64 (x.k:Nat))]) (fun x=>x.G) (fun x=>M.length - x.k) ⟨0,G1⟩ ⟨Nat.zero_le _,wl,Nat.le_refl _⟩ rfl ?_
 rintro ⟨k,G2⟩ ⟨u1,u2,u3⟩
 dsimp only at u1 u2 u3 ⊢
 have hl3:(T7.ofS3 M).length=M.length * 3:=by rw [T7.ofS3_length,Nat.mul_comm]
 have hkw:IntKind.i64.wrap ((k:Int)+1)=((k+1:Nat):Int):=by rw [wrap_i64 (by omega) (by omega)];omega
 have hs2b:bget G2 s2=some (.blk (T7.ofS3 M) true):=by
  rcases u2.ws.tv with ⟨_,_,h,_⟩ | ⟨t1,t2,_,_,_,_,g9,h2⟩
  ·cases h
  ·cases g9;exact h2
 by_cases hk:k<M.length
 ·obtain ⟨z,hz⟩:∃ z,D[k]?=some z:=⟨_,List.getElem?_eq_getElem (by omega)⟩
  obtain ⟨m,hm⟩:∃ m,M[k]?=some m:=⟨_,List.getElem?_eq_getElem hk⟩
  obtain ⟨nd,hnd,kd⟩:=hd k z m hz hm
  repeat' (first
 | (conv=>whnf)
   first
   | (refine Br.decT ?_ ?_;(focus first | assumption | omega))
   | refine fLen.mk ?_
   | refine fB.i0 ?_
   | refine fB.mk ?_)
  all_goals try (exfalso;omega;done)
  refine body5 h1 h2 hp hDl hMl hMr hpix hz hm hnd kd rfl u2 ?_
  rintro tm' G3 w3 hl ⟨Y,rfl⟩
  unfold TMAY
  repeat' (first
 | (conv=>whnf)
   first
   | refine Bnd.eq hkw ?_
   | refine fLen.mk ?_
   | refine fB.i0 ?_)
  all_goals try (exfalso;omega;done)
  exact NextP.of (fun h=>WK.mk (k+1) h) ⟨hk,w3.norm (i:=5) (j:=9) (k:=10) (n:=15) hl2 (by omega) rfl rfl rfl rfl,Q1f (s:=⟨_,_⟩) (by show G1.length≤G3.length;omega)⟩ (by dsimp only;omega) (by rcases hg with ⟨rfl,rfl⟩ | ⟨_,_,rfl,rfl⟩ <;> rfl)
 ·obtain rfl:k=M.length:=by omega
  repeat' (first
 | (conv=>whnf)
   first
   | (refine Br.decF ?_ ?_;(focus first | assumption | omega))
   | refine fLen.mk ?_
   | refine fB.i0 ?_
   | refine fB.mk ?_)
  all_goals try (exfalso;omega;done)
  conv=>whnf
  exact rest5 o (by omega) u2.ws.bq u2.br rfl
end Go.Dr.T
namespace Go.Dr.T
theorem pick {α β:Type} {P:α→β→Prop}:∀ D:List α,(∀ z∈D,∃ m,P z m)→∃ M:List β,M.length=D.length∧∀ (j:Nat) (z:α) (m:β),D[j]?=some z→M[j]?=some m→P z m
 | [],_=>⟨[],rfl,fun j z m h _=>by simp at h⟩
 | z :: D,h=>by
  obtain ⟨m,hm⟩:=h z (by simp)
  obtain ⟨M,h1,h2⟩:=pick D fun y hy=>h y (by simp [hy])
  refine ⟨m :: M,by simp [h1],fun j z' m' hz hm' => ?_⟩
  cases j with
  | zero =>
   simp only [List.getElem?_cons_zero,Option.some.injEq] at hz hm'
   subst hz hm'
   exact hm
  | succ j=>exact h2 j z' m' (by simpa using hz) (by simpa using hm')
theorem Qb8 {w h:Int} {c cb:Bool} {p:List UInt8} {a b d e r:Int} {Bs:List (Int × Int)} {fill:UInt8} {px:Nat} (hBs:∀ x∈Bs,(-128≤x.1∧x.1≤127)∧(-128≤x.2∧x.2≤127)) (hpx:px≤65535):Fun FB1 md 3 [.agg [.int .i64 w,.int .i64 h,.sl c p.length (ofBytes p)],.agg [.int .i64 a,.int .i64 b,.int .i64 d,.int .i64 e,.int .i64 r,.sl cb Bs.length (byC Bs),.int .u8 (fill.toNat:Nat),.int .u16 (px:Nat)]] (.bool true):=by
 by_cases hck:T7.checkL w h p.length=0
 ·obtain ⟨W,H,rfl,rfl,a1,a2,a3,a4,hp⟩:=T7.checkL_zero hck
  refine Qc7 ⟨a1,a2⟩ ⟨a3,a4⟩ hp hBs hpx fun n6 g43 g47 g45 g46 v G hg w => ?_
  have hDl:(shD Bs).length≤11:=by rw [Qhw];omega
  generalize shD Bs=D at *
  by_cases hD:D=[]
  ·subst hD
   exact Qi2 ⟨a1,a2⟩ ⟨a3,a4⟩ hp hpx hg w
  ·have hD0:0<D.length:=List.length_pos_iff.2 hD
   rcases T7.steady_cases a1 a2 a3 a4 a b d e r with ⟨k,hk,hS⟩ | ⟨x0,u,y0,q0,R,rfl,rfl,rfl,rfl,hx,hy,hR,rfl,hS⟩
   ·obtain ⟨z,hz⟩:∃ z,D[0]?=some z:=⟨_,List.getElem?_eq_getElem hD0⟩
    exact Qi3 ⟨a1,a2⟩ ⟨a3,a4⟩ hp hDl hz hk hS w
   ·obtain ⟨M,hM,hP⟩:=pick (P:=fun (z:Int × Int) (m:T7.Sh3)=>T7.Best (T7.insS W H x0 y0 u q0) (T7.smS W H p (T7.moveL W H p z.1 z.2 fill (W * H)) x0 y0 u q0) R m∧Fun FB md 7 [T7.frV W H c p,T7.frV W H false (T7.moveL W H p z.1 z.2 fill (W * H)),T7.winV x0 ((x0+u:Nat):Int) y0 ((y0+q0:Nat):Int),.int .i64 (R:Nat)] (.tup [T7.sh3V m,.int .i64 0])) D fun z _=>hS c false p _ hp (T7.moveL_length ..)
    have hMr:∀ m∈M,(-12≤m.1∧m.1≤12)∧(-12≤m.2.1∧m.2.1≤12):=fun m hm=>by
     obtain ⟨j,hj⟩:=List.getElem?_of_mem hm
     have hjl:=(List.getElem?_eq_some_iff.1 hj).1
     obtain ⟨bb,_⟩:=hP j _ m (List.getElem?_eq_getElem (show j<D.length by omega)) hj
     have:=bb.x1
     have:=bb.x2
     have:=bb.y1
     have:=bb.y2
     omega
    rcases w.film with ⟨h,_⟩ | ⟨q,q1,q2,rfl,hq⟩
    ·rw [Q2l] at h
     omega
    ·refine Qlx ⟨a1,a2⟩ ⟨a3,a4⟩ hp hDl hD0 hM hMr (fun j z m hz hm=>(hP j z m hz hm).2) hg ⟨w.cl,w.le,w.b0,w.b1,q1,hq,.inl ⟨rfl,rfl,rfl,rfl⟩⟩ fun st sh n11 n100 b101 G' w' => ?_
     refine rest4 ⟨a1,a2⟩ ⟨a3,a4⟩ hp hpx hDl hD0 hM hMr (fun j z m hz hm => ?_) hg w'
     obtain ⟨bb,_⟩:=hP j z m hz hm
     refine ⟨_,fun h0 => ?_,T7.differs_in (px:=T7.pxS x0 0) (py:=T7.pxS y0 0) a2 a4 hp (T7.moveL_length ..) hx hy (fun i hi => ?_) (fun i hi => ?_) (fun i hi j hj => ?_)⟩
     ·exact T7.back_zero (x:=m.1) (y:=m.2.1) hx hy a2 fill bb.ok (by rw [← bb.sum];exact h0)
     ·unfold T7.pxS;exact wrap_i64 (by omega) (by omega)
     ·unfold T7.pxS;exact wrap_i64 (by omega) (by omega)
     ·unfold T7.pxS T7.pixB;omega
 ·exact Qao hck
end Go.Dr.T
namespace Go.Dr.T
theorem hasI {k:IntKind} {l:List V} (h:(Ty.int k).has l):∃ n:Int,l=[.int k n]∧k.min≤n∧n≤k.max:=by
 simpa only [Ty.has] using h
theorem hasU8 {l:List V} (h:(Ty.int .u8).has l):∃ b:UInt8,l=[.int .u8 (b.toNat:Nat)]:=by
 obtain ⟨n,rfl,h3,h4⟩:=hasI h
 simp only [IntKind.min,IntKind.max,IntKind.signed,IntKind.bits,Bool.false_eq_true,if_false] at h3 h4
 have h4' : n≤255:=by simpa using h4
 have e:((UInt8.ofNat n.toNat).toNat:Int)=n:=by
  rw [UInt8.toNat_ofNat_of_lt' (by show n.toNat<256;omega)];omega
 exact ⟨UInt8.ofNat n.toNat,by rw [e]⟩
theorem Q7l:∀ {xs:List (List V)},(∀ x∈xs,x.length=1∧(Ty.int .u8).has x)→∃ l:List UInt8,xs.flatten=ofBytes l∧xs.length=l.length
 | [],_=>⟨[],rfl,rfl⟩
 | x :: xs,h=>by
  obtain ⟨l,h1,h2⟩:=Q7l (xs:=xs) fun y hy=>h y (by simp [hy])
  obtain ⟨b,rfl⟩:=hasU8 (h x (by simp)).2
  exact ⟨b :: l,by simp only [List.flatten_cons,h1];rfl,by simp [h2]⟩
abbrev TyFr:Ty:=.agg [.int .i64,.int .i64,.slice 1 (.int .u8)]
theorem Qjp {v:V} (h:TyFr.val v):∃ w h' l,v=T7.frV w h' false l:=by
 simp only [Ty.val,Ty.hasAll,Ty.has] at h
 obtain ⟨_,rfl,_,_,rfl,⟨w,rfl,_⟩,_,_,rfl,⟨h', rfl,_⟩,_,_,rfl,⟨xs,rfl,hx⟩,rfl⟩:=h
 obtain ⟨l,h1,h2⟩:=Q7l (xs:=xs) (fun x hx' => by
  obtain ⟨q1,q2⟩:=hx x hx'
  exact ⟨q1,by simp only [Ty.has];exact q2⟩)
 exact ⟨w,h', l,by rw [h1,h2];rfl⟩
abbrev TyBy:Ty:=.agg [.int .i8,.int .i8]
theorem Qfe:∀ {xs:List (List V)},(∀ x∈xs,x.length=2∧TyBy.has x)→∃ l:List (Int × Int),xs.flatten=byC l∧xs.length=l.length∧∀ x∈l,(-128≤x.1∧x.1≤127)∧(-128≤x.2∧x.2≤127)
 | [],_=>⟨[],rfl,rfl,fun _ h=>by cases h⟩
 | x :: xs,h=>by
  obtain ⟨l,h1,h2,h3⟩:=Qfe (xs:=xs) fun y hy=>h y (by simp [hy])
  obtain ⟨_,hx⟩:=h x (by simp)
  simp only [Ty.has,Ty.hasAll] at hx
  obtain ⟨_,_,rfl,⟨n,rfl,n1,n2⟩,_,_,rfl,⟨m,rfl,m1,m2⟩,rfl⟩:=hx
  simp only [IntKind.min,IntKind.max,IntKind.signed,IntKind.bits,if_true] at n1 n2 m1 m2
  have n1' : -128≤n:=by simpa using n1
  have n2' : n≤127:=by simpa using n2
  have m1' : -128≤m:=by simpa using m1
  have m2' : m≤127:=by simpa using m2
  refine ⟨(n,m) :: l,by simp only [List.flatten_cons,h1];rfl,by simp [h2],fun y hy => ?_⟩
  rcases List.mem_cons.1 hy with rfl | hy
  ·exact ⟨⟨n1', n2'⟩,m1', m2'⟩
  ·exact h3 y hy
abbrev TyShk:Ty:=.agg [.agg [.agg [.int .i64,.int .i64],.agg [.int .i64,.int .i64]],.int .i64,.slice 2 TyBy,.int .u8,.int .u16]
theorem Qpm {v:V} (h:TyShk.val v):∃ (a b d e r:Int) (Bs:List (Int × Int)) (fill:UInt8) (px:Nat),v = .agg [.int .i64 a,.int .i64 b,.int .i64 d,.int .i64 e,.int .i64 r,.sl false Bs.length (byC Bs),.int .u8 (fill.toNat:Nat),.int .u16 (px:Nat)]∧px≤65535∧∀ x∈Bs,(-128≤x.1∧x.1≤127)∧(-128≤x.2∧x.2≤127):=by
 rw [TyShk] at h
 simp only [Ty.val] at h
 obtain ⟨l,rfl,h⟩:=h
 rw [Ty.hasAll] at h
 obtain ⟨A,B,rfl,hA,hB⟩:=h
 simp only [Ty.has,Ty.hasAll] at hA
 obtain ⟨_,_,rfl,⟨_,_,rfl,⟨a,rfl,_⟩,_,_,rfl,⟨b,rfl,_⟩,rfl⟩,_,_,rfl,⟨_,_,rfl,⟨d,rfl,_⟩,_,_,rfl,⟨e,rfl,_⟩,rfl⟩,rfl⟩:=hA
 simp only [Ty.hasAll] at hB
 obtain ⟨_,_,rfl,hr,_,_,rfl,hs,_,_,rfl,hf,_,_,rfl,hp,rfl⟩:=hB
 obtain ⟨r,rfl,_⟩:=hasI hr
 obtain ⟨f,rfl⟩:=hasU8 hf
 obtain ⟨px,rfl,p1,p2⟩:=hasI hp
 simp only [IntKind.min,IntKind.max,IntKind.signed,IntKind.bits,Bool.false_eq_true,if_false] at p1 p2
 have p2' : px≤65535:=by simpa using p2
 obtain ⟨n,rfl⟩:=Int.eq_ofNat_of_zero_le (show 0≤px from p1)
 rw [Ty.has] at hs
 obtain ⟨xs,rfl,hx⟩:=hs
 obtain ⟨l,h1,h2,h3⟩:=Qfe hx
 exact ⟨a,b,d,e,r,l,f,n,by rw [h1,h2];rfl,by omega,h3⟩
end Go.Dr.T
namespace Go.Dr.T
theorem tab_mono {P:Program} {name:String} {kk:IntKind} {zs:List Int} {g:Nat} (hg:P.globalNamed name=some g) {w w' : World} (h:Go.RowKit.Below (g+1) w w') (t:Lib.TabIs P w name kk zs):Lib.TabIs P w' name kk zs:=by
 unfold Lib.TabIs World.var? at t ⊢
 rw [hg] at t ⊢
 simp only [Option.bind_some] at t ⊢
 rw [h.block g (Nat.lt_succ_self g)]
 exact t
theorem Qll {P:Program} {name:String} {kk:IntKind} {zs:List Int} {g:Nat} (hg:P.globalNamed name=some g) {w:World} (t:Lib.TabIs P w name kk zs):g+1≤w.heap.size:=by
 unfold Lib.TabIs World.var? at t
 rw [hg] at t
 simp only [Option.bind_some] at t
 split at t
 ·rename_i h
  exact (Array.getElem?_eq_some_iff.1 h).1
 ·cases t
theorem Qo1 {P:Program} {W:World} {name:String} {kk:IntKind} {zs:List Int} {g t e n:Nat}
  (hg:P.globalNamed name=some g) (hty:(P.globals[g]?).map (·.type)=some t) (ht:P.underlying t=some (.array n e)) (he:P.underlying e=some (.int kk)) (hce:P.cellsOf e=1) (hct:P.cellsOf t=n) :
  ∀ {l:List (String × DataW Unit)} {ps:List MemPlace},DataW.LaidVars P W l ps→(name,Lib.tabData kk zs)∈l→Lib.TabIs P W name kk zs
 | [],_,_,hm=>by cases hm
 | (n', d) :: l,ps,h,hm=>by
  obtain ⟨g', t', cs,fuel,p,q,hg', ht', hvar,hd,hr,_⟩:=h
  rcases List.mem_cons.1 hm with e0 | hm
  ·cases e0
   obtain rfl:=Option.some.inj (hg.symm.trans hg')
   obtain rfl:=Option.some.inj (hty.symm.trans ht')
   unfold Lib.TabIs
   rw [hvar, ← Lib.cells_of_tab ht he hce hct hd]
  ·exact Qo1 hg hty ht he hce hct hr hm
end Go.Dr.T
