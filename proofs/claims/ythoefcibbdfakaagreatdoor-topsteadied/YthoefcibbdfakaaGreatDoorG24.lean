/- Top: law TopSteadied, walked: what follows the film, where no frame is moved. -/
import Derived.Test.YthoefcibbdfakaaGreatDoorR18Wb
import Derived.Test.YthoefcibbdfakaaGreatDoorG16
namespace Go.Dr.T
theorem Q80 {c d:Bool} {l:List Fm} {W H:Nat} {ss:List Sp} (o:FOk l W H) (hs:ss.length≤20):∃ B:List Fm,FSm B l∧FunF FB1 md 13 [.sl c l.length (fmC (rnF W H l ss)),.sl d ss.length (lgC (rnC W H l ss))] (.tup [.sl false l.length (fmC B),.int .i64 0,.int .i64 0]):=by
 have oF:=Q6o (ss:=ss) o
 have hl:(rnF W H l ss).length=l.length:=Q2m
 have hL:(rnC W H l ss).length=ss.length:=Q21
 have hu:=Qnw (ss:=ss) o ss.length (Nat.le_refl _)
 rw [Nat.sub_self,List.take_zero] at hu
 have h:=Qlg (c:=c) (d:=d) (l:=rnF W H l ss) (L:=rnC W H l ss) (W:=W) (H:=H) oF (by omega) (fun x hx=>by
  have:=Qca (ss:=ss) o x hx
  rw [hl];exact this) oF.fl (fun _=>rfl) (fun i hi hpre hno=>absurd (hu.2 i (by omega)) hno)
 refine ⟨mkF (rnF W H l ss) (unT (pxL (rnF W H l ss)) (rnC W H l ss) (rnC W H l ss).length),Qma oF o hl ?_,?_⟩
 ·rw [hL]
  exact hu.1
 ·rw [hL] at h ⊢
  rw [hl] at h
  exact h.tab sub1
theorem Qon {n:Nat} {w h:Int}:∀ {ss:List Sp} {i:Nat},(∀ s∈ss,spE n w h s=0)→(csF n w h ss i).2=0
 | [],_,_=>rfl
 | t :: ss,i,e=>by
  rw [csF,if_neg (fun q=>q (e t (by simp)))]
  exact Qon fun s hs=>e s (by simp [hs])
theorem Qkl {l:List Fm} {ss:List Sp} {W H:Nat} (o:FOk l W H) (h20:ss.length≤20) (hs:∀ s∈ss,spE l.length W H s=0):(csE l ss).2=0:=by
 have e1:=o.fl
 obtain ⟨f,hf,f1,f2,_⟩:=o.at o.n0
 unfold csE
 rw [if_neg (fun q=>q e1),if_neg (by omega),Qom hf,f1,f2]
 exact Qon hs
set_option maxRecDepth 100000 in
set_option maxHeartbeats 20000000 in
theorem Qi2 {W H:Nat} {c cb:Bool} {p:List UInt8} {a b d e r:Int} {Bs:List (Int × Int)} {fill:UInt8} {px:Nat} {n6:Int} {g43 g47:Bool} {g45 g46 v:V} {G:List B} (h1:1≤W∧W≤48) (h2:1≤H∧H≤48) (hp:p.length=W * H) (hpx:px≤65535) (hg:(g45 = .tup []∧g46 = .tup [])∨∃ x y,g45 = .int .i64 x∧g46 = .bool y) (w:WF (frC W H c p) (shC' cb a b d e r Bs fill px) (shF c W H p fill []) v G):wp FB1 md 0 Qad ⟨TM3 W H c cb p a b d e r Bs fill px v n6 g43 g47 g45 g46,G⟩ (Leaves c3z.res (.bool true)):=by
 have k5:=Qgq
 have o:=Qap (c:=c) (p:=p) (fill:=fill) (D:=[]) h1 h2 hp (Nat.zero_le _)
 have o' := Q52 o
 have hv:v = .sl true 1 (fmC (shF c W H p fill [])):=by
  rcases w.film with ⟨_,h⟩ | ⟨q,q1,q1', h,hq⟩
  ·exact h
  ·exact absurd q1' (by show ¬ 2≤1;decide)
 subst hv
 have he:(csE (shF c W H p fill []) []).2=0:=Qkl o (Nat.zero_le _) fun s hs=>by cases hs
 have k8:Fun FB1 md 8 [.sl true 1 (frC W H c p),.sl true 0 []] (.tup [.sl false 1 (frC W H false p),.sl true 0 [],.int .i64 0]):=tabF (Qo5 (c:=true) (d:=true) (ss:=[]) o (Nat.zero_le _) (fun s hs=>by cases hs) he)
 have k9:Fun FB1 md 9 _ _:=tabF (T7.sameR_any W H false p W H c p)
 rw [show (decide ((W:Int)=W) && decide ((H:Int)=H) && (p == p))=true by simp] at k9
 obtain ⟨B,hB,hBu⟩:=Q80 (c:=false) (d:=true) (ss:=[]) o' (Nat.zero_le _)
 have k13:Fun FB1 md 13 [.sl false 1 (frC W H false p),.sl true 0 []] (.tup [.sl false 1 (fmC B),.int .i64 0,.int .i64 0]):=FunF.fun hBu
 have hBl:B.length=1:=hB.len.trans (by rw [Q0u];rfl)
 have k14:Fun FB1 md 14 [.sl false 1 (fmC B),.sl true 1 (frC W H c p)] (.bool true):=by
  have:=tabF (Q8p (c:=false) (d:=true) (A:=B) (B:=shF c W H p fill []) (by omega) ⟨hBl,fun i f g hf hg=>by
   have:=hB.eq i f _ hf (Q9z hg)
   exact this⟩)
  rw [hBl] at this
  exact this
 have d0:=w.b0
 have d1:=w.b1
 unfold frC at d0 k8 k13 k14
 have h01:0<1:=by decide
 have hf1:part [V.int .i64 (W:Nat),.int .i64 (H:Nat),.sl false p.length (ofBytes p)] (0 * 3) 3=some [V.int .i64 (W:Nat),.int .i64 (H:Nat),.sl false p.length (ofBytes p)]:=rfl
 unfold shC' at d1
 unfold TM3 Qad Qgr Ql8
 have hp0:(p.length:Int)≠0:=by rw [hp];have:=Nat.mul_le_mul h1.1 h2.1;omega
 have hmod:(px:Int).tmod (p.length:Int)=((px % p.length:Nat):Int):=by rw [Int.ofNat_tmod]
 have hpw:IntKind.i64.wrap ((px:Nat):Int)=(px:Int):=wrap_i64 (by omega) (by omega)
 repeat' (first
 | (conv=>whnf)
   first
   | refine fLen.mk ?_
   | refine fB.i0 ?_)
 all_goals try (exfalso;omega;done)
 refine LoopP.by (fun _:Unit=>True) (fun _=>[]) (fun _=>G) (fun _=>0) () trivial rfl ?_
 intro _ _
 dsimp only
 repeat' (first
 | (conv=>whnf)
   first
   | refine Bnd.eq hmod ?_
   | refine Bnd.eq hpw ?_
   | refine Br.f ?_
   | refine fLen.mk ?_
   | refine fB.i0 ?_
   | refine Get.mk _ d0 ?_
   | refine Get.mk _ d1 ?_
   | refine Req.mk hp0 ?_
   | refine Get.mk _ hf1 ?_
   | refine Req.mk h01 ?_
   | refine Q00 rfl rfl k8 (.inl rfl) ?_
   | refine Q00 rfl rfl k9 (.inl rfl) ?_
   | refine fB.mk ?_
   | (refine Idx.int ?_ ?_ ?_;(focus omega);(focus omega))
   | refine Get.mk _ rfl ?_
   | (refine Req.mk ?_ ?_;(focus first | rfl | decide | exact ⟨rfl,rfl⟩ | exact ⟨rfl,by decide⟩ | exact (fun _=>rfl) | exact (fun h=>nomatch h) | (simp;done) | omega | (simp [big];done) | exact Q02 (by omega) | exact Q01 (by omega))))
 all_goals try (exfalso;omega;done)
 refine LoopP.by (fun _:Unit=>True) (fun _=>[]) (fun _=>G) (fun _=>0) () trivial rfl ?_
 intro _ _
 dsimp only
 repeat' (first
 | (conv=>whnf)
   first
   | refine Br.t ?_
   | refine Br.f ?_
   | refine fLen.mk ?_
   | refine fB.i0 ?_
   | refine Q00 rfl rfl k5 (.inl rfl) ?_
   | refine Q00 rfl rfl k13 (.inl rfl) ?_
   | refine Q00 rfl rfl k14 (.inl rfl) ?_
   | refine fB.mk ?_
   | refine Get.mk _ rfl ?_
   | refine Leaves.of ?_
   | refine Vw.bool ?_)
 all_goals first | rfl | (exfalso;omega;done)
end Go.Dr.T
namespace Go.Dr.T
set_option maxRecDepth 100000 in
set_option maxHeartbeats 20000000 in
theorem Qi3 {W H:Nat} {c cb:Bool} {p:List UInt8} {a b d e r k:Int} {Bs:List (Int × Int)} {fill:UInt8} {px:Nat} {n6:Int} {g43 g47:Bool} {g45 g46 v:V} {G:List B} {D:List (Int × Int)} {z:Int × Int} (h1:1≤W∧W≤48) (h2:1≤H∧H≤48) (hp:p.length=W * H) (hDl:D.length≤11) (hz:D[0]?=some z) (hk:k≠0)
  (hS:∀ (c c' : Bool) (l l' : List UInt8),l.length=W * H→l'.length=W * H→Fun FB md 7 [T7.frV W H c l,T7.frV W H c' l', T7.winV a b d e,.int .i64 r] (T7.noS k)) (w:WF (frC W H c p) (shC' cb a b d e r Bs fill px) (shF c W H p fill D) v G):wp FB1 md 0 Qad ⟨TM3 W H c cb p a b d e r Bs fill px v n6 g43 g47 g45 g46,G⟩ (Leaves c3z.res (.bool true)):=by
 have k5:=Qgq
 have hl0:=(List.getElem?_eq_some_iff.1 hz).1
 have hFl:=Q2l (c:=c) (W:=W) (H:=H) (p:=p) (fill:=fill) (D:=D)
 rcases w.film with ⟨h,_⟩ | ⟨q,q1,q2,rfl,hq⟩
 ·omega
 have hp1:=Q42 (Qeb (c:=c) (W:=W) (H:=H) (p:=p) (fill:=fill) hz)
 have hp2:=hp1
 rw [← Nat.zero_add ((0+1) * 3)] at hp2
 have k7:=tabF (hS c false p (T7.moveL W H p z.1 z.2 fill (W * H)) hp (T7.moveL_length ..))
 unfold mvF at hp2
 dsimp only at hp2
 generalize T7.moveL W H p z.1 z.2 fill (W * H)=pm at *
 have hG2:=w.le
 have hql:=Q03 hq
 have heq:eqc [0,0,0] [.int .i64 0,.int .i64 0,.int .i64 0] [.int .i64 0,.int .i64 0,.int .i64 0]=some true:=rfl
 have d0:=w.b0
 have d1:=w.b1
 have hlen3:(fmC (shF c W H p fill D)).length=(shF c W H p fill D).length * 3:=Q0c _
 have hx1:(1:Nat)≤(shF c W H p fill D).length - 1:=by omega
 have hx0:0<(shF c W H p fill D).length:=by omega
 unfold frC at d0
 unfold shC' at d1
 unfold TM3 Qad
 repeat' (first
 | (conv=>whnf)
   first
   | refine fLen.mk ?_
   | refine fB.i0 ?_)
 all_goals try (exfalso;omega;done)
 refine LoopP.by (fun _:Unit=>True) (fun _=>[]) (fun _=>G) (fun _=>0) () trivial rfl ?_
 intro _ _
 dsimp only
 repeat' (first
 | (conv=>whnf)
   first
   | refine Br.t ?_
   | (refine Br.decT ?_ ?_;(focus first | assumption | omega))
   | (refine Br.decF ?_ ?_;(focus first | assumption | omega))
   | refine Br.not ?_
   | refine fLen.mk ?_
   | refine fB.i0 ?_
   | refine fB.i1 ?_
   | refine Get.mk _ (bget_app d0) ?_
   | refine Get.mk _ (bget_app d1) ?_
   | refine Get.mk _ (bget_app hq) ?_
   | refine Get.mk _ hp2 ?_
   | refine Get.mk _ heq ?_
   | refine Req.mk hlen3 ?_
   | refine Idx.nat hx1 ?_
   | refine Req.mk hx0 ?_
   | refine Q00 rfl rfl k7 (.inl rfl) ?_
   | refine Q00 rfl rfl k5 (.inl rfl) ?_
   | (refine Q8g ?_ ?_;(focus repeat' (first | exact Q40 | refine Q0e rfl ?_ | refine Q0e (Q8l (by omega)) ?_ | refine Q0e (Q8k (by omega)) ?_ | refine Q0e (Q8m (by omega)) ?_)))
   | refine Get.newj 0 rfl rfl ?_
   | refine fB.newj 0 rfl ?_
   | refine fB.mk ?_
   | refine Get.mk _ rfl ?_
   | refine Leaves.of ?_
   | refine Vw.bool ?_
   | (refine Req.mk ?_ ?_;(focus first | rfl | decide | exact ⟨rfl,rfl⟩ | exact ⟨rfl,by decide⟩ | exact (fun _=>rfl) | exact (fun h=>nomatch h) | (simp;done) | omega | (simp [big];done) | exact Q02 (by omega) | exact Q01 (by omega))))
 all_goals first | rfl | (exfalso;omega;done)
end Go.Dr.T
namespace Go.Dr.T
def spOf (fill:UInt8) (j:Nat) (m:T7.Sh3):Sp:=⟨1,((j+1:Nat):Int),((j+1:Nat):Int),true,[],0 - m.1,0 - m.2.1,((fill.toNat:Nat):Int),true,[]⟩
def Q0l (fill:UInt8) (M:List T7.Sh3):List Sp:=M.mapIdx (spOf fill)
section
variable {fill:UInt8} {M:List T7.Sh3}
theorem Q95:(Q0l fill M).length=M.length:=by simp [Q0l]
theorem Qhu {j:Nat} {m:T7.Sh3} (h:M[j]?=some m):(Q0l fill M)[j]?=some (spOf fill j m):=by
 unfold Q0l
 rw [List.getElem?_mapIdx,h]
 rfl
theorem Q5c {j:Nat} {s:Sp} (h:(Q0l fill M)[j]?=some s):∃ m,M[j]?=some m∧s=spOf fill j m:=by
 unfold Q0l at h
 rw [List.getElem?_mapIdx] at h
 cases hm:M[j]? with
 | none=>rw [hm] at h;cases h
 | some m=>rw [hm] at h;cases h;exact ⟨m,rfl,rfl⟩
theorem Qln {m:T7.Sh3}:Q0l fill (M++[m])=Q0l fill M++[spOf fill M.length m]:=by
 unfold Q0l
 rw [List.mapIdx_append]
 simp
theorem sps_shift:ShS (Q0l fill M) :=
 ⟨fun j s h=>by obtain ⟨m,_,rfl⟩:=Q5c h;rfl,fun j s h=>by obtain ⟨m,_,rfl⟩:=Q5c h;rfl,fun j s h=>by obtain ⟨m,_,rfl⟩:=Q5c h;rfl,fun j s h=>by obtain ⟨m,_,rfl⟩:=Q5c h;rfl⟩
theorem Qe7:Bare (Q0l fill M):=fun s hs=>by
 obtain ⟨j,hj⟩:=List.getElem?_of_mem hs
 obtain ⟨m,_,rfl⟩:=Q5c hj
 exact ⟨rfl,rfl,rfl,rfl⟩
theorem Qht {N:Nat} {w h:Int} (hN:M.length<N) (hm:∀ m∈M,(-12≤m.1∧m.1≤12)∧(-12≤m.2.1∧m.2.1≤12)):∀ s∈Q0l fill M,spE N w h s=0:=fun s hs=>by
 obtain ⟨j,hj⟩:=List.getElem?_of_mem hs
 obtain ⟨m,hmj,rfl⟩:=Q5c hj
 have hj2:=(List.getElem?_eq_some_iff.1 hmj).1
 have hr:=hm m (List.mem_of_getElem? hmj)
 have hf:=UInt8.toNat_lt fill
 have o1:outB (0 - m.1) (-47) 47=false:=by simp only [outB,Bool.or_eq_false_iff,decide_eq_false_iff_not];omega
 have o2:outB (0 - m.2.1) (-47) 47=false:=by simp only [outB,Bool.or_eq_false_iff,decide_eq_false_iff_not];omega
 have o3:outB ((fill.toNat:Nat):Int) 0 255=false:=by simp only [outB,Bool.or_eq_false_iff,decide_eq_false_iff_not];omega
 have hodd:oddS w (spOf fill j m)=false:=by
  show (outB (0 - m.1) (-47) 47 || outB (0 - m.2.1) (-47) 47 || outB ((fill.toNat:Nat):Int) 0 255 || decide ((1:Int)=3) && _)=false
  rw [o1,o2,o3]
  rfl
 have o4:¬ (outB (spOf fill j m).un 0 ((N:Int) - 1)=true∨outB (spOf fill j m).fr 0 (spOf fill j m).un=true):=by
  show ¬ (outB ((j+1:Nat):Int) 0 ((N:Int) - 1)=true∨outB ((j+1:Nat):Int) 0 ((j+1:Nat):Int)=true)
  simp only [outB,Bool.or_eq_true,decide_eq_true_eq]
  omega
 unfold spE
 rw [if_neg (by show ¬ outB 1 1 6=true;decide),if_neg o4,if_neg (by show ¬ 6<0;decide),if_neg (by rw [hodd];simp [spOf]),if_neg (by simp [spOf])]
end
structure WS (fv sv:List V) (F:List Fm) (q:Nat) (S:List Sp) (M:List T7.Sh3) (st sh:V) (G:List B):Prop where
 cl:Cl G
 le:2≤G.length
 b0:bget G 0=some (.blk fv false)
 b1:bget G 1=some (.blk sv false)
 q2:2≤q
 bq:bget G q=some (.blk (fmC F) false)
 tv:(S=[]∧M=[]∧st = .nilsl∧sh = .nilsl)∨∃ s1 s2,(2≤s1∧2≤s2∧s1≠q∧s2≠q∧s1≠s2)∧S≠[]∧st = .ms 8 s1 (S.length * 8) 0 S.length false∧bget G s1=some (.blk (stC S) false)∧sh = .ms 3 s2 (M.length * 3) 0 M.length false∧bget G s2=some (.blk (T7.ofS3 M) true)
section
variable {fv sv:List V} {F:List Fm} {q:Nat} {S:List Sp} {M:List T7.Sh3} {st sh:V} {G:List B}
theorem WS.norm {mk:List Bool} {tm:List V} {m i j k:Nat} (e:WS fv sv F q S M st sh G) (hm:2≤m) (hm2:m≤G.length) (hq:tg (Q0r mk tm) i = .ms 3 q (F.length * 3) 0 F.length false) (hs:tg (Q0r mk tm) j=st) (hh:tg (Q0r mk tm) k=sh):WS fv sv F q S M st sh (norm mk m ⟨tm,G⟩).h:=by
 refine ⟨Q4e hm2 e.cl,Nat.le_trans hm (Q1f (s:=⟨tm,G⟩) hm2),Q3s hm2 e.cl (by omega) e.b0,Q3s hm2 e.cl (by omega) e.b1,e.q2,Q1m (i:=i) hm2 (fun z hz=>by rw [hq] at hz;exact of_decide_eq_true hz) e.bq,?_⟩
 rcases e.tv with h | ⟨s1,s2,h1,h2,rfl,h4,rfl,h6⟩
 ·exact .inl h
 ·exact .inr ⟨s1,s2,h1,h2,rfl,Q1m (i:=j) hm2 (fun z hz=>by rw [hs] at hz;exact of_decide_eq_true hz) h4,rfl,Q1m (i:=k) hm2 (fun z hz=>by rw [hh] at hz;exact of_decide_eq_true hz) h6⟩
theorem WS.app {X:List B} (e:WS fv sv F q S M st sh G) (hX:hasc G.length X):WS fv sv F q S M st sh (G++X):=by
 refine ⟨Q1z e.cl hX,by rw [List.length_append];have:=e.le;omega,bget_app e.b0,bget_app e.b1,e.q2,bget_app e.bq,?_⟩
 rcases e.tv with h | ⟨s1,s2,h1,h2,h3,h4,h5,h6⟩
 ·exact .inl h
 ·exact .inr ⟨s1,s2,h1,h2,h3,bget_app h4,h5,bget_app h6⟩
theorem ofS3_snoc:∀ {L:List T7.Sh3} {m:T7.Sh3},T7.ofS3 (L++[m])=T7.ofS3 L++[.int .i64 m.1,.int .i64 m.2.1,.int .i64 m.2.2]
 | [],_=>rfl
 | _ :: L,m=>by simp only [List.cons_append,T7.ofS3,ofS3_snoc (L:=L)]
theorem WS.first {s:Sp} {m:T7.Sh3} {k1 k2:Nat} (e:WS fv sv F q [] [] .nilsl .nilsl G) (hk2:k2=G.length) (hk1:k1=G.length+2):WS fv sv F q [s] [m] (.ms 8 k1 8 0 1 false) (.ms 3 k2 3 0 1 false) ((G++[.blk [.int .i64 m.1,.int .i64 m.2.1,.int .i64 m.2.2] true])++[.unborn,.blk (spN s) false]):=by
 subst hk1 hk2
 have hl:=e.le
 have hq:=Q03 e.bq
 have hX1:hasc G.length [B.blk [.int .i64 m.1,.int .i64 m.2.1,.int .i64 m.2.2] true]:=⟨rfl,trivial⟩
 have hX2:hasc (G++[B.blk [.int .i64 m.1,.int .i64 m.2.1,.int .i64 m.2.2] true]).length [B.unborn,B.blk (spN s) false]:=⟨rfl,rfl,trivial⟩
 have hn:(G++[B.blk [.int .i64 m.1,.int .i64 m.2.1,.int .i64 m.2.2] true]).length=G.length+1:=by rw [List.length_append];rfl
 have h8:bget ((G++[B.blk [.int .i64 m.1,.int .i64 m.2.1,.int .i64 m.2.2] true])++[.unborn,.blk (spN s) false]) (G.length+2)=some (.blk (spN s) false):=by
  have:=bget_new (h:=G++[B.blk [.int .i64 m.1,.int .i64 m.2.1,.int .i64 m.2.2] true]) (g:=[.unborn,.blk (spN s) false]) (i:=1)
  rw [hn] at this
  exact this
 exact ⟨Q1z (Q1z e.cl hX1) hX2,by rw [List.length_append,hn];omega,bget_app (bget_app e.b0),bget_app (bget_app e.b1),e.q2,bget_app (bget_app e.bq),.inr ⟨G.length+2,G.length,⟨by omega,by omega,by omega,by omega,by omega⟩,by simp,rfl,h8,rfl,bget_app (bget_new (i:=0))⟩⟩
theorem WS.more {s:Sp} {m:T7.Sh3} {s1 s2 a1 a2 n1 n2:Nat} (e:WS fv sv F q S M (.ms 8 s1 (S.length * 8) 0 S.length false) (.ms 3 s2 (M.length * 3) 0 M.length false) G) (ha1:a1=S.length * 8+8) (ha2:a2=M.length * 3+3) (hn1:n1=S.length+1) (hn2:n2=M.length+1):WS fv sv F q (S++[s]) (M++[m]) (.ms 8 s1 a1 0 n1 false) (.ms 3 s2 a2 0 n2 false) (bset ((bset (G++[.unborn]) s2 (.blk (T7.ofS3 M++[.int .i64 m.1,.int .i64 m.2.1,.int .i64 m.2.2]) true))++[.unborn,.unborn]) s1 (.blk (stC S++spN s) false)):=by
 subst ha1 ha2 hn1 hn2
 have hl:=e.le
 have hq:=Q03 e.bq
 rcases e.tv with ⟨_,_,h,_⟩ | ⟨t1,t2,⟨h1,h2,h3,h4,h5⟩,h6,h7,h8,h9,h10⟩
 ·cases h
 cases h7
 cases h9
 have b8:=Q03 h8
 have b10:=Q03 h10
 rw [← ofS3_snoc, ← stC_snoc]
 have hX:hasc G.length [B.unborn]:=⟨rfl,trivial⟩
 have c1:Cl (bset (G++[.unborn]) s2 (.blk (T7.ofS3 (M++[m])) true)):=(Q1z e.cl hX).set rfl
 have hX2:hasc (bset (G++[.unborn]) s2 (.blk (T7.ofS3 (M++[m])) true)).length [B.unborn,B.unborn]:=⟨rfl,rfl,trivial⟩
 have hlen:(bset (G++[.unborn]) s2 (.blk (T7.ofS3 (M++[m])) true)).length=G.length+1:=by rw [bset_len,List.length_append];rfl
 have keep:∀ {i:Nat} {z:B},i≠s1→i≠s2→bget G i=some z→bget (bset ((bset (G++[.unborn]) s2 (.blk (T7.ofS3 (M++[m])) true))++[.unborn,.unborn]) s1 (.blk (stC (S++[s])) false)) i=some z:=fun hi1 hi2 hz=>by
  rw [bset_other (Ne.symm hi1)]
  exact bget_app ((bset_other (Ne.symm hi2)).trans (bget_app hz))
 refine ⟨(Q1z c1 hX2).set (by show (false || blos _ _)=true;rw [Bool.false_or];exact Qe5 _),by rw [bset_len,List.length_append,hlen];omega,keep (by omega) (by omega) e.b0,keep (by omega) (by omega) e.b1,e.q2,keep (Ne.symm h3) (Ne.symm h4) e.bq,.inr ⟨s1,s2,⟨h1,h2,h3,h4,h5⟩,by simp,by rw [List.length_append];simp only [List.length_cons,List.length_nil];rw [Nat.add_mul],bget_same (by rw [List.length_append,hlen];omega),by rw [List.length_append];simp only [List.length_cons,List.length_nil];rw [Nat.add_mul],?_⟩⟩
 rw [bset_other h5]
 exact bget_app (bget_same (by rw [List.length_append];omega))
end
end Go.Dr.T
