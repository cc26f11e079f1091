/- Top: law TopSteadied, walked: the steps. -/
import Derived.Test.YthoefcibbdfakaaGreatDoorR18Wh
namespace Go.Dr.T
theorem Qhq {α:Type} {L:List α} {t:Nat} {x:α} (h:L[t]?=some x):L.take (t+1)=L.take t++[x]:=by rw [List.take_add_one,h];rfl
structure WJ where
 k:Nat
 st:V
 sh:V
 G:List B
set_option maxRecDepth 100000 in
set_option maxHeartbeats 20000000 in
theorem Qlx {W H:Nat} {c cb:Bool} {p:List UInt8} {a b d e r:Int} {Bs:List (Int × Int)} {fill:UInt8} {px:Nat} {n6:Int} {g43 g47:Bool} {g45 g46:V} {G0:List B} {D:List (Int × Int)} {M:List T7.Sh3} {q:Nat} (h1:1≤W∧W≤48) (h2:1≤H∧H≤48) (hp:p.length=W * H) (hDl:D.length≤11) (hD0:0<D.length) (hMl:M.length=D.length) (hMr:∀ m∈M,(-12≤m.1∧m.1≤12)∧(-12≤m.2.1∧m.2.1≤12))
  (hS:∀ (j:Nat) (z:Int × Int) (m:T7.Sh3),D[j]?=some z→M[j]?=some m→Fun FB md 7 [T7.frV W H c p,T7.frV W H false (T7.moveL W H p z.1 z.2 fill (W * H)),T7.winV a b d e,.int .i64 r] (.tup [T7.sh3V m,.int .i64 0])) (hg:(g45 = .tup []∧g46 = .tup [])∨∃ x y,g45 = .int .i64 x∧g46 = .bool y) (w:WS (frC W H c p) (shC' cb a b d e r Bs fill px) (shF c W H p fill D) q [] [] .nilsl .nilsl G0)
  (hrest:∀ (st sh:V) (n11 n100:Int) (b101:Bool) (G:List B),WS (frC W H c p) (shC' cb a b d e r Bs fill px) (shF c W H p fill D) q (Q0l fill M) M st sh G→wp FB1 md 0 Qgr ⟨TM4 W H c cb p a b d e r Bs fill px (.ms 3 q ((shF c W H p fill D).length * 3) 0 (shF c W H p fill D).length false) n6 g43 g47 g45 g46 st sh n11 n100 b101,G⟩ (Leaves c3z.res (.bool true))):wp FB1 md 0 Qad ⟨TM3 W H c cb p a b d e r Bs fill px (.ms 3 q ((shF c W H p fill D).length * 3) 0 (shF c W H p fill D).length false) n6 g43 g47 g45 g46,G0⟩ (Leaves c3z.res (.bool true)):=by
 have k5:=Qgq
 have hFl:=Q2l (c:=c) (W:=W) (H:=H) (p:=p) (fill:=fill) (D:=D)
 have hq:=w.bq
 have hG0:=w.le
 have hlen3:(fmC (shF c W H p fill D)).length=(shF c W H p fill D).length * 3:=Q0c _
 unfold TM3 Qad
 repeat' (first
 | (conv=>whnf)
   first
   | refine fLen.mk ?_
   | refine fB.i0 ?_)
 all_goals try (exfalso;omega;done)
 refine LoopP.by (fun x:WJ=>x.k≤D.length∧WS (frC W H c p) (shC' cb a b d e r Bs fill px) (shF c W H p fill D) q (Q0l fill (M.take x.k)) (M.take x.k) x.st x.sh x.G∧G0.length≤x.G.length) (fun x=>[(9,x.st),(10,x.sh),(11,.int .i64 ((x.k+1:Nat):Int))]) (fun x=>x.G) (fun x=>D.length - x.k) ⟨0,.nilsl,.nilsl,G0⟩ ⟨Nat.zero_le _,w,Nat.le_refl _⟩ rfl ?_
 rintro ⟨k,st,sh,G⟩ ⟨u1,u2,u3⟩
 dsimp only at u1 u2 u3 ⊢
 have d0:=u2.b0
 have d1:=u2.b1
 have hbq:=u2.bq
 have hG2:=u2.le
 have hql:=Q03 hbq
 unfold frC at d0
 unfold shC' at d1
 by_cases hk:k<D.length
 ·obtain ⟨z,hz⟩:∃ z,D[k]?=some z:=⟨_,List.getElem?_eq_getElem hk⟩
  obtain ⟨m,hm⟩:∃ m,M[k]?=some m:=⟨_,List.getElem?_eq_getElem (by omega)⟩
  have hr:=hMr m (List.mem_of_getElem? hm)
  have k7:=tabF (hS k z m hz hm)
  have hp2:=Q42 (Qeb (c:=c) (W:=W) (H:=H) (p:=p) (fill:=fill) hz)
  rw [← Nat.zero_add ((k+1) * 3)] at hp2
  unfold mvF at hp2
  dsimp only at hp2
  generalize T7.moveL W H p z.1 z.2 fill (W * H)=pm at *
  have hkl:k+1≤(shF c W H p fill D).length - 1:=by omega
  have hx0:0<(shF c W H p fill D).length:=by omega
  have hkw:IntKind.i64.wrap (((k+1:Nat):Int)+1)=((k+1+1:Nat):Int):=by rw [wrap_i64 (by omega) (by omega)];omega
  have hmx:max (max (max m.1 (0 - m.1)) m.2.1) (0 - m.2.1)=max (max (max m.1 (0 - m.1)) m.2.1) (0 - m.2.1):=rfl
  have hm12:¬ (12:Int)<max (max (max m.1 (0 - m.1)) m.2.1) (0 - m.2.1):=by omega
  have hn1:IntKind.i64.wrap (-m.1) = -m.1:=wrap_i64 (by omega) (by omega)
  have hn2:IntKind.i64.wrap (-m.2.1) = -m.2.1:=wrap_i64 (by omega) (by omega)
  have hff:=UInt8.toNat_lt fill
  have hfw:IntKind.i64.wrap ((fill.toNat:Nat):Int)=(fill.toNat:Int):=wrap_i64 (by omega) (by omega)
  have htk:=Qhq hm
  have hsk:Q0l fill (M.take (k+1))=Q0l fill (M.take k)++[spOf fill k m]:=by
   rw [htk,Qln,List.length_take,Nat.min_eq_left (by omega)]
  rcases u2.tv with ⟨e1,e2,rfl,rfl⟩ | ⟨s1,s2,hss,hSn,rfl,hs1,rfl,hs2⟩
  ·repeat' (first
 | (conv=>whnf)
   first
   | refine Bnd.eq hkw ?_
   | refine Bnd.eq hfw ?_
   | refine Br.f ?_
   | (refine Br.decT ?_ ?_;(focus first | assumption | omega))
   | (refine Br.decF ?_ ?_;(focus first | assumption | omega))
   | (refine Bnd.i64 ?_ ?_ ?_;(focus omega);(focus omega))
   | refine fLen.mk ?_
   | refine fB.i0 ?_
   | refine fB.i1 ?_
   | refine Get.mk _ (bget_app d0) ?_
   | refine Get.mk _ (bget_app d1) ?_
   | refine Get.mk _ (bget_app hbq) ?_
   | refine Get.mk _ hp2 ?_
   | refine Req.mk hlen3 ?_
   | refine Idx.nat hkl ?_
   | refine Req.mk hx0 ?_
   | refine Q00 rfl rfl k7 (.inl rfl) ?_
   | (refine Q8g ?_ ?_;(focus repeat' (first | exact Q40 | refine Q0e rfl ?_ | refine Q0e (Q8l (by omega)) ?_ | refine Q0e (Q8k (by omega)) ?_ | refine Q0e (Q8m (by omega)) ?_)))
   | refine Get.newj 0 rfl rfl ?_
   | refine fB.newj 0 rfl ?_
   | refine Get.mk _ (bget_app (bget_new (i:=0))) ?_
   | refine Get.mk _ (bget_app (bget_app (bget_new (i:=0)))) ?_
   | refine Get.mk _ (bget_app (bget_app (bget_app d1))) ?_
   | refine Req.mk (bget_new (i:=0)) ?_
   | refine Req.mk (bget_new (i:=1)) ?_
   | refine Get.newj 1 rfl rfl ?_
   | refine fB.newj 1 rfl ?_
   | refine fB.mk ?_
   | refine Bnd.any ?_
   | (refine Ifz.pos ?_ ?_;(focus omega))
   | refine Get.mk _ rfl ?_
   | (refine Req.mk ?_ ?_;(focus first | rfl | decide | exact ⟨rfl,rfl⟩ | exact ⟨rfl,by decide⟩ | exact (fun _=>rfl) | exact (fun h=>nomatch h) | (simp;done) | omega | (simp [big];done) | exact Q02 (by omega) | exact Q01 (by omega))))
   all_goals try (exfalso;omega;done)
   have hk0:k=0:=by
    have h:=congrArg List.length e2
    rw [List.length_take] at h
    simp only [List.length_nil] at h
    omega
   have hX1:hasc G.length [B.blk [.int .i64 m.1,.int .i64 m.2.1,.int .i64 m.2.2] false]:=⟨rfl,trivial⟩
   have u2' := u2
   rw [e1,e2] at u2'
   have hf:=(u2'.app hX1).first (s:=spOf fill k m) (m:=m) (k1:=((G++[B.blk [.int .i64 m.1,.int .i64 m.2.1,.int .i64 m.2.2] false])++[B.blk [.int .i64 m.1,.int .i64 m.2.1,.int .i64 m.2.2] true]).length+1) rfl (by rw [List.length_append];rfl)
   have hsk2:Q0l fill (M.take (k+1))=[spOf fill k m]:=by rw [hsk,e1];rfl
   have htk2:M.take (k+1)=[m]:=by rw [htk,e2];rfl
   rw [← hsk2, ← htk2] at hf
   have hlen:∀ X:List B,G0.length≤((G++[B.blk [.int .i64 m.1,.int .i64 m.2.1,.int .i64 m.2.2] false]++[B.blk [.int .i64 m.1,.int .i64 m.2.1,.int .i64 m.2.2] true])++X).length:=fun X=>by rw [List.length_append,List.length_append,List.length_append];omega
   exact NextP.of (fun h=>WJ.mk (k+1) (.ms 8 (((G++[B.blk [.int .i64 m.1,.int .i64 m.2.1,.int .i64 m.2.2] false])++[B.blk [.int .i64 m.1,.int .i64 m.2.1,.int .i64 m.2.2] true]).length+1) 8 0 1 false) (.ms 3 (G++[B.blk [.int .i64 m.1,.int .i64 m.2.1,.int .i64 m.2.2] false]).length 3 0 1 false) h) ⟨hk,hf.norm (i:=5) (j:=9) (k:=10) hG0 (hlen _) rfl rfl rfl,Q1f (s:=⟨_,_⟩) (hlen _)⟩ (by dsimp only;omega) (by rcases hg with ⟨rfl,rfl⟩ | ⟨_,_,rfl,rfl⟩ <;> rfl)
  ·have b1:=Q03 hs1
   have b2:=Q03 hs2
   have hMk:(M.take k).length=k:=by rw [List.length_take];omega
   have hSk:(Q0l fill (M.take k)).length=k:=by rw [Q95,hMk]
   have hs2' : bget ((G++[B.blk [.int .i64 m.1,.int .i64 m.2.1,.int .i64 m.2.2] false])++[B.unborn]) s2=some (.blk (T7.ofS3 (M.take k)) true):=bget_app (bget_app hs2)
   have hs1' : ∀ z:B,bget ((bset ((G++[B.blk [.int .i64 m.1,.int .i64 m.2.1,.int .i64 m.2.2] false])++[B.unborn]) s2 z)++[B.unborn,B.unborn]) s1=some (.blk (stC (Q0l fill (M.take k))) false):=fun z=>bget_app ((bset_other (by omega)).trans (bget_app (bget_app hs1)))
   have hd1' : ∀ z:B,bget ((bset ((G++[B.blk [.int .i64 m.1,.int .i64 m.2.1,.int .i64 m.2.2] false])++[B.unborn]) s2 z)++[B.unborn,B.unborn]) (0+1)=_:=fun z=>bget_app ((bset_other (by omega)).trans (bget_app (bget_app d1)))
   have hx12:∀ z:B,bget ((bset ((G++[B.blk [.int .i64 m.1,.int .i64 m.2.1,.int .i64 m.2.2] false])++[B.unborn]) s2 z)++[B.unborn,B.unborn]) (G.length+0+0)=some (.blk [.int .i64 m.1,.int .i64 m.2.1,.int .i64 m.2.2] false):=fun z=>bget_app ((bset_other (by omega)).trans (bget_app (bget_new (i:=0))))
   have hl3:(T7.ofS3 (M.take k)).length=(M.take k).length * 3:=by rw [T7.ofS3_length,Nat.mul_comm]
   have hsz3:∀ {y:List V},y.length=3→0+(M.take k).length * 3=(M.take k).length * 3∧((T7.ofS3 (M.take k)).length+y.length) * (24+1)<big:=fun {y} h=>⟨Nat.zero_add _,by rw [hl3,hMk,h];unfold big;omega⟩
   have hsz3:=hsz3 (y:=[V.int .i64 m.1,V.int .i64 m.2.1,V.int .i64 m.2.2]) rfl
   have hsc:true=true→scalars [V.int .i64 m.1,V.int .i64 m.2.1,V.int .i64 m.2.2]=true:=fun _=>rfl
   have hl8:=Q1r (Q0l fill (M.take k))
   have hsz8:∀ {y:List V},y.length=8→0+(Q0l fill (M.take k)).length * 8=(Q0l fill (M.take k)).length * 8∧((stC (Q0l fill (M.take k))).length+y.length) * (96+1)<big:=fun {y} h=>⟨Nat.zero_add _,by rw [hl8,hSk,h];unfold big;omega⟩
   have hsz8:=hsz8 (y:=spN (spOf fill k m)) rfl
   repeat' (first
 | (conv=>whnf)
   first
   | refine Bnd.eq hkw ?_
   | refine Bnd.eq hfw ?_
   | refine Br.f ?_
   | (refine Br.decT ?_ ?_;(focus first | assumption | omega))
   | (refine Br.decF ?_ ?_;(focus first | assumption | omega))
   | (refine Bnd.i64 ?_ ?_ ?_;(focus omega);(focus omega))
   | refine fLen.mk ?_
   | refine fB.i0 ?_
   | refine fB.i1 ?_
   | refine Get.mk _ (bget_app d0) ?_
   | refine Get.mk _ (bget_app d1) ?_
   | refine Get.mk _ (bget_app hbq) ?_
   | refine Get.mk _ hp2 ?_
   | refine Req.mk hlen3 ?_
   | refine Idx.nat hkl ?_
   | refine Req.mk hx0 ?_
   | refine Q00 rfl rfl k7 (.inl rfl) ?_
   | (refine Q8g ?_ ?_;(focus repeat' (first | exact Q40 | refine Q0e rfl ?_ | refine Q0e (Q8l (by omega)) ?_ | refine Q0e (Q8k (by omega)) ?_ | refine Q0e (Q8m (by omega)) ?_)))
   | refine Get.newj 0 rfl rfl ?_
   | refine fB.newj 0 rfl ?_
   | refine Get.mk _ (bget_app (bget_new (i:=0))) ?_
   | refine Get.mk _ hs2' ?_
   | refine Get.mk _ (hs1' _) ?_
   | refine Get.mk _ (hd1' _) ?_
   | refine Get.mk _ (hx12 _) ?_
   | refine Req.mk hl3 ?_
   | refine Req.mk hsz3 ?_
   | refine Req.mk hsc ?_
   | refine Req.mk hl8 ?_
   | refine Req.mk hsz8 ?_
   | refine fB.mk ?_
   | refine Bnd.any ?_
   | (refine Ifz.pos ?_ ?_;(focus omega))
   | refine Get.mk _ rfl ?_
   | (refine Req.mk ?_ ?_;(focus first | rfl | decide | exact ⟨rfl,rfl⟩ | exact ⟨rfl,by decide⟩ | exact (fun _=>rfl) | exact (fun h=>nomatch h) | (simp;done) | omega | (simp [big];done) | exact Q02 (by omega) | exact Q01 (by omega))))
   all_goals try (exfalso;omega;done)
   have hX1:hasc G.length [B.blk [.int .i64 m.1,.int .i64 m.2.1,.int .i64 m.2.2] false]:=⟨rfl,trivial⟩
   have hf:=(u2.app hX1).more (s:=spOf fill k m) (m:=m) rfl rfl rfl rfl
   rw [← hsk, ← htk] at hf
   have hlen:∀ z y:B,G0.length≤(bset ((bset ((G++[B.blk [.int .i64 m.1,.int .i64 m.2.1,.int .i64 m.2.2] false])++[B.unborn]) s2 z)++[B.unborn,B.unborn]) s1 y).length:=fun z y=>by rw [bset_len,List.length_append,bset_len,List.length_append,List.length_append];omega
   exact NextP.of (fun h=>WJ.mk (k+1) (.ms 8 s1 ((Q0l fill (M.take k)).length * 8+8) 0 ((Q0l fill (M.take k)).length+1) false) (.ms 3 s2 ((M.take k).length * 3+3) 0 ((M.take k).length+1) false) h) ⟨hk,hf.norm (i:=5) (j:=9) (k:=10) hG0 (hlen _ _) rfl rfl rfl,Q1f (s:=⟨_,_⟩) (hlen _ _)⟩ (by dsimp only;omega) (by rcases hg with ⟨rfl,rfl⟩ | ⟨_,_,rfl,rfl⟩ <;> rfl)
 obtain rfl:k=D.length:=by omega
 rw [List.take_of_length_le (Nat.le_of_eq hMl)] at u2
 repeat' (first
 | (conv=>whnf)
   first
   | (refine Br.decF ?_ ?_;(focus first | assumption | omega))
   | refine fLen.mk ?_
   | refine fB.i0 ?_
   | refine fB.mk ?_)
 all_goals try (exfalso;omega;done)
 conv=>whnf
 exact hrest _ _ _ _ _ _ u2
end Go.Dr.T
namespace Go.Dr.T
set_option maxRecDepth 100000 in
set_option maxHeartbeats 20000000 in
theorem bodyC {tm:List V} {G:List B} {Q:X→St→Prop} {L:List Int} {a b m1 m2 m3:Int} {x y z:Nat} (htm:tm=TMC (tg tm) x y z L) (h19:bget G x=some (.blk [.int .i64 m1,.int .i64 m2,.int .i64 m3] false)) (h24:bget G y=some (.blk [.int .i64 a,.int .i64 b] false)) (h30:bget G z=some (.blk [.int .i64 a,.int .i64 b] false)) (hL1:L.length≤1) (hL:L.length=0 ↔ m1=0∧m2=0) (hQ:∀ tm', (∃ Y,tm' = TMCY (tg tm) Y x y z L)→Q .nrm ⟨tm', G⟩):wp FB1 md 0 Qns ⟨tm,G⟩ Q:=by
 generalize tg tm=T at *
 subst htm
 have hQ2:∀ tm', tm' = TMCY T (tg tm') x y z L→Q .nrm ⟨tm', G⟩:=fun tm' h=>hQ tm' ⟨tg tm', h⟩
 clear hQ
 have heq:eqc [0,0] [.int .i64 a,.int .i64 b] [.int .i64 a,.int .i64 b]=some true:=by simp [eqc,eq1,eq0]
 unfold Qns TMC
 by_cases hz:m1=0∧m2=0
 ·obtain ⟨rfl,rfl⟩:=hz
  have h0:=hL.2 ⟨rfl,rfl⟩
  cases L with
  | cons _ _=>cases h0
  | nil =>
   repeat' (first
 | (conv=>whnf)
   first
   | refine Br.t ?_
   | refine Br.f ?_
   | refine fLen.mk ?_
   | refine fB.i0 ?_
   | refine Get.mk _ h19 ?_
   | refine Get.mk _ h24 ?_
   | refine Get.mk _ h30 ?_
   | refine Get.mk _ heq ?_
   | refine Get.mk _ rfl ?_
   | (refine Req.mk ?_ ?_;(focus first | rfl | decide | exact ⟨rfl,rfl⟩ | exact ⟨rfl,by decide⟩ | exact (fun _=>rfl) | exact (fun h=>nomatch h) | (simp;done) | omega | (simp [big];done) | exact Q02 (by omega) | exact Q01 (by omega))))
   all_goals try (exfalso;omega;done)
   exact hQ2 _ rfl
 ·have h0:¬ L.length=0:=fun h=>hz (hL.1 h)
  match L,hL1,h0 with
  | [e],_,_ =>
   by_cases hm:m1=0
   ·subst hm
    have hm2:m2≠0:=fun h=>hz ⟨rfl,h⟩
    repeat' (first
 | (conv=>whnf)
   first
   | refine Br.t ?_
   | refine Br.f ?_
   | refine Br.dec (fun _ => ?_) (fun _ => ?_)
   | refine Br.not ?_
   | refine fLen.mk ?_
   | refine fB.i0 ?_
   | refine Get.mk _ h19 ?_
   | refine Get.mk _ h24 ?_
   | refine Get.mk _ h30 ?_
   | refine Get.mk _ heq ?_
   | refine Get.mk _ rfl ?_
   | (refine Req.mk ?_ ?_;(focus first | rfl | decide | exact ⟨rfl,rfl⟩ | exact ⟨rfl,by decide⟩ | exact (fun _=>rfl) | exact (fun h=>nomatch h) | (simp;done) | omega | (simp [big];done) | exact Q02 (by omega) | exact Q01 (by omega))))
    all_goals try (exfalso;omega;done)
    all_goals try (rename_i hx;exact absurd (show decide ((([e]:List Int).length:Int)=0)=decide (m2=0) by simp [hm2]) hx)
    exact hQ2 _ rfl
   ·repeat' (first
 | (conv=>whnf)
   first
   | refine Br.f ?_
   | (refine Br.decF ?_ ?_;(focus first | assumption | omega))
   | refine fLen.mk ?_
   | refine fB.i0 ?_
   | refine Get.mk _ h19 ?_
   | refine Get.mk _ h24 ?_
   | refine Get.mk _ h30 ?_
   | refine Get.mk _ heq ?_
   | refine Get.mk _ rfl ?_
   | (refine Req.mk ?_ ?_;(focus first | rfl | decide | exact ⟨rfl,rfl⟩ | exact ⟨rfl,by decide⟩ | exact (fun _=>rfl) | exact (fun h=>nomatch h) | (simp;done) | omega | (simp [big];done) | exact Q02 (by omega) | exact Q01 (by omega))))
    all_goals try (exfalso;omega;done)
    exact hQ2 _ rfl
end Go.Dr.T
namespace Go.Dr.T
set_option maxRecDepth 100000 in
set_option maxHeartbeats 20000000 in
theorem bodyB {tm:List V} {G:List B} {Q:X→St→Prop} {W H q s1 k pix x:Nat} {c:Bool} {p:List UInt8} {F:List Fm} {S:List Sp} {L:List Int} {a b m1 m2 m3:Int} (h1:1≤W∧W≤48) (h2:1≤H∧H≤48) (hp:p.length=W * H) (hk:k≤11) (hpix:pix<W * H) (hm1 : -12≤m1∧m1≤12) (hm2 : -12≤m2∧m2≤12) (hbare:Bare S)
  (htm:tm=TMB (tg tm) q F.length s1 S.length pix k x) (d0:bget G 0=some (.blk [.int .i64 (W:Nat),.int .i64 (H:Nat),.sl c p.length (ofBytes p)] false)) (hbq:bget G q=some (.blk (fmC F) false)) (hs1:bget G s1=some (.blk (stC S) false)) (h19:bget G x=some (.blk [.int .i64 m1,.int .i64 m2,.int .i64 m3] false))
  (kt:FunF FB md 11 [.sl false F.length (fmC F),.sl false S.length (spC S),.int .i64 ((k+1:Nat):Int),.int .i64 (pix:Nat)] (.tup [.agg [.int .i64 a,.int .i64 b],inL L,.int .i64 0])) (hL1:L.length≤1) (hL:L.length=0 ↔ m1=0∧m2=0)
  (hin:T7.pixB W H (((pix % W:Nat):Int)+m1) (((pix / W:Nat):Int)+m2)→a=((k+1:Nat):Int)∧b=(((pix / W:Nat):Int)+m2) * W+(((pix % W:Nat):Int)+m1)) (hno:¬ T7.pixB W H (((pix % W:Nat):Int)+m1) (((pix / W:Nat):Int)+m2)→a = -1∧b = -1)
  (hQ:∀ tm', (∃ Y,tm' = TMBY (tg tm) Y q F.length s1 S.length pix k x)→Q .nrm ⟨tm', (G++[.blk [.int .i64 a,.int .i64 b] false])++[.blk [.int .i64 a,.int .i64 b] false]⟩):wp FB1 md 0 Qnt ⟨tm,G⟩ Q:=by
 generalize tg tm=T at *
 subst htm
 have hQ2:∀ tm', tm' = TMBY T (tg tm') q F.length s1 S.length pix k x→Q .nrm ⟨tm', (G++[.blk [.int .i64 a,.int .i64 b] false])++[.blk [.int .i64 a,.int .i64 b] false]⟩:=fun tm' h=>hQ tm' ⟨tg tm', h⟩
 clear hQ
 have k11:FunF FB1 md 11 _ _:=kt.tab sub1
 have hmodl:pix % W<W:=Nat.mod_lt _ (by omega)
 have hdivl:pix / W<H:=by rw [Nat.div_lt_iff_lt_mul (by omega),Nat.mul_comm];exact hpix
 have hpl:pix<48 * 48:=Nat.lt_of_lt_of_le hpix (Nat.mul_le_mul h1.2 h2.2)
 have hW0:(W:Int)≠0:=by omega
 have hkw:IntKind.i64.wrap ((k:Int)+1)=((k+1:Nat):Int):=by rw [wrap_i64 (by omega) (by omega)];omega
 have hmod:(pix:Int).tmod (W:Int)=((pix % W:Nat):Int):=by rw [Int.ofNat_tmod]
 have hdiv:IntKind.i64.wrap ((pix:Int).tdiv (W:Int))=((pix / W:Nat):Int):=by
  have e:(pix:Int).tdiv (W:Int)=((pix / W:Nat):Int):=by rw [Int.ofNat_tdiv]
  rw [e]
  generalize pix / W=v at hdivl ⊢
  exact wrap_i64 (by omega) (by omega)
 have hvw:Q1p (G++[.unborn]) depth [.ms 3 q (F.length * 3) 0 F.length false,.ms 8 s1 (S.length * 8) 0 S.length false,.int .i64 ((k+1:Nat):Int),.int .i64 (pix:Nat)]=some [.sl false F.length (fmC F),.sl false S.length (spC S),.int .i64 ((k+1:Nat):Int),.int .i64 (pix:Nat)]:=(VwL.cons (Vw.ms (d:=62+1) (bget_app hbq) (Q0c F) (Q13 (Q0c F)) (Qeu F)) (VwL.cons (Vw.ms (d:=62+1) (bget_app hs1) (Q1r S) (Q13 (Q1r S)) (Qhs hbare)) (VwL.cons (Vw.int rfl) (VwL.cons (Vw.int rfl) VwL.nil)))).1
 generalize pix % W=u at hmodl hmod hin hno ⊢
 generalize pix / W=v at hdivl hdiv hin hno ⊢
 obtain ⟨U,hU⟩:∃ U,U=(u:Int)+m1:=⟨_,rfl⟩
 obtain ⟨V,hV⟩:∃ V,V=(v:Int)+m2:=⟨_,rfl⟩
 rw [← hU, ← hV] at hin hno
 have hu:IntKind.i64.wrap ((u:Int)+m1)=U:=by rw [wrap_i64 (by omega) (by omega)];exact hU.symm
 have hv:IntKind.i64.wrap ((v:Int)+m2)=V:=by rw [wrap_i64 (by omega) (by omega)];exact hV.symm
 have k12:Fun FB1 md 12 _ _:=tabF (T7.pixel_any (c:=c) h1.2 h2.2 hp U V)
 generalize T7.pixV W H p U V=pv at *
 have hx19:=Q03 h19
 unfold Qnt TMB
 by_cases hb:T7.pixB W H U V
 ·obtain ⟨ha,hb2⟩:=hin hb
  rw [decide_eq_true hb] at k12
  unfold T7.pixB at hb
  have hV1:V * W≤48 * 48:=Int.mul_le_mul (by omega) (by omega) (by omega) (by omega)
  have hV0:0≤V * W:=Int.mul_nonneg (by omega) (by omega)
  have hvW:IntKind.i64.wrap (V * (W:Int))=V * W:=wrap_i64 (by omega) (by omega)
  have hvU:IntKind.i64.wrap (V * (W:Int)+U)=b:=by rw [hb2];exact wrap_i64 (by omega) (by omega)
  repeat' (first
 | (conv=>whnf)
   first
   | refine Bnd.eq hkw ?_
   | refine Bnd.eq hmod ?_
   | refine Bnd.eq hdiv ?_
   | refine Bnd.eq hu ?_
   | refine Bnd.eq hv ?_
   | refine Bnd.eq hvW ?_
   | refine Bnd.eq hvU ?_
   | refine Br.t ?_
   | refine fLen.mk ?_
   | refine fB.i0 ?_
   | refine fB.i1 ?_
   | refine Get.mk _ (bget_app d0) ?_
   | refine Get.mk _ (bget_app (bget_app d0)) ?_
   | refine Get.mk _ (bget_app h19) ?_
   | refine Req.mk hW0 ?_
   | refine Q1s rfl hvw k11 ?_
   | refine Q00 rfl rfl k12 (.inl rfl) ?_
   | refine Get.newj 0 rfl rfl ?_
   | refine fB.newj 0 rfl ?_
   | refine Get.mk _ rfl ?_
   | (refine Req.mk ?_ ?_;(focus first | rfl | decide | exact ⟨rfl,rfl⟩ | exact ⟨rfl,by decide⟩ | exact (fun _=>rfl) | exact (fun h=>nomatch h) | (simp;done) | omega | (simp [big];done) | exact Q02 (by omega) | exact Q01 (by omega))))
  all_goals try (exfalso;omega;done)
  all_goals try (exfalso;omega;done)
  rw [← ha]
  exact bodyC rfl (bget_app (bget_app h19)) (bget_app (bget_new (i:=0))) (bget_new (i:=0)) hL1 hL fun tm' ⟨Y,hY⟩=>by subst hY;exact hQ2 _ rfl
 ·obtain ⟨ha,hb2⟩:=hno hb
  rw [decide_eq_false hb] at k12
  subst ha hb2
  repeat' (first
 | (conv=>whnf)
   first
   | refine Bnd.eq hkw ?_
   | refine Bnd.eq hmod ?_
   | refine Bnd.eq hdiv ?_
   | refine Bnd.eq hu ?_
   | refine Bnd.eq hv ?_
   | refine Br.f ?_
   | refine fLen.mk ?_
   | refine fB.i0 ?_
   | refine fB.i1 ?_
   | refine Get.mk _ (bget_app d0) ?_
   | refine Get.mk _ (bget_app h19) ?_
   | refine Req.mk hW0 ?_
   | refine Q1s rfl hvw k11 ?_
   | refine Q00 rfl rfl k12 (.inl rfl) ?_
   | refine Get.newj 0 rfl rfl ?_
   | refine fB.newj 0 rfl ?_
   | refine Get.mk _ rfl ?_
   | (refine Req.mk ?_ ?_;(focus first | rfl | decide | exact ⟨rfl,rfl⟩ | exact ⟨rfl,by decide⟩ | exact (fun _=>rfl) | exact (fun h=>nomatch h) | (simp;done) | omega | (simp [big];done) | exact Q02 (by omega) | exact Q01 (by omega))))
  all_goals try (exfalso;omega;done)
  all_goals try (exfalso;omega;done)
  exact bodyC rfl (bget_app (bget_app h19)) (bget_app (bget_new (i:=0))) (bget_new (i:=0)) hL1 hL fun tm' ⟨Y,hY⟩=>by subst hY;exact hQ2 _ rfl
end Go.Dr.T
