/- Chapter 06: the iterator of all alignments, walked for yields that may enlarge the heap. -/
import Derived.Test.YtcjhgcjmomildaaGreatDoorG12
namespace Go.Dr.T
theorem blo_lop {n:Nat} {r:Bool} {x:X} {TM:List V} {PS:List Nat} {AS BO:MC} (h:blos n TM=true):(B.lop r x TM PS AS BO).blo n=true:=h
theorem fB.genB {σ:Type} {Hp:σ × Bool→List B→Prop} {N0 L:Nat} {h0 h:List B} {yb X:B} {TM:List V} {PS:List Nat} {AS BO:MC} {s:σ} {K:List B→Prop} (hp:HpOk Hp N0) (hN:N0≤h0.length) (hH:Hp1 Hp N0 h0 yb TM PS AS BO (s,true) h) (hL:h.length=L) (hTM:blos (h0.length+1) TM=true)
  (hk:∀ h1,h1.length=L→HpB Hp N0 h0 yb (.lop false .nrm TM PS AS BO) (s,true) h1→K (h1++[X])):fB (bset (h++[X]) (h0.length+1+0) (.lop false .nrm TM PS AS BO)) K:=by
 have hlt:=bget_lt hH.r
 have hb:(B.lop false .nrm TM PS AS BO).blo h.length=true:=blo_lop (blos_mono (by omega) _ hTM)
 refine fB.as (bset_app hlt) (hk _ (by rw [bset_len];exact hL) ⟨hp.st _ _ _ _ _ (by omega) hH.r rfl hb hH.hp,hH.kp.set (by omega),?_,bget_same hlt⟩)
 rw [bset_other (by omega)];exact hH.y
theorem hp_back {σ:Type} {Hp:σ × Bool→List B→Prop} {N0 n0 n:Nat} {h0:List B} {yb lp:B} {A:List B} {TM tm tF:List V} {PS pF:List Nat} {AS BO aF bF:MC} {rF:Bool} {xF:X} {q q' : σ × Bool} {g h' : List B}
  (hnn:n=n0+A.length) (hp:HpOk Hp N0) (hN:N0≤h0.length) (hn:h0.length+2≤n0) (hyb:own yb=false) (hlp:own lp=false) (hA:∀ m b,bget A m=some b→own b=false) (hg:Hp2 (HpB Hp N0 h0 yb lp) n0 A TM PS AS BO q g) (hTM:blos (n0+A.length) TM=true) (h1:Hp q' h') (h2:Keep N0 (bset g n (.lop rF xF tF pF aF bF)) h') :
  Hp2 (HpB Hp N0 h0 yb lp) n0 A TM PS AS BO q' (bset (Dr.trunc g.length tm h') n (.lop q'.2 (if q'.2=true then .nrm else .ret) TM PS AS BO))∧Keep (n+1) g (bset (Dr.trunc g.length tm h') n (.lop q'.2 (if q'.2=true then .nrm else .ret) TM PS AS BO)):=by
 subst hnn
 have hl:=bget_lt hg.r
 have hle:=h2.le
 rw [bset_len] at hle
 have hT:=trunc_len (tm:=tm) hle
 have eq:∀ m b,N0≤m→m≠n0+A.length→bget g m=some b→own b=false→bget (bset (Dr.trunc g.length tm h') (n0+A.length) (.lop q'.2 (if q'.2=true then .nrm else .ret) TM PS AS BO)) m=some b:=fun m b m1 m3 m4 m5=>by
  rw [bset_other (Ne.symm m3),bget_trunc (bget_lt m4)]
  exact h2.eq m b m1 (by rw [bset_other (Ne.symm m3)];exact m4) m5
 have hl2:bget (Dr.trunc g.length tm h') (n0+A.length)=some (.lop rF xF tF pF aF bF):=by
  rw [bget_trunc hl]
  exact h2.eq _ _ (by omega) (bget_same hl) rfl
 have hy:=bget_lt hg.hp.y
 have hr:=bget_lt hg.hp.r
 have hk:=hg.hp.kp
 refine ⟨⟨⟨hp.st _ _ _ _ _ (by omega) hl2 rfl (blo_lop (blos_mono (by omega) _ hTM)) (hp.tr _ _ _ _ (by omega) h1),⟨?_,fun m b m1 m2 m3 => ?_⟩,?_,?_⟩,fun m b hb => ?_,bget_same (by omega)⟩,⟨by rw [bset_len];exact hT,fun m b m1 m2 m3=>eq m b (by omega) (by omega) m2 m3⟩⟩
 ·rw [bset_len];have:=hk.le;omega
 ·have:=bget_lt m2
  exact eq m b m1 (by omega) (hk.eq m b m1 m2 m3) m3
 ·exact eq _ _ hN (by omega) hg.hp.y hyb
 ·exact eq _ _ (by omega) (by omega) hg.hp.r hlp
 ·have hbl:=bget_lt hb
  exact eq _ _ (by omega) (by omega) (hg.fr m b hb) (hA m b hb)
theorem hp_out {σ:Type} {Hp:σ × Bool→List B→Prop} {N0 n0 N n:Nat} {h0:List B} {yb lp b2:B} {A:List B} {TM TM2 tm:List V} {PS PS2:List Nat} {AS BO AS2 BO2:MC} {q:σ × Bool} {g:List B}
  (hnn:n=n0+A.length) (hp:HpOk Hp N0) (hN:N0≤h0.length) (hNN:h0.length+2≤N) (hNg:N≤g.length) (hm:h0.length+2≤n0) (hlp:own lp=false) (hg:Hp2 (HpB Hp N0 h0 yb lp) n0 A TM2 PS2 AS2 BO2 q g) (hb2:b2.blo g.length=true) (hTM:blos (h0.length+1) TM=true) :
  Hp1 Hp N0 h0 yb TM PS AS BO q (bset (Dr.trunc N tm (bset g n b2)) (h0.length+1) (.lop q.2 (if q.2=true then .nrm else .ret) TM PS AS BO)):=by
 subst hnn
 have h1:=hg.hp
 have hT:=trunc_len (tm:=tm) (h:=bset g (n0+A.length) b2) (n:=N) (by rw [bset_len];exact hNg)
 have hr:bget (Dr.trunc N tm (bset g (n0+A.length) b2)) (h0.length+1)=some lp:=by rw [bget_trunc (by omega),bset_other (by omega)];exact h1.r
 refine ⟨hp.st _ _ _ _ _ (by omega) hr hlp (blo_lop (blos_mono (by omega) _ hTM)) (hp.tr _ _ _ _ (by omega) (hp.st _ _ _ _ _ (by omega) hg.r rfl hb2 h1.hp)),((h1.kp.set (by omega)).tr (by omega)).set (by omega),?_,bget_same (by omega)⟩
 rw [bset_other (by omega),bget_trunc (by omega),bset_other (by omega)];exact h1.y
theorem own_nil:∀ (m:Nat) (b:B),bget [] m=some b→own b=false:=fun m b h=>nomatch h
theorem own_cons {x:B} {A:List B} (hx:own x=false) (hA:∀ m b,bget A m=some b→own b=false):∀ (m:Nat) (b:B),bget (x :: A) m=some b→own b=false
 | 0,b,h=>by simp only [bget,Option.some.injEq] at h;rw [← h];exact hx
 | m+1,b,h=>hA m b h
theorem own_shC {l:List (Int × Int)} {d:Bool}:own (.blk (shC l) d)=false:=by
 cases l with
 | nil=>rfl
 | cons p l=>rfl
theorem fB.abs {h:List B} {K:List B→Prop} (hk:∀ g,g=h→K g):fB h K:=fB.mk (hk _ rfl)
theorem als_rfN {x y:El} {sl:Int} {i j:Nat} {bef:List (Nat × Nat)} (hspec:AlsSpecH x y sl i j bef) {σ:Type} {P:σ × Bool→List B→Prop} {N1 a b c e q n n1 n2 n3 n4:Nat} {A h:List B} {TM:List V} {PS:List Nat} {AS BO:MC} {ok:σ→List (Nat × Nat)→Bool} {nx:σ→List (Nat × Nat)→σ} {s0:σ} {K:V→List B→Prop}
  (hn:n=h.length+A.length) (hn1:n1=h.length+a) (hn2:n2=h.length+b) (hn3:n3=h.length+c) (hn4:n4=h.length+e) (hP:HpOk P N1) (hI:P (s0,true) h) (hA:hasc h.length A) (hTM:blos (h.length+A.length) TM=true) (hne:bef≠[])
  (ha:bget A a=some (.blk [.rp (pC x.sh y.sh sl (openT x y sl)) 0] false)) (hb:bget A b=some (.blk [.int .i64 (i:Nat)] false)) (hc:bget A c=some (.blk [.int .i64 (j:Nat)] false)) (he:bget A e=some (.blk [.ms 2 (h.length+q) ((bef.map prN).length * 2) 0 (bef.map prN).length false] false)) (hq:bget A q=some (.blk (shC (bef.map prN)) true))
  (hy:∀ s g l (K:V→List B→Prop),bget g n=some (.lop true .nrm TM PS AS BO)→Hp2 P h.length A TM PS AS BO (s,true) g→l.length≤40→(∀ g', Hp2 P h.length A TM PS AS BO (nx s l,ok s l) g' → Keep (n+1) g g' → K (.bool (ok s l)) g')→CallP FB md 0 (.yld n) [pvL l] g K)
  (hk:∀ g', bget g' n=some (.lop (goR ok nx s0 (als (shA x.l y.l sl) (openT x y sl) x.l.length y.l.length i j bef)).2 (if (goR ok nx s0 (als (shA x.l y.l sl) (openT x y sl) x.l.length y.l.length i j bef)).2=true then .nrm else .ret) TM PS AS BO)→Hp2 P h.length A TM PS AS BO (goR ok nx s0 (als (shA x.l y.l sl) (openT x y sl) x.l.length y.l.length i j bef)) g' → K (.tup []) g') :
  CallP FB md 0 (.fn 48 [.ref n1 1 0,.ref n2 1 0,.ref n3 1 0,.ref n4 1 0]) [.yld n] ((h++A)++[.lop true .nrm TM PS AS BO]) K:=by
 subst hn hn1 hn2 hn3 hn4
 exact als_rfH hspec hP hI hA hTM hne ha hb hc he hq (fun s g l K hg=>hy s g l K hg.r hg) (fun g' hg=>hk g' hg.r hg)
set_option maxRecDepth 100000 in
set_option maxHeartbeats 20000000 in
theorem als_stepH {x y:El} {sl:Int} (hx:shOk x.l) (hy0:shOk y.l) (hs:0≤sl∧sl≤200000) {i j:Nat} {bef:List (Nat × Nat)} (hi:i≤x.l.length) (hj:j≤y.l.length) (hbl:bef.length≤i) (hW:openT x y sl i j≠0)
  (ih:∀ k l,i≤k→k<x.l.length→j≤l→l<y.l.length→AlsSpecH x y sl (k+1) (l+1) (bef++[(k,l)])):AlsSpecH x y sl i j bef:=by
 refine ⟨?_⟩
 intro σ Hp N0 id a b c e q ok nx s0 h0 K hp hid ha hb hc he hI hy hk
 have hal:=hx.1
 have hbl0:=hy0.1
 have hI0:i<41:=by omega
 have hJ0:j<41:=by omega
 have fx:∀ p q:Nat,0+3+p * 41+q * 1=3+p * 41+q:=fun p q=>by omega
 have cij:=pC_t (a:=x.sh) (b:=y.sh) (s:=sl) (f:=openT x y sl) hI0 hJ0
 rw [← fx] at cij
 rw [als_step hW] at hk
 have hN:=hp.le _ _ hI
 have hlen1:∀ B0:B,(h0++[B0]).length=h0.length+1:=fun B0=>by rw [List.length_append];rfl
 have ha' := ha _ _ hI
 have hb' := hb _ _ hI
 have hc' := hc _ _ hI
 have hal' := bget_lt ha'
 have hbl' := bget_lt hb'
 have hcl' := bget_lt hc'
 have hel' : e<h0.length:=by rcases he _ _ hI with ⟨_,e2⟩ | ⟨_,e2,_⟩ <;> exact bget_lt e2
 have hidl:=hid _ _ hI
 have gL:∀ B0:B,bget (h0++[B0]) (h0.length+0)=some B0:=fun B0=>bget_new (h:=h0) (g:=[B0]) (i:=0)
 have hbg:=begins_ok (a:=x.sh) (b:=y.sh) (s:=sl) (i:=(i:Nat)) (j:=(j:Nat)) (f:=openT x y sl)
 refine call_one rfl rfl rfl ?_
 repeat' (first
 | (conv=>whnf)
   first
   | refine Idx.nat (Nat.le_of_lt_succ hI0) ?_
   | refine Idx.nat (Nat.le_of_lt_succ hJ0) ?_
   | (refine Br.decF ?_ ?_;(focus first | assumption | omega))
   | refine fLen.as (hlen1 _) ?_
   | refine fLen.as rfl ?_
   | refine fB.i0 ?_
   | refine fB.i1 ?_
   | refine Get.newj 0 rfl rfl ?_
   | refine fB.newj 0 rfl ?_
   | refine Get.mk _ (bget_app ha') ?_
   | refine Get.mk _ (bget_app hb') ?_
   | refine Get.mk _ (bget_app hc') ?_
   | refine Get.mk _ cij ?_
   | refine call_fun rfl rfl hbg (.inl rfl) ?_
   | refine Get.mk _ rfl ?_
   | (refine Req.mk ?_ ?_;(focus first | rfl | decide | exact ⟨rfl,rfl⟩ | exact ⟨rfl,by decide⟩ | exact (fun _=>rfl) | exact (fun h=>nomatch h) | (simp;done) | omega | (simp [big];done) | exact le_big (by omega) | exact lt_big (by omega))))
 all_goals try (exfalso;omega;done)
 have hyb:(B.blk [.yld id] false).blo h0.length=true:=by show (false || (decide (id<h0.length) && true))=true;simp [hidl]
 have hTM:blos (h0.length+1) [.ref a 1 0,.ref b 1 0,.ref c 1 0,.ref e 1 0,.ref (h0.length+0) 1 0]=true:=by
  simp only [blos,V.blo]
  simp
  omega
 refine begins_rfH (a:=x.sh) (b:=y.sh) (f:=fun p=>als (shA x.l y.l sl) (openT x y sl) x.l.length y.l.length (p.1+1) (p.2+1) (bef++[p])) (ok:=ok) (nx:=nx) (s0:=s0) (Hp:=Hp) (N0:=N0) hx hy0 hs (openT_rng hx hy0) hi hj hp hI hyb ?_ ?_ ?_
 ·simp only [blos,V.blo]
  simp
  omega
 rotate_left
 ·intro h' h1
  have hr:bget h' (h0.length+1+0)=_:=h1.r
  rw [hr]
  have hle:=h1.kp.le
  have hlt:=bget_lt h1.r
  change Hp1 Hp N0 h0 _ _ _ _ _ (goR ok nx s0 ((bgs (shA x.l y.l sl) (openT x y sl) x.l.length y.l.length i j).flatMap fun p=>als (shA x.l y.l sl) (openT x y sl) x.l.length y.l.length (p.1+1) (p.2+1) (bef++[p]))) h' at h1
  have e0:goR ok nx s0 ((bgs (shA x.sh.l y.sh.l sl) (openT x y sl) x.sh.l.length y.sh.l.length i j).flatMap fun p=>als (shA x.l y.l sl) (openT x y sl) x.l.length y.l.length (p.1+1) (p.2+1) (bef++[p]))=goR ok nx s0 ((bgs (shA x.l y.l sl) (openT x y sl) x.l.length y.l.length i j).flatMap fun p=>als (shA x.l y.l sl) (openT x y sl) x.l.length y.l.length (p.1+1) (p.2+1) (bef++[p])):=rfl
  rw [e0]
  generalize goR ok nx s0 _=r at hk h1 hr ⊢
  obtain ⟨sF,fl⟩:=r
  have fin:∀ b2:B,b2.blo h'.length=true→K (.tup []) (Dr.trunc h0.length [.tup []] (bset h' (h0.length+1+0) b2)):=fun b2 hb2 =>
   hk _ (hp.tr _ _ _ _ hN (hp.st _ _ _ _ _ (by omega) h1.r rfl hb2 h1.hp)) ((h1.kp.set (by omega)).tr (Nat.le_refl _))
  cases fl
  all_goals
   repeat' (first
 | (conv=>whnf)
   first
   | refine fB.mk ?_
   | refine Get.mk _ rfl ?_
   | refine Ends.of ?_)
  all_goals try (exfalso;omega;done)
  all_goals refine fin _ ?_
  all_goals simp only [B.blo,blos,V.blo]
  all_goals simp
  all_goals omega
 intro s h k l K1 hH hik hkn hjl hlm hK1
 have hkn' : k<x.l.length:=hkn
 have hlm' : l<y.l.length:=hlm
 have hsp:=ih k l hik hkn' hjl hlm'
 have hlh:=bget_lt hH.r
 obtain ⟨L,hL⟩:∃ L,h.length=L:=⟨_,rfl⟩
 have hjh:∀ j,L+j=h.length+j:=fun j=>by rw [hL]
 have hkw:IntKind.i64.wrap ((k:Int)+1)=((k+1:Nat):Int):=by rw [wrap_i64 (by omega) (by omega)];omega
 have hlw:IntKind.i64.wrap ((l:Int)+1)=((l+1:Nat):Int):=by rw [wrap_i64 (by omega) (by omega)];omega
 refine call_yld hH.r (Nat.zero_le _) rfl ?_
 repeat' (first
 | (conv=>whnf)
   first
   | refine fLen.as hL ?_
   | refine fB.i1 ?_
   | refine ⟨rfl,?_⟩
   | refine Get.newj 0 (hjh 0) rfl ?_
   | refine fB.newj 0 (hjh 0) ?_
   | refine Get.mk _ (bget_app hH.r) ?_
   | (refine Req.mk ?_ ?_;(focus first | rfl | decide | exact ⟨rfl,rfl⟩ | exact ⟨rfl,by decide⟩ | exact (fun _=>rfl) | exact (fun h=>nomatch h) | (simp;done) | omega | (simp [big];done) | exact le_big (by omega) | exact lt_big (by omega))))
 all_goals try (exfalso;omega;done)
 refine fB.genB hp hN hH hL ?_ ?_
 ·simp only [blos,V.blo]
  simp
  omega
 intro h1 hL1 hB
 have hal2:a<L:=by omega
 have hlL:∀ r:List B,(h1++r).length=L+r.length:=fun r=>by rw [List.length_append,hL1]
 have hlL2:∀ r r' : List B,((h1++r)++r').length=L+r.length+r'.length:=fun r r' => by rw [List.length_append,hlL]
 have hji:∀ j,L+j=h1.length+j:=fun j=>by rw [hL1]
 have hpq:∀ r,bget (h1++r) a=some (.blk [.rp (pC x.sh y.sh sl (openT x y sl)) 0] false):=fun r=>bget_app (ha _ _ hB.hp)
 have gU:∀ B0 B1:B,bget (h1++[B0,B1]) (L+1)=some B1:=fun B0 B1=>by have:=bget_new (h:=h1) (g:=[B0,B1]) (i:=1);rwa [hL1] at this
 rcases he _ _ hB.hp with ⟨e1,e2⟩ | ⟨e1,e2,e3⟩
 ·have hFa:(Nat.testBit 30 0 || Fp.free (.some [L+1] (some (L+1))) (.some [a] none))=true:=by simp [Fp.free,hits];omega
  have hFx:(Nat.testBit 64 5 || Fp.free (.some [L+0] none) (.some [L+1] (some (L+1))))=true:=by simp [Fp.free,hits]
  have hFy:(Nat.testBit 512 5 || Fp.free (.some [L+0] none) (.some [L+1] (some (L+1))))=true:=by simp [Fp.free,hits]
  repeat' (first
 | (conv=>whnf)
   first
   | refine Bnd.eq hkw ?_
   | refine Bnd.eq hlw ?_
   | refine fLen.as (hlL _) ?_
   | refine fB.i1a ?_
   | refine ⟨rfl,?_⟩
   | refine Get.mk _ (hpq _) ?_
   | refine Get.mk _ (bget_app e2) ?_
   | refine Get.newj 0 (hji 0) rfl ?_
   | refine Get.newj 1 (hji 1) rfl ?_
   | refine fB.newj 1 (hji 1) ?_
   | refine Req.mk (gU _ _) ?_
   | refine free_by' (free_cons rfl (free_cons rfl (free_cons rfl (free_cons rfl (free_cons hFa free_nil))))) ?_
   | refine free_by' (free_cons rfl (free_cons hFx (free_cons rfl (free_cons rfl (free_cons rfl (free_cons rfl (free_cons rfl free_nil))))))) ?_
   | refine free_by' (free_cons rfl (free_cons rfl (free_cons rfl (free_cons rfl (free_cons hFy (free_cons rfl (free_cons rfl (free_cons rfl (free_cons rfl (free_cons rfl free_nil)))))))))) ?_
   | refine clipA_nil ?_
   | refine alsn_call (hlL _) ?_
   | refine fLen.as (hlL2 _ _) ?_
   | (refine Ifz.pos ?_ ?_;(focus omega))
   | refine Get.mk _ rfl ?_
   | (refine Req.mk ?_ ?_;(focus first | rfl | decide | exact ⟨rfl,rfl⟩ | exact ⟨rfl,by decide⟩ | exact (fun _=>rfl) | exact (fun h=>nomatch h) | (simp;done) | omega | (simp [big];done) | exact le_big (by omega) | exact lt_big (by omega))))
  all_goals try (exfalso;omega;done)
  all_goals try (exfalso;omega;done)
  subst hL1
  refine CallP.heap (congrArg (· ++ _) (List.append_assoc h1 _ _)) ?_
  refine als_rfN (bef:=bef++[(k,l)]) (a:=2) (b:=4) (c:=5) (e:=3) (q:=1) (ok:=ok) (nx:=nx) (s0:=s) hsp rfl rfl rfl rfl rfl (HpB.ok hp hN) hB ?_ ?_ (by simp) rfl rfl rfl (by subst e1;rfl) (by subst e1;rfl) ?_ ?_
  ·simp only [hasc,B.blo,blos,V.blo,List.length_append,List.length_cons,List.length_nil,List.cons_append,List.nil_append]
   simp
   try omega
  ·simp only [blos,V.blo,List.length_append,List.length_cons,List.length_nil]
   simp
   try omega
  ·intro s' g l' K2 hgr hg hl' hK2
   have hglt:=bget_lt hgr
   have hyl:∀ (g2:List B) (K:V→List B→Prop),Hp (s', true) g2→(∀ h', Hp (nx s' l', ok s' l') h' → Keep N0 g2 h' → K (.bool (ok s' l')) h')→CallP FB md 0 (.yld id) [pvL l'] g2 K:=fun g2 K q1 q2=>hy s' g2 l' K q1 hl' q2
   have hgy:=hg.hp.y
   have hgH:=hg.hp.hp
   have hlt0:=bget_lt hgy
   have hlt1:=bget_lt hg.hp.r
   unfold pvL at hyl ⊢
   have hset:∀ (m:Nat) (lp:List V) (ps:List Nat) (c d:MC),m=h1.length+6→blos (h1.length+6) lp=true→bget g m=some (.lop true .nrm lp ps c d)→Hp (s', true) (bset g m (.lop false .nrm lp ps c d))∧bget (bset g m (.lop false .nrm lp ps c d)) (h0.length+0+0)=some (.blk [.yld id] false):=fun m lp ps c d hm hlp hgr=>by
    have hmg:=bget_lt hgr
    exact ⟨hp.st _ _ _ _ _ (by omega) hgr rfl (blo_lop (blos_mono (by omega) _ hlp)) hgH,by rw [bset_other (by omega)];exact hgy⟩
   have hgs:=hset _ _ _ _ _ rfl (by simp only [blos,V.blo,List.length_append,List.length_cons,List.length_nil];simp;try omega) hgr
   generalize ok s' l' = fl at hyl hK2
   by_cases hl0:l' = []
   ·rw [if_pos hl0] at hyl ⊢
    refine call_yld hgr (Nat.zero_le _) rfl ?_
    repeat' (first
 | (conv=>whnf)
   first
   | refine fLen.mk ?_
   | refine fB.i0 ?_
   | refine ⟨rfl,?_⟩
   | refine Get.mk _ hgr ?_
   | refine Get.mk _ hgs.2 ?_
   | refine fB.mk ?_
   | refine Get.mk _ rfl ?_)
    all_goals try (exfalso;omega;done)
    refine hyl _ _ hgs.1 ?_
    intro h' p1 p2
    have hbk:=hp_back (tm:=[]) (n0:=h1.length) rfl hp hN (by omega) rfl rfl (own_cons rfl (own_cons rfl (own_cons rfl (own_cons rfl (own_cons rfl (own_cons rfl own_nil)))))) hg (by simp only [blos,V.blo,List.length_append,List.length_cons,List.length_nil];simp;try omega) p1 p2
    cases fl
    all_goals
     repeat' (first
 | (conv=>whnf)
   first
   | refine Br.t ?_
   | refine Br.f ?_
   | refine fB.mk ?_)
    all_goals exact hK2 _ hbk.1 hbk.2
   ·rw [if_neg hl0] at hyl ⊢
    refine call_yld hgr (Nat.zero_le _) rfl ?_
    repeat' (first
 | (conv=>whnf)
   first
   | refine fLen.mk ?_
   | refine fB.i0 ?_
   | refine ⟨rfl,?_⟩
   | refine Get.mk _ hgr ?_
   | refine Get.mk _ hgs.2 ?_
   | refine fB.mk ?_
   | refine Get.mk _ rfl ?_)
    all_goals try (exfalso;omega;done)
    refine hyl _ _ hgs.1 ?_
    intro h' p1 p2
    have hbk:=hp_back (tm:=[]) (n0:=h1.length) rfl hp hN (by omega) rfl rfl (own_cons rfl (own_cons rfl (own_cons rfl (own_cons rfl (own_cons rfl (own_cons rfl own_nil)))))) hg (by simp only [blos,V.blo,List.length_append,List.length_cons,List.length_nil];simp;try omega) p1 p2
    cases fl
    all_goals
     repeat' (first
 | (conv=>whnf)
   first
   | refine Br.t ?_
   | refine Br.f ?_
   | refine fB.mk ?_)
    all_goals exact hK2 _ hbk.1 hbk.2
  ·intro g' hgr hg
   have hK1' : ∀ h', Hp1 Hp N0 h0 _ _ _ _ _ (goR ok nx s (als (shA x.l y.l sl) (openT x y sl) x.l.length y.l.length (k+1) (l+1) (bef++[(k,l)]))) h' → K1 (.bool (goR ok nx s (als (shA x.l y.l sl) (openT x y sl) x.l.length y.l.length (k+1) (l+1) (bef++[(k,l)]))).2) h' := hK1
   rw [hgr]
   generalize goR ok nx s _=r at hK1' hg hgr ⊢
   obtain ⟨sF,fl⟩:=r
   have hgl:h1.length+6<g'.length:=bget_lt hgr
   cases fl
   all_goals
    repeat' (first
 | (conv=>whnf)
   first
   | refine fB.mk ?_)
   all_goals try (exfalso;omega;done)
   all_goals refine hK1' _ (hp_out (n0:=h1.length) ?_ hp hN ?_ ?_ ?_ rfl hg ?_ ?_)
   all_goals first | rfl | omega | (simp only [B.blo,blos,V.blo,List.length_append,List.length_cons,List.length_nil];simp;try omega)
 ·have hFa:(Nat.testBit 30 0 || Fp.free (.some [L+1,q] (some (L+1))) (.some [a] none))=true:=by simp [Fp.free,hits];omega
  have hqL:q<L:=by have:=bget_lt e3;omega
  have hqid:∀ r:List B,q<(h1++r).length:=fun r=>by rw [hlL];omega
  have hlb:(bef.map prN).length≤1000:=by rw [List.length_map];omega
  have hpt:part (shC (bef.map prN)) 0 ((bef.map prN).length * 2)=some (shC (bef.map prN)):=part_all (shC_length _)
  have hrq:((shC (bef.map prN)).length+[V.int .i64 (k:Nat),.int .i64 (l:Nat)].length) * (16+1)<big:=by
   rw [shC_length]
   simp only [List.length_cons,List.length_nil,big,List.length_map]
   omega
  have happ:∀ (A:List (Int × Int)) (p:Int × Int),shC (A++[p])=shC A++[.int .i64 p.1,.int .i64 p.2]:=fun A p=>by
   induction A with
   | nil=>rfl
   | cons x A ih=>simp only [List.cons_append,shC,ih]
  have hbk:shC ((bef++[(k,l)]).map prN)=shC (bef.map prN)++[V.int .i64 (k:Nat),.int .i64 (l:Nat)]:=by rw [List.map_append];exact happ _ _
  have hsc:true=true→scalars (shC (bef.map prN)++[V.int .i64 (k:Nat),.int .i64 (l:Nat)])=true:=fun _=>by rw [← hbk];exact scal_sh _
  have hwn:∀ d,own (.blk (shC (bef.map prN)++[V.int .i64 (k:Nat),.int .i64 (l:Nat)]) d)=false:=fun d=>by rw [← hbk];exact own_shC
  have he5:∀ L,V.ms 2 (L+1) (((bef++[(k,l)]).map prN).length * 2) 0 ((bef++[(k,l)]).map prN).length false=V.ms 2 (L+1) ((shC (bef.map prN)).length+[V.int .i64 (k:Nat),.int .i64 (l:Nat)].length) 0 ((bef.map prN).length+1) false:=fun L=>by
   rw [shC_length]
   simp only [List.map_append,List.length_append,List.map_cons,List.map_nil,List.length_cons,List.length_nil,V.ms.injEq,true_and,and_true]
   omega
  have hFx:(Nat.testBit 64 5 || Fp.free (.some [L+0] none) (.some [L+1,q] (some (L+1))))=true:=by simp [Fp.free,hits]
  have hFy:(Nat.testBit 512 5 || Fp.free (.some [L+0] none) (.some [L+1,q] (some (L+1))))=true:=by simp [Fp.free,hits]
  repeat' (first
 | (conv=>whnf)
   first
   | refine Bnd.eq hkw ?_
   | refine Bnd.eq hlw ?_
   | refine fLen.as (hlL _) ?_
   | refine fB.i1a ?_
   | refine ⟨rfl,?_⟩
   | refine Get.mk _ (hpq _) ?_
   | refine Get.mk _ (bget_app e2) ?_
   | refine Get.newj 0 (hji 0) rfl ?_
   | refine Get.newj 1 (hji 1) rfl ?_
   | refine fB.newj 1 (hji 1) ?_
   | refine Req.mk (gU _ _) ?_
   | refine free_by' (free_cons rfl (free_cons rfl (free_cons rfl (free_cons rfl (free_cons hFa free_nil))))) ?_
   | refine free_by' (free_cons rfl (free_cons hFx (free_cons rfl (free_cons rfl (free_cons rfl (free_cons rfl (free_cons rfl free_nil))))))) ?_
   | refine free_by' (free_cons rfl (free_cons rfl (free_cons rfl (free_cons rfl (free_cons hFy (free_cons rfl (free_cons rfl (free_cons rfl (free_cons rfl (free_cons rfl free_nil)))))))))) ?_
   | refine clip_ms (hqid _) hlb ?_
   | refine Get.mk _ (bget_app e3) ?_
   | refine Req.mk (shC_length _) ?_
   | refine Get.mk _ hpt ?_
   | refine Req.mk hrq ?_
   | refine Req.mk hsc ?_
   | refine alsn_call (hlL _) ?_
   | refine fLen.as (hlL2 _ _) ?_
   | (refine Ifz.pos ?_ ?_;(focus omega))
   | refine Get.mk _ rfl ?_)
  all_goals try (exfalso;omega;done)
  subst hL1
  refine CallP.heap (congrArg (· ++ _) (List.append_assoc h1 _ _)) ?_
  refine als_rfN (bef:=bef++[(k,l)]) (a:=2) (b:=4) (c:=5) (e:=3) (q:=1) (ok:=ok) (nx:=nx) (s0:=s) hsp rfl rfl rfl rfl rfl (HpB.ok hp hN) hB ?_ ?_ (by simp) rfl rfl rfl (by rw [he5];rfl) (by rw [hbk];rfl) ?_ ?_
  ·simp only [hasc,B.blo,blos,V.blo,List.length_append,List.length_cons,List.length_nil,List.cons_append,List.nil_append]
   simp
   try omega
  ·simp only [blos,V.blo,List.length_append,List.length_cons,List.length_nil]
   simp
   try omega
  ·intro s' g l' K2 hgr hg hl' hK2
   have hglt:=bget_lt hgr
   have hyl:∀ (g2:List B) (K:V→List B→Prop),Hp (s', true) g2→(∀ h', Hp (nx s' l', ok s' l') h' → Keep N0 g2 h' → K (.bool (ok s' l')) h')→CallP FB md 0 (.yld id) [pvL l'] g2 K:=fun g2 K q1 q2=>hy s' g2 l' K q1 hl' q2
   have hgy:=hg.hp.y
   have hgH:=hg.hp.hp
   have hlt0:=bget_lt hgy
   have hlt1:=bget_lt hg.hp.r
   unfold pvL at hyl ⊢
   have hset:∀ (m:Nat) (lp:List V) (ps:List Nat) (c d:MC),m=h1.length+6→blos (h1.length+6) lp=true→bget g m=some (.lop true .nrm lp ps c d)→Hp (s', true) (bset g m (.lop false .nrm lp ps c d))∧bget (bset g m (.lop false .nrm lp ps c d)) (h0.length+0+0)=some (.blk [.yld id] false):=fun m lp ps c d hm hlp hgr=>by
    have hmg:=bget_lt hgr
    exact ⟨hp.st _ _ _ _ _ (by omega) hgr rfl (blo_lop (blos_mono (by omega) _ hlp)) hgH,by rw [bset_other (by omega)];exact hgy⟩
   have hgs:=hset _ _ _ _ _ rfl (by simp only [blos,V.blo,List.length_append,List.length_cons,List.length_nil];simp;try omega) hgr
   generalize ok s' l' = fl at hyl hK2
   by_cases hl0:l' = []
   ·rw [if_pos hl0] at hyl ⊢
    refine call_yld hgr (Nat.zero_le _) rfl ?_
    repeat' (first
 | (conv=>whnf)
   first
   | refine fLen.mk ?_
   | refine fB.i0 ?_
   | refine ⟨rfl,?_⟩
   | refine Get.mk _ hgr ?_
   | refine Get.mk _ hgs.2 ?_
   | refine fB.mk ?_
   | refine Get.mk _ rfl ?_)
    all_goals try (exfalso;omega;done)
    refine hyl _ _ hgs.1 ?_
    intro h' p1 p2
    have hbk:=hp_back (tm:=[]) (n0:=h1.length) rfl hp hN (by omega) rfl rfl (own_cons rfl (own_cons (hwn _) (own_cons rfl (own_cons rfl (own_cons rfl (own_cons rfl own_nil)))))) hg (by simp only [blos,V.blo,List.length_append,List.length_cons,List.length_nil];simp;try omega) p1 p2
    cases fl
    all_goals
     repeat' (first
 | (conv=>whnf)
   first
   | refine Br.t ?_
   | refine Br.f ?_
   | refine fB.mk ?_)
    all_goals exact hK2 _ hbk.1 hbk.2
   ·rw [if_neg hl0] at hyl ⊢
    refine call_yld hgr (Nat.zero_le _) rfl ?_
    repeat' (first
 | (conv=>whnf)
   first
   | refine fLen.mk ?_
   | refine fB.i0 ?_
   | refine ⟨rfl,?_⟩
   | refine Get.mk _ hgr ?_
   | refine Get.mk _ hgs.2 ?_
   | refine fB.mk ?_
   | refine Get.mk _ rfl ?_)
    all_goals try (exfalso;omega;done)
    refine hyl _ _ hgs.1 ?_
    intro h' p1 p2
    have hbk:=hp_back (tm:=[]) (n0:=h1.length) rfl hp hN (by omega) rfl rfl (own_cons rfl (own_cons (hwn _) (own_cons rfl (own_cons rfl (own_cons rfl (own_cons rfl own_nil)))))) hg (by simp only [blos,V.blo,List.length_append,List.length_cons,List.length_nil];simp;try omega) p1 p2
    cases fl
    all_goals
     repeat' (first
 | (conv=>whnf)
   first
   | refine Br.t ?_
   | refine Br.f ?_
   | refine fB.mk ?_)
    all_goals exact hK2 _ hbk.1 hbk.2
  ·intro g' hgr hg
   have hK1' : ∀ h', Hp1 Hp N0 h0 _ _ _ _ _ (goR ok nx s (als (shA x.l y.l sl) (openT x y sl) x.l.length y.l.length (k+1) (l+1) (bef++[(k,l)]))) h' → K1 (.bool (goR ok nx s (als (shA x.l y.l sl) (openT x y sl) x.l.length y.l.length (k+1) (l+1) (bef++[(k,l)]))).2) h' := hK1
   rw [hgr]
   generalize goR ok nx s _=r at hK1' hg hgr ⊢
   obtain ⟨sF,fl⟩:=r
   have hgl:h1.length+6<g'.length:=bget_lt hgr
   cases fl
   all_goals
    repeat' (first
 | (conv=>whnf)
   first
   | refine fB.mk ?_)
   all_goals try (exfalso;omega;done)
   all_goals refine hK1' _ (hp_out (n0:=h1.length) ?_ hp hN ?_ ?_ ?_ rfl hg ?_ ?_)
   all_goals first | rfl | omega | (simp only [B.blo,blos,V.blo,List.length_append,List.length_cons,List.length_nil];simp;try omega)
theorem als_callH {x y:El} {sl:Int} (hx:shOk x.l) (hy0:shOk y.l) (hs:0≤sl∧sl≤200000):∀ (d i j:Nat) (bef:List (Nat × Nat)),x.l.length - i=d→i≤x.l.length→j≤y.l.length→bef.length≤i→AlsSpecH x y sl i j bef:=by
 intro d
 induction d using Nat.strongRecOn with
 | ind d ih =>
  intro i j bef hd hi hj hbl
  by_cases hW:openT x y sl i j=0
  ·exact als_zero hx hy0 hi hj hbl hW
  ·exact als_stepH hx hy0 hs hi hj hbl hW fun k l h1 h2 h3 h4=>ih (x.l.length - (k+1)) (by omega) (k+1) (l+1) _ rfl (by omega) (by omega) (by rw [List.length_append];simp;omega)
end Go.Dr.T
