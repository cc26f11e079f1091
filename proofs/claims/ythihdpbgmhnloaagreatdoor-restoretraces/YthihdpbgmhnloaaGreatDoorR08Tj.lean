/- Chapter 08: the reference's Trace, walked: the steps that do not move. -/
import Derived.Test.YthihdpbgmhnloaaGreatDoorR08Ti
namespace Go.Dr.T
set_option maxRecDepth 100000 in
set_option maxHeartbeats 20000000 in
theorem stepR_kept {c d:Bool} {l:List Fm} {W H:Nat} {ss:List Sp} {i q r m n0 x:Nat} {e1:Int} {f0:Fm} {s:Sp} {bv:V} {Q:X→St→Prop} {G2:List B} (o:FOk l W H) (hL:ss.length≤20) (p:∀ s∈ss,SOk s l.length W H) (hi:i<l.length) (hm:m<ss.length) (hcs:ss[ss.length - (m+1)]?=some s) (hxe:(tr W H l ss i q m).q=x) (hlt:x<W * H) (u2:∀ j,j<m→trOk W H l ss i q j) (u3:RH (ss.length+1) (fsC c W H l ss (ss.length+1)) (.ms 1 r (ss.length+1) 0 (ss.length+1) false) G2) (u4:BV r G2 (tr W H l ss i q m).b.reverse bv) (u5:n0≤G2.length) (hGl2:2≤n0) (hkp:keepB s i (x % W:Nat) (x / W:Nat)=true):wp FB md 0 BO25 ⟨upds (TM25 c d l W H ss i q e1 f0 (.ms 1 r (ss.length+1) 0 (ss.length+1) false)) [(3,.int .i64 (x:Nat)),(17,bv),(18,.int .i64 ((ss.length - (m+1):Nat):Int))],G2⟩ (QR (TM25 c d l W H ss i q e1 f0 (.ms 1 r (ss.length+1) 0 (ss.length+1) false)) c l W H ss i q r n0 (.ms 1 r (ss.length+1) 0 (ss.length+1) false) Q ⟨m,bv,G2⟩):=by
 have hn12:=o.n12
 have hn0:=o.n0
 have o3:=o.w
 have o4:=o.h
 have hnn:=o.nn
 have hb1:IntKind.i64.wrap (((ss.length - (m+1):Nat):Int) - 1)=bIx ss.length (m+1):=by rw [wrap_i64 (by omega) (by omega)];unfold bIx;omega
 have hsp:=p s (List.mem_of_getElem? hcs)
 have hp:=spC_part hcs
 have hil:ss.length - (m+1)≤ss.length - 1:=by omega
 have h0l:0<ss.length:=by omega
 obtain ⟨f,hf,hfp,hfr⟩:=fr_part o hi
 have hW0:(W:Int)≠0:=by omega
 have hmod:(x:Int).tmod (W:Int)=((x % W:Nat):Int):=by rw [Int.ofNat_tmod]
 have hdiv:IntKind.i64.wrap ((x:Int).tdiv (W:Int))=((x / W:Nat):Int):=by
  have e:(x:Int).tdiv (W:Int)=((x / W:Nat):Int):=by rw [Int.ofNat_tdiv]
  have h1:x / W≤x:=Nat.div_le_self _ _
  rw [e]
  generalize x / W=d at *
  exact wrap_i64 (by omega) (by omega)
 have hk59:=keepsR_ok (s:=s) (i:=(i:Int)) (x:=(x % W:Nat)) (y:=(x / W:Nat)) hsp.kp
 have hii:i≤l.length - 1:=by omega
 rcases u3.fv with ⟨h0,_⟩ | ⟨r,r1,hfq,hrb⟩
 ·omega
 cases hfq
 obtain ⟨f', hf', _,_,hfp'⟩:=(fK_ok (ss:=ss) (k:=ss.length - (m+1)) o).at (i:=i) (by rw [fK_len];exact hi)
 have hX2:hasc G2.length [B.blk (spV s) false,B.blk [.int .i64 (W:Nat),.int .i64 (H:Nat),.sl f.c f.p.length (ofBytes f.p)] false]:=⟨rfl,rfl,trivial⟩
 have hG2:=u3.le
 have hfin:∀ {mk:List Bool} {tm:List V} {G4:List B},(∀ j,j<m+1→trOk W H l ss i q j)→RH (ss.length+1) (fsC c W H l ss (ss.length+1)) (.ms 1 r (ss.length+1) 0 (ss.length+1) false) G4→∀ {bv' : V},BV r G4 (tr W H l ss i q (m+1)).b.reverse bv' → n0≤G4.length→tg (masked mk tm) 13 = .ms 1 r (ss.length+1) 0 (ss.length+1) false→tg (masked mk tm) 17=bv' → m+1≤ss.length∧(∀ j,j<m+1→trOk W H l ss i q j)∧RH (ss.length+1) (fsC c W H l ss (ss.length+1)) (.ms 1 r (ss.length+1) 0 (ss.length+1) false) (norm mk n0 ⟨tm,G4⟩).h∧BV r (norm mk n0 ⟨tm,G4⟩).h (tr W H l ss i q (m+1)).b.reverse bv' ∧ n0≤(norm mk n0 ⟨tm,G4⟩).h.length :=
  fun h0 h1 _ h2 h3 h4 h5=>⟨hm,h0,h1.norm (j:=13) hGl2 h3 h4,h2.norm (j:=17) h3 h5,norm_len (s:=⟨_,_⟩) h3⟩
 unfold TM25 BO25 QR PR uR
 rw [hkp] at hk59
 have hyy:tY (fK W H l ss (ss.length - (m+1))) W H s i (tr W H l ss i q m).q=false:=tY_keep hf' (by rw [hxe];exact hkp)
 have htr:=tr_no (W:=W) (H:=H) (l:=l) (i:=i) (q:=q) hcs hyy
 have hok2:∀ j,j<m+1→trOk W H l ss i q j:=fun j hj=>by
  by_cases ej:j=m
  ·subst ej
   intro s' hs' _ hy'
   rw [hcs] at hs'
   cases hs'
   rw [hyy] at hy'
   cases hy'
  ·exact u2 j (by omega)
 have hu4:BV r G2 (tr W H l ss i q (m+1)).b.reverse bv:=by rw [htr];exact u4
 repeat' (first
 | (conv=>whnf)
   first
   | refine Bnd.eq hb1 ?_
   | refine Bnd.eq hmod ?_
   | refine Bnd.eq hdiv ?_
   | refine Br.t ?_
   | refine fLen.mk ?_
   | refine fB.i0 ?_
   | refine fB.i1 ?_
   | refine Get.newj 0 rfl rfl ?_
   | refine Get.newj 1 rfl rfl ?_
   | refine fB.newj 0 rfl ?_
   | refine fB.newj 1 rfl ?_
   | refine Get.mk _ hp ?_
   | refine Get.mk _ hfr ?_
   | refine Idx.nat hil ?_
   | refine Idx.nat hii ?_
   | refine Req.mk h0l ?_
   | refine Req.mk hn0 ?_
   | refine Req.mk hW0 ?_
   | refine call_fun rfl rfl hk59 (.inl rfl) ?_
   | (refine mBool' ?_ ?_;(focus repeat' (first | exact freeNil' | refine freeCons' rfl ?_ | refine freeCons' (freeNN (by omega)) ?_)))
   | refine Get.mk _ rfl ?_
   | (refine Req.mk ?_ ?_;(focus first | rfl | decide | exact ⟨rfl,rfl⟩ | exact ⟨rfl,by decide⟩ | exact (fun _=>rfl) | exact (fun h=>nomatch h) | (simp;done) | omega | (simp [big];done) | exact le_big (by omega) | exact lt_big (by omega))))
 all_goals try (exfalso;omega;done)
 exact NextP.of (fun h=>RT2.mk (m+1) bv h) (hfin hok2 (u3.app hX2) hu4.app (by rw [List.length_append];omega) rfl rfl) (by dsimp only;omega) (by dsimp only;rw [htr,hxe];rfl)
set_option maxRecDepth 100000 in
set_option maxHeartbeats 20000000 in
theorem stepR_zero {c d:Bool} {l:List Fm} {W H:Nat} {ss:List Sp} {i q r m n0 x:Nat} {e1:Int} {f0:Fm} {s:Sp} {bv:V} {Q:X→St→Prop} {G2:List B} (o:FOk l W H) (hL:ss.length≤20) (p:∀ s∈ss,SOk s l.length W H) (hi:i<l.length) (hm:m<ss.length) (hcs:ss[ss.length - (m+1)]?=some s) (hxe:(tr W H l ss i q m).q=x) (hlt:x<W * H) (u2:∀ j,j<m→trOk W H l ss i q j) (u3:RH (ss.length+1) (fsC c W H l ss (ss.length+1)) (.ms 1 r (ss.length+1) 0 (ss.length+1) false) G2) (u4:BV r G2 (tr W H l ss i q m).b.reverse bv) (u5:n0≤G2.length) (hGl2:2≤n0) (hkp:keepB s i (x % W:Nat) (x / W:Nat)=false) (h1:s.k=1) (ha:s.a=0) (hb:s.b=0):wp FB md 0 BO25 ⟨upds (TM25 c d l W H ss i q e1 f0 (.ms 1 r (ss.length+1) 0 (ss.length+1) false)) [(3,.int .i64 (x:Nat)),(17,bv),(18,.int .i64 ((ss.length - (m+1):Nat):Int))],G2⟩ (QR (TM25 c d l W H ss i q e1 f0 (.ms 1 r (ss.length+1) 0 (ss.length+1) false)) c l W H ss i q r n0 (.ms 1 r (ss.length+1) 0 (ss.length+1) false) Q ⟨m,bv,G2⟩):=by
 have hn12:=o.n12
 have hn0:=o.n0
 have o3:=o.w
 have o4:=o.h
 have hnn:=o.nn
 have hb1:IntKind.i64.wrap (((ss.length - (m+1):Nat):Int) - 1)=bIx ss.length (m+1):=by rw [wrap_i64 (by omega) (by omega)];unfold bIx;omega
 have hsp:=p s (List.mem_of_getElem? hcs)
 have hp:=spC_part hcs
 have hil:ss.length - (m+1)≤ss.length - 1:=by omega
 have h0l:0<ss.length:=by omega
 obtain ⟨f,hf,hfp,hfr⟩:=fr_part o hi
 have hW0:(W:Int)≠0:=by omega
 have hmod:(x:Int).tmod (W:Int)=((x % W:Nat):Int):=by rw [Int.ofNat_tmod]
 have hdiv:IntKind.i64.wrap ((x:Int).tdiv (W:Int))=((x / W:Nat):Int):=by
  have e:(x:Int).tdiv (W:Int)=((x / W:Nat):Int):=by rw [Int.ofNat_tdiv]
  have h1:x / W≤x:=Nat.div_le_self _ _
  rw [e]
  generalize x / W=d at *
  exact wrap_i64 (by omega) (by omega)
 have hk59:=keepsR_ok (s:=s) (i:=(i:Int)) (x:=(x % W:Nat)) (y:=(x / W:Nat)) hsp.kp
 have hii:i≤l.length - 1:=by omega
 rcases u3.fv with ⟨h0,_⟩ | ⟨r,r1,hfq,hrb⟩
 ·omega
 cases hfq
 obtain ⟨f', hf', _,_,hfp'⟩:=(fK_ok (ss:=ss) (k:=ss.length - (m+1)) o).at (i:=i) (by rw [fK_len];exact hi)
 have hX2:hasc G2.length [B.blk (spV s) false,B.blk [.int .i64 (W:Nat),.int .i64 (H:Nat),.sl f.c f.p.length (ofBytes f.p)] false]:=⟨rfl,rfl,trivial⟩
 have hG2:=u3.le
 have hfin:∀ {mk:List Bool} {tm:List V} {G4:List B},(∀ j,j<m+1→trOk W H l ss i q j)→RH (ss.length+1) (fsC c W H l ss (ss.length+1)) (.ms 1 r (ss.length+1) 0 (ss.length+1) false) G4→∀ {bv' : V},BV r G4 (tr W H l ss i q (m+1)).b.reverse bv' → n0≤G4.length→tg (masked mk tm) 13 = .ms 1 r (ss.length+1) 0 (ss.length+1) false→tg (masked mk tm) 17=bv' → m+1≤ss.length∧(∀ j,j<m+1→trOk W H l ss i q j)∧RH (ss.length+1) (fsC c W H l ss (ss.length+1)) (.ms 1 r (ss.length+1) 0 (ss.length+1) false) (norm mk n0 ⟨tm,G4⟩).h∧BV r (norm mk n0 ⟨tm,G4⟩).h (tr W H l ss i q (m+1)).b.reverse bv' ∧ n0≤(norm mk n0 ⟨tm,G4⟩).h.length :=
  fun h0 h1 _ h2 h3 h4 h5=>⟨hm,h0,h1.norm (j:=13) hGl2 h3 h4,h2.norm (j:=17) h3 h5,norm_len (s:=⟨_,_⟩) h3⟩
 unfold TM25 BO25 QR PR uR
 rw [hkp] at hk59
 have ok2:tY (fK W H l ss (ss.length - (m+1))) W H s i (tr W H l ss i q m).q=false→∀ j,j<m+1→trOk W H l ss i q j:=fun hyy j hj=>by
  by_cases ej:j=m
  ·subst ej
   intro s' hs' _ hy'
   rw [hcs] at hs'
   cases hs'
   rw [hyy] at hy'
   cases hy'
  ·exact u2 j (by omega)
 have hyy:tY (fK W H l ss (ss.length - (m+1))) W H s i (tr W H l ss i q m).q=false:=by
  rw [hxe];unfold tY;rw [if_pos h1,hkp,decide_eq_true ha,decide_eq_true hb];rfl
 have htr:=tr_no (W:=W) (H:=H) (l:=l) (i:=i) (q:=q) hcs hyy
 have hu4:BV r G2 (tr W H l ss i q (m+1)).b.reverse bv:=by rw [htr];exact u4
 repeat' (first
 | (conv=>whnf)
   first
   | refine Bnd.eq hb1 ?_
   | refine Bnd.eq hmod ?_
   | refine Bnd.eq hdiv ?_
   | refine Br.t ?_
   | refine Br.f ?_
   | (refine Br.decT ?_ ?_;(focus first | assumption | omega))
   | refine Br.not ?_
   | refine fLen.mk ?_
   | refine fB.i0 ?_
   | refine fB.i1 ?_
   | refine Get.newj 0 rfl rfl ?_
   | refine Get.newj 1 rfl rfl ?_
   | refine fB.newj 0 rfl ?_
   | refine fB.newj 1 rfl ?_
   | refine Get.mk _ hp ?_
   | refine Get.mk _ hfr ?_
   | refine Idx.nat hil ?_
   | refine Idx.nat hii ?_
   | refine Req.mk h0l ?_
   | refine Req.mk hn0 ?_
   | refine Req.mk hW0 ?_
   | refine call_fun rfl rfl hk59 (.inl rfl) ?_
   | (refine mBool' ?_ ?_;(focus repeat' (first | exact freeNil' | refine freeCons' rfl ?_ | refine freeCons' (freeNN (by omega)) ?_)))
   | refine Get.mk _ rfl ?_
   | (refine Req.mk ?_ ?_;(focus first | rfl | decide | exact ⟨rfl,rfl⟩ | exact ⟨rfl,by decide⟩ | exact (fun _=>rfl) | exact (fun h=>nomatch h) | (simp;done) | omega | (simp [big];done) | exact le_big (by omega) | exact lt_big (by omega))))
 all_goals try (exfalso;omega;done)
 exact NextP.of (fun h=>RT2.mk (m+1) bv h) (hfin (ok2 hyy) (u3.app hX2) hu4.app (by rw [List.length_append];omega) rfl rfl) (by dsimp only;omega) (by dsimp only;rw [htr,hxe];rfl)
set_option maxRecDepth 100000 in
set_option maxHeartbeats 20000000 in
theorem stepR_same {c d:Bool} {l:List Fm} {W H:Nat} {ss:List Sp} {i q r m n0 x:Nat} {e1:Int} {f0:Fm} {s:Sp} {bv:V} {Q:X→St→Prop} {G2:List B} (o:FOk l W H) (hL:ss.length≤20) (p:∀ s∈ss,SOk s l.length W H) (hi:i<l.length) (hm:m<ss.length) (hcs:ss[ss.length - (m+1)]?=some s) (hxe:(tr W H l ss i q m).q=x) (hlt:x<W * H) (u2:∀ j,j<m→trOk W H l ss i q j) (u3:RH (ss.length+1) (fsC c W H l ss (ss.length+1)) (.ms 1 r (ss.length+1) 0 (ss.length+1) false) G2) (u4:BV r G2 (tr W H l ss i q m).b.reverse bv) (u5:n0≤G2.length) (hGl2:2≤n0) (hkp:keepB s i (x % W:Nat) (x / W:Nat)=false) (h1:¬ s.k=1) (hyy:tY (fK W H l ss (ss.length - (m+1))) W H s i (tr W H l ss i q m).q=false):wp FB md 0 BO25 ⟨upds (TM25 c d l W H ss i q e1 f0 (.ms 1 r (ss.length+1) 0 (ss.length+1) false)) [(3,.int .i64 (x:Nat)),(17,bv),(18,.int .i64 ((ss.length - (m+1):Nat):Int))],G2⟩ (QR (TM25 c d l W H ss i q e1 f0 (.ms 1 r (ss.length+1) 0 (ss.length+1) false)) c l W H ss i q r n0 (.ms 1 r (ss.length+1) 0 (ss.length+1) false) Q ⟨m,bv,G2⟩):=by
 have hn12:=o.n12
 have hn0:=o.n0
 have o3:=o.w
 have o4:=o.h
 have hnn:=o.nn
 have hb1:IntKind.i64.wrap (((ss.length - (m+1):Nat):Int) - 1)=bIx ss.length (m+1):=by rw [wrap_i64 (by omega) (by omega)];unfold bIx;omega
 have hsp:=p s (List.mem_of_getElem? hcs)
 have hp:=spC_part hcs
 have hil:ss.length - (m+1)≤ss.length - 1:=by omega
 have h0l:0<ss.length:=by omega
 obtain ⟨f,hf,hfp,hfr⟩:=fr_part o hi
 have hW0:(W:Int)≠0:=by omega
 have hmod:(x:Int).tmod (W:Int)=((x % W:Nat):Int):=by rw [Int.ofNat_tmod]
 have hdiv:IntKind.i64.wrap ((x:Int).tdiv (W:Int))=((x / W:Nat):Int):=by
  have e:(x:Int).tdiv (W:Int)=((x / W:Nat):Int):=by rw [Int.ofNat_tdiv]
  have h1:x / W≤x:=Nat.div_le_self _ _
  rw [e]
  generalize x / W=d at *
  exact wrap_i64 (by omega) (by omega)
 have hk59:=keepsR_ok (s:=s) (i:=(i:Int)) (x:=(x % W:Nat)) (y:=(x / W:Nat)) hsp.kp
 have hii:i≤l.length - 1:=by omega
 rcases u3.fv with ⟨h0,_⟩ | ⟨r,r1,hfq,hrb⟩
 ·omega
 cases hfq
 obtain ⟨f', hf', _,_,hfp'⟩:=(fK_ok (ss:=ss) (k:=ss.length - (m+1)) o).at (i:=i) (by rw [fK_len];exact hi)
 have hX2:hasc G2.length [B.blk (spV s) false,B.blk [.int .i64 (W:Nat),.int .i64 (H:Nat),.sl f.c f.p.length (ofBytes f.p)] false]:=⟨rfl,rfl,trivial⟩
 have hG2:=u3.le
 have hfin:∀ {mk:List Bool} {tm:List V} {G4:List B},(∀ j,j<m+1→trOk W H l ss i q j)→RH (ss.length+1) (fsC c W H l ss (ss.length+1)) (.ms 1 r (ss.length+1) 0 (ss.length+1) false) G4→∀ {bv' : V},BV r G4 (tr W H l ss i q (m+1)).b.reverse bv' → n0≤G4.length→tg (masked mk tm) 13 = .ms 1 r (ss.length+1) 0 (ss.length+1) false→tg (masked mk tm) 17=bv' → m+1≤ss.length∧(∀ j,j<m+1→trOk W H l ss i q j)∧RH (ss.length+1) (fsC c W H l ss (ss.length+1)) (.ms 1 r (ss.length+1) 0 (ss.length+1) false) (norm mk n0 ⟨tm,G4⟩).h∧BV r (norm mk n0 ⟨tm,G4⟩).h (tr W H l ss i q (m+1)).b.reverse bv' ∧ n0≤(norm mk n0 ⟨tm,G4⟩).h.length :=
  fun h0 h1 _ h2 h3 h4 h5=>⟨hm,h0,h1.norm (j:=13) hGl2 h3 h4,h2.norm (j:=17) h3 h5,norm_len (s:=⟨_,_⟩) h3⟩
 unfold TM25 BO25 QR PR uR
 rw [hkp] at hk59
 have ok2:tY (fK W H l ss (ss.length - (m+1))) W H s i (tr W H l ss i q m).q=false→∀ j,j<m+1→trOk W H l ss i q j:=fun hyy j hj=>by
  by_cases ej:j=m
  ·subst ej
   intro s' hs' _ hy'
   rw [hcs] at hs'
   cases hs'
   rw [hyy] at hy'
   cases hy'
  ·exact u2 j (by omega)
 have hjp:IntKind.i64.wrap (((ss.length - (m+1):Nat):Int)+1)=((ss.length - (m+1)+1:Nat):Int):=by rw [wrap_i64 (by omega) (by omega)];omega
 obtain ⟨g,hg,hgl,hY⟩:=tY_pix (W:=W) (H:=H) (s:=s) h1 hf' (show x<f'.p.length by omega)
 rw [← fK_next hcs] at hg
 obtain ⟨da,ea,Ca,va1,va2,va3⟩:=fsV_pix (c:=c) hf'
 obtain ⟨db,eb,Cb,vb1,vb2,vb3⟩:=fsV_pix (c:=c) hg
 have hta:=fsC_at (c:=c) (W:=W) (H:=H) (l:=l) (ss:=ss) (n:=ss.length+1) (k:=ss.length - (m+1)) (by omega)
 have htb:=fsC_at (c:=c) (W:=W) (H:=H) (l:=l) (ss:=ss) (n:=ss.length+1) (k:=ss.length - (m+1)+1) (by omega)
 rw [va1] at hta
 rw [vb1] at htb
 have hta:cellAt (fsC c W H l ss (ss.length+1)) (0+(ss.length - (m+1)) * 1)=some (.sl da l.length Ca):=by rw [Nat.zero_add];exact hta
 have htb:cellAt (fsC c W H l ss (ss.length+1)) (0+(ss.length - (m+1)+1) * 1)=some (.sl db l.length Cb):=by rw [Nat.zero_add];exact htb
 have hpa:=pix_cell (p:=f'.p) (n:=x) (by omega)
 have hpb:=pix_cell (p:=g.p) (n:=x) (by omega)
 have hja:ss.length - (m+1)≤ss.length+1 - 1:=by omega
 have hjb:ss.length - (m+1)+1≤ss.length+1 - 1:=by omega
 have hn1:0<ss.length+1:=by omega
 have hxa:x≤f'.p.length - 1:=by omega
 have hxb:x≤g.p.length - 1:=by omega
 have hp0:0<f'.p.length:=by omega
 have hp1:0<g.p.length:=by omega
 have hfl:=fsC_len (c:=c) (W:=W) (H:=H) (l:=l) (ss:=ss) (n:=ss.length+1)
 have hk1:¬ s.k=1:=h1
 have htr:=tr_at (W:=W) (H:=H) (l:=l) (i:=i) (q:=q) hcs
 rw [hxe,hY,if_neg h1] at htr
 have hE:g.p.getD x 0=f'.p.getD x 0:=by
  rw [hxe,hY] at hyy
  simpa using hyy
 rw [decide_eq_true hE,if_neg (by decide)] at htr
 have hEi:(((f'.p.getD x 0).toNat:Nat):Int)=(((g.p.getD x 0).toNat:Nat):Int):=by rw [hE]
 have hu4:BV r G2 (tr W H l ss i q (m+1)).b.reverse bv:=by rw [htr];exact u4
 repeat' (first
 | (conv=>whnf)
   first
   | refine Bnd.eq hb1 ?_
   | refine Bnd.eq hmod ?_
   | refine Bnd.eq hdiv ?_
   | refine Br.decT hEi ?_
   | refine Bnd.eq hjp ?_
   | refine Br.t ?_
   | refine Br.f ?_
   | (refine Br.decF ?_ ?_;(focus first | assumption | omega))
   | refine Br.not ?_
   | refine fLen.mk ?_
   | refine fB.i0 ?_
   | refine fB.i1 ?_
   | refine Get.newj 0 rfl rfl ?_
   | refine Get.newj 1 rfl rfl ?_
   | refine fB.newj 0 rfl ?_
   | refine fB.newj 1 rfl ?_
   | refine Get.mk _ hp ?_
   | refine Get.mk _ hfr ?_
   | refine Idx.nat hil ?_
   | refine Idx.nat hii ?_
   | refine Req.mk h0l ?_
   | refine Req.mk hn0 ?_
   | refine Req.mk hW0 ?_
   | refine call_fun rfl rfl hk59 (.inl rfl) ?_
   | (refine mBool' ?_ ?_;(focus repeat' (first | exact freeNil' | refine freeCons' rfl ?_ | refine freeCons' (freeNN (by omega)) ?_)))
   | refine Get.mk _ (bget_app hrb) ?_
   | refine Get.mk _ hta ?_
   | refine Get.mk _ htb ?_
   | refine Get.mk _ va3 ?_
   | refine Get.mk _ vb3 ?_
   | refine Get.mk _ hpa ?_
   | refine Get.mk _ hpb ?_
   | refine Idx.nat hja ?_
   | refine Idx.nat hjb ?_
   | refine Idx.nat hxa ?_
   | refine Idx.nat hxb ?_
   | refine Req.mk hn1 ?_
   | refine Req.mk hp0 ?_
   | refine Req.mk hp1 ?_
   | refine Req.mk hfl ?_
   | refine Get.mk _ rfl ?_
   | (refine Req.mk ?_ ?_;(focus first | rfl | decide | exact ⟨rfl,rfl⟩ | exact ⟨rfl,by decide⟩ | exact (fun _=>rfl) | exact (fun h=>nomatch h) | (simp;done) | omega | (simp [big];done) | exact le_big (by omega) | exact lt_big (by omega))))
 all_goals try (exfalso;omega;done)
 exact NextP.of (fun h=>RT2.mk (m+1) bv h) (hfin (ok2 hyy) (u3.app hX2) hu4.app (by rw [List.length_append];omega) rfl rfl) (by dsimp only;omega) (by dsimp only;rw [htr,hxe];rfl)
end Go.Dr.T
