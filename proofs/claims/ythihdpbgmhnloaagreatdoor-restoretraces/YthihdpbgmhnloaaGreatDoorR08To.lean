/- Chapter 08: the reference's Trace, walked: the steps that change a pixel. -/
import Derived.Test.YthihdpbgmhnloaaGreatDoorR08Ti
namespace Go.Dr.T
set_option maxRecDepth 100000 in
set_option maxHeartbeats 20000000 in
theorem stepR_diff {c d:Bool} {l:List Fm} {W H:Nat} {ss:List Sp} {i q r m n0 x:Nat} {e1:Int} {f0:Fm} {s:Sp} {bv:V} {Q:X→St→Prop} {G2:List B} (o:FOk l W H) (hL:ss.length≤20) (p:∀ s∈ss,SOk s l.length W H) (hi:i<l.length) (hm:m<ss.length) (hcs:ss[ss.length - (m+1)]?=some s) (hxe:(tr W H l ss i q m).q=x) (hlt:x<W * H) (u2:∀ j,j<m→trOk W H l ss i q j) (u3:RH (ss.length+1) (fsC c W H l ss (ss.length+1)) (.ms 1 r (ss.length+1) 0 (ss.length+1) false) G2) (u4:BV r G2 (tr W H l ss i q m).b.reverse bv) (u5:n0≤G2.length) (hGl2:2≤n0) (hkp:keepB s i (x % W:Nat) (x / W:Nat)=false) (h1:¬ s.k=1) (hyy:tY (fK W H l ss (ss.length - (m+1))) W H s i (tr W H l ss i q m).q=true):wp FB md 0 BO25 ⟨upds (TM25 c d l W H ss i q e1 f0 (.ms 1 r (ss.length+1) 0 (ss.length+1) false)) [(3,.int .i64 (x:Nat)),(17,bv),(18,.int .i64 ((ss.length - (m+1):Nat):Int))],G2⟩ (QR (TM25 c d l W H ss i q e1 f0 (.ms 1 r (ss.length+1) 0 (ss.length+1) false)) c l W H ss i q r n0 (.ms 1 r (ss.length+1) 0 (ss.length+1) false) Q ⟨m,bv,G2⟩):=by
 have hn12:=o.n12
 have hn0:=o.n0
 have o3:=o.w
 have o4:=o.h
 have hnn:=o.nn
 have hb1:IntKind.i64.wrap (((ss.length - (m+1):Nat):Int) - 1)=bIx ss.length (m+1):=by rw [wrap_i64 (by omega) (by omega)];unfold bIx;omega
 have hsp:=p s (List.mem_of_getElem? hcs)
 have hp:=spC_part hcs
 have hil:ss.length - (m+1)≤ss.length - 1:=by omega
 have h0l:0<ss.length:=by omega
 obtain ⟨f,hf,hfp,hfr⟩:=fr_part o hi
 have hW0:(W:Int)≠0:=by omega
 have hmod:(x:Int).tmod (W:Int)=((x % W:Nat):Int):=by rw [Int.ofNat_tmod]
 have hdiv:IntKind.i64.wrap ((x:Int).tdiv (W:Int))=((x / W:Nat):Int):=by
  have e:(x:Int).tdiv (W:Int)=((x / W:Nat):Int):=by rw [Int.ofNat_tdiv]
  have h1:x / W≤x:=Nat.div_le_self _ _
  rw [e]
  generalize x / W=d at *
  exact wrap_i64 (by omega) (by omega)
 have hk59:=keepsR_ok (s:=s) (i:=(i:Int)) (x:=(x % W:Nat)) (y:=(x / W:Nat)) hsp.kp
 have hii:i≤l.length - 1:=by omega
 rcases u3.fv with ⟨h0,_⟩ | ⟨r,r1,hfq,hrb⟩
 ·omega
 cases hfq
 obtain ⟨f', hf', _,_,hfp'⟩:=(fK_ok (ss:=ss) (k:=ss.length - (m+1)) o).at (i:=i) (by rw [fK_len];exact hi)
 have hX2:hasc G2.length [B.blk (spV s) false,B.blk [.int .i64 (W:Nat),.int .i64 (H:Nat),.sl f.c f.p.length (ofBytes f.p)] false]:=⟨rfl,rfl,trivial⟩
 have hG2:=u3.le
 have hfin:∀ {mk:List Bool} {tm:List V} {G4:List B},(∀ j,j<m+1→trOk W H l ss i q j)→RH (ss.length+1) (fsC c W H l ss (ss.length+1)) (.ms 1 r (ss.length+1) 0 (ss.length+1) false) G4→∀ {bv' : V},BV r G4 (tr W H l ss i q (m+1)).b.reverse bv' → n0≤G4.length→tg (masked mk tm) 13 = .ms 1 r (ss.length+1) 0 (ss.length+1) false→tg (masked mk tm) 17=bv' → m+1≤ss.length∧(∀ j,j<m+1→trOk W H l ss i q j)∧RH (ss.length+1) (fsC c W H l ss (ss.length+1)) (.ms 1 r (ss.length+1) 0 (ss.length+1) false) (norm mk n0 ⟨tm,G4⟩).h∧BV r (norm mk n0 ⟨tm,G4⟩).h (tr W H l ss i q (m+1)).b.reverse bv' ∧ n0≤(norm mk n0 ⟨tm,G4⟩).h.length :=
  fun h0 h1 _ h2 h3 h4 h5=>⟨hm,h0,h1.norm (j:=13) hGl2 h3 h4,h2.norm (j:=17) h3 h5,norm_len (s:=⟨_,_⟩) h3⟩
 unfold TM25 BO25 QR PR uR
 rw [hkp] at hk59
 have hjp:IntKind.i64.wrap (((ss.length - (m+1):Nat):Int)+1)=((ss.length - (m+1)+1:Nat):Int):=by rw [wrap_i64 (by omega) (by omega)];omega
 obtain ⟨g,hg,hgl,hY⟩:=tY_pix (W:=W) (H:=H) (s:=s) h1 hf' (show x<f'.p.length by omega)
 rw [← fK_next hcs] at hg
 obtain ⟨da,ea,Ca,va1,va2,va3⟩:=fsV_pix (c:=c) hf'
 obtain ⟨db,eb,Cb,vb1,vb2,vb3⟩:=fsV_pix (c:=c) hg
 have hta:=fsC_at (c:=c) (W:=W) (H:=H) (l:=l) (ss:=ss) (n:=ss.length+1) (k:=ss.length - (m+1)) (by omega)
 have htb:=fsC_at (c:=c) (W:=W) (H:=H) (l:=l) (ss:=ss) (n:=ss.length+1) (k:=ss.length - (m+1)+1) (by omega)
 rw [va1] at hta
 rw [vb1] at htb
 have hta:cellAt (fsC c W H l ss (ss.length+1)) (0+(ss.length - (m+1)) * 1)=some (.sl da l.length Ca):=by rw [Nat.zero_add];exact hta
 have htb:cellAt (fsC c W H l ss (ss.length+1)) (0+(ss.length - (m+1)+1) * 1)=some (.sl db l.length Cb):=by rw [Nat.zero_add];exact htb
 have hpa:=pix_cell (p:=f'.p) (n:=x) (by omega)
 have hpb:=pix_cell (p:=g.p) (n:=x) (by omega)
 have hja:ss.length - (m+1)≤ss.length+1 - 1:=by omega
 have hjb:ss.length - (m+1)+1≤ss.length+1 - 1:=by omega
 have hn1:0<ss.length+1:=by omega
 have hxa:x≤f'.p.length - 1:=by omega
 have hxb:x≤g.p.length - 1:=by omega
 have hp0:0<f'.p.length:=by omega
 have hp1:0<g.p.length:=by omega
 have hfl:=fsC_len (c:=c) (W:=W) (H:=H) (l:=l) (ss:=ss) (n:=ss.length+1)
 have hk1:¬ s.k=1:=h1
 have htr:=tr_at (W:=W) (H:=H) (l:=l) (i:=i) (q:=q) hcs
 rw [hxe,hY,if_neg h1] at htr
 have hE:¬ g.p.getD x 0=f'.p.getD x 0:=by
  rw [hxe,hY] at hyy
  simpa using hyy
 rw [decide_eq_false hE,if_pos (by decide)] at htr
 have hEi:¬ (((f'.p.getD x 0).toNat:Nat):Int)=(((g.p.getD x 0).toNat:Nat):Int):=fun h=>hE (UInt8.toNat_inj.1 (Int.ofNat.inj h)).symm
 have hok2:∀ j,j<m+1→trOk W H l ss i q j:=fun j hj=>by
  by_cases ej:j=m
  ·subst ej
   intro s' hs' h2 _
   rw [hcs] at hs'
   cases hs'
   exact absurd h2 h1
  ·exact u2 j (by omega)
 have hu:(tr W H l ss i q (m+1)).b.reverse=((ss.length - (m+1):Nat):Int) :: (tr W H l ss i q m).b.reverse:=by rw [htr];simp
 rcases u4 with ⟨hL0,rfl⟩ | ⟨y,hL0,rfl⟩ | ⟨t,t1,t2,t3,rfl,t5⟩
 ·repeat' (first
 | (conv=>whnf)
   first
   | refine Bnd.eq hb1 ?_
   | refine Bnd.eq hmod ?_
   | refine Bnd.eq hdiv ?_
   | refine Br.decF hEi ?_
   | refine Bnd.eq hjp ?_
   | refine Br.t ?_
   | refine Br.f ?_
   | (refine Br.decF ?_ ?_;(focus first | assumption | omega))
   | refine Br.not ?_
   | refine fLen.mk ?_
   | refine fB.i0 ?_
   | refine fB.i1 ?_
   | refine Get.newj 0 rfl rfl ?_
   | refine Get.newj 1 rfl rfl ?_
   | refine fB.newj 0 rfl ?_
   | refine fB.newj 1 rfl ?_
   | refine Get.mk _ hp ?_
   | refine Get.mk _ hfr ?_
   | refine Idx.nat hil ?_
   | refine Idx.nat hii ?_
   | refine Req.mk h0l ?_
   | refine Req.mk hn0 ?_
   | refine Req.mk hW0 ?_
   | refine call_fun rfl rfl hk59 (.inl rfl) ?_
   | (refine mBool' ?_ ?_;(focus repeat' (first | exact freeNil' | refine freeCons' rfl ?_ | refine freeCons' (freeNN (by omega)) ?_)))
   | refine Get.mk _ (bget_app hrb) ?_
   | refine Get.mk _ hta ?_
   | refine Get.mk _ htb ?_
   | refine Get.mk _ va3 ?_
   | refine Get.mk _ vb3 ?_
   | refine Get.mk _ hpa ?_
   | refine Get.mk _ hpb ?_
   | refine Idx.nat hja ?_
   | refine Idx.nat hjb ?_
   | refine Idx.nat hxa ?_
   | refine Idx.nat hxb ?_
   | refine Req.mk hn1 ?_
   | refine Req.mk hp0 ?_
   | refine Req.mk hp1 ?_
   | refine Req.mk hfl ?_
   | refine Req.mk ⟨rfl,bget_new (i:=0)⟩ ?_
   | refine Ifz.zero ?_
   | refine Get.mk _ rfl ?_
   | (refine Req.mk ?_ ?_;(focus first | rfl | decide | exact ⟨rfl,rfl⟩ | exact ⟨rfl,by decide⟩ | exact (fun _=>rfl) | exact (fun h=>nomatch h) | (simp;done) | omega | (simp [big];done) | exact le_big (by omega) | exact lt_big (by omega))))
  all_goals try (exfalso;omega;done)
  exact NextP.of (fun h=>RT2.mk (m+1) (.sl true 1 [.int .i64 ((ss.length - (m+1):Nat):Int)]) h) (hfin hok2 ((u3.app hX2).app (X:=[B.unborn]) ⟨rfl,trivial⟩) (.inr (.inl ⟨_,by rw [hu,hL0],rfl⟩)) (by rw [List.length_append,List.length_append];omega) rfl rfl) (by dsimp only;omega) (by dsimp only;rw [htr];rfl)
 ·repeat' (first
 | (conv=>whnf)
   first
   | refine Bnd.eq hb1 ?_
   | refine Bnd.eq hmod ?_
   | refine Bnd.eq hdiv ?_
   | refine Br.decF hEi ?_
   | refine Bnd.eq hjp ?_
   | refine Br.t ?_
   | refine Br.f ?_
   | (refine Br.decF ?_ ?_;(focus first | assumption | omega))
   | refine Br.not ?_
   | refine fLen.mk ?_
   | refine fB.i0 ?_
   | refine fB.i1 ?_
   | refine Get.newj 0 rfl rfl ?_
   | refine Get.newj 1 rfl rfl ?_
   | refine fB.newj 0 rfl ?_
   | refine fB.newj 1 rfl ?_
   | refine Get.mk _ hp ?_
   | refine Get.mk _ hfr ?_
   | refine Idx.nat hil ?_
   | refine Idx.nat hii ?_
   | refine Req.mk h0l ?_
   | refine Req.mk hn0 ?_
   | refine Req.mk hW0 ?_
   | refine call_fun rfl rfl hk59 (.inl rfl) ?_
   | (refine mBool' ?_ ?_;(focus repeat' (first | exact freeNil' | refine freeCons' rfl ?_ | refine freeCons' (freeNN (by omega)) ?_)))
   | refine Get.mk _ (bget_app hrb) ?_
   | refine Get.mk _ hta ?_
   | refine Get.mk _ htb ?_
   | refine Get.mk _ va3 ?_
   | refine Get.mk _ vb3 ?_
   | refine Get.mk _ hpa ?_
   | refine Get.mk _ hpb ?_
   | refine Idx.nat hja ?_
   | refine Idx.nat hjb ?_
   | refine Idx.nat hxa ?_
   | refine Idx.nat hxb ?_
   | refine Req.mk hn1 ?_
   | refine Req.mk hp0 ?_
   | refine Req.mk hp1 ?_
   | refine Req.mk hfl ?_
   | refine Req.mk ⟨rfl,bget_new (i:=0)⟩ ?_
   | (refine Ifz.pos ?_ ?_;(focus omega))
   | refine Get.mk _ rfl ?_
   | (refine Req.mk ?_ ?_;(focus first | rfl | decide | exact ⟨rfl,rfl⟩ | exact ⟨rfl,by decide⟩ | exact (fun _=>rfl) | exact (fun h=>nomatch h) | (simp;done) | omega | (simp [big];done) | exact le_big (by omega) | exact lt_big (by omega))))
  all_goals try (exfalso;omega;done)
  have hrl:=bget_lt hrb
  have hnew:=BV.new (r:=r) (G:=G2++[B.blk (spV s) false,B.blk [.int .i64 (W:Nat),.int .i64 (H:Nat),.sl f.c f.p.length (ofBytes f.p)] false]) (C:=[.int .i64 ((ss.length - (m+1):Nat):Int)]++[.int .i64 y]) (L:=(tr W H l ss i q (m+1)).b.reverse) (n:=2) (k:=(G2++[B.blk (spV s) false,B.blk [.int .i64 (W:Nat),.int .i64 (H:Nat),.sl f.c f.p.length (ofBytes f.p)] false]).length+0+0) (a:=2) (by rw [List.length_append];omega) (by rw [List.length_append];simp only [List.length_cons,List.length_nil];omega) (by rw [hu,hL0];exact Nat.le_refl 2) rfl (by rw [hu,hL0];rfl) (by rw [hu,hL0];rfl) (by rw [hu,hL0];rfl)
  exact NextP.of (fun h=>RT2.mk (m+1) (.ms 1 ((G2++[B.blk (spV s) false,B.blk [.int .i64 (W:Nat),.int .i64 (H:Nat),.sl f.c f.p.length (ofBytes f.p)] false]).length+0+0) 2 0 2 false) h) (hfin hok2 ((u3.app hX2).app (X:=[B.blk ([.int .i64 ((ss.length - (m+1):Nat):Int)]++[.int .i64 y]) true]) ⟨rfl,trivial⟩) hnew (by rw [List.length_append,List.length_append];omega) rfl rfl) (by dsimp only;omega) (by dsimp only;rw [htr];rfl)
 ·have hbl:=tr_len (W:=W) (H:=H) (l:=l) (ss:=ss) (i:=i) (q:=q) (k:=m)
  have hol:(ofInts (tr W H l ss i q m).b.reverse).length=(tr W H l ss i q m).b.reverse.length:=by simp [ofInts]
  have hsz:∀ {z:V},([z].length+(ofInts (tr W H l ss i q m).b.reverse).length) * (8+1)<big:=fun {z}=>by rw [hol,List.length_reverse];unfold big;simp only [List.length_cons,List.length_nil];omega
  have hsc:∀ {z:Int},true=true→scalars ([V.int .i64 z]++ofInts (tr W H l ss i q m).b.reverse)=true:=fun {z} _=>scalars_ints (z :: (tr W H l ss i q m).b.reverse)
  have hpt:=part_all (by simp [ofInts]:(ofInts (tr W H l ss i q m).b.reverse).length=(tr W H l ss i q m).b.reverse.length * 1)
  repeat' (first
 | (conv=>whnf)
   first
   | refine Bnd.eq hb1 ?_
   | refine Bnd.eq hmod ?_
   | refine Bnd.eq hdiv ?_
   | refine Br.decF hEi ?_
   | refine Bnd.eq hjp ?_
   | refine Br.t ?_
   | refine Br.f ?_
   | (refine Br.decF ?_ ?_;(focus first | assumption | omega))
   | refine Br.not ?_
   | refine fLen.mk ?_
   | refine fB.i0 ?_
   | refine fB.i1 ?_
   | refine Get.newj 0 rfl rfl ?_
   | refine Get.newj 1 rfl rfl ?_
   | refine fB.newj 0 rfl ?_
   | refine fB.newj 1 rfl ?_
   | refine Get.mk _ hp ?_
   | refine Get.mk _ hfr ?_
   | refine Idx.nat hil ?_
   | refine Idx.nat hii ?_
   | refine Req.mk h0l ?_
   | refine Req.mk hn0 ?_
   | refine Req.mk hW0 ?_
   | refine call_fun rfl rfl hk59 (.inl rfl) ?_
   | (refine mBool' ?_ ?_;(focus repeat' (first | exact freeNil' | refine freeCons' rfl ?_ | refine freeCons' (freeNN (by omega)) ?_)))
   | refine Get.mk _ (bget_app hrb) ?_
   | refine Get.mk _ hta ?_
   | refine Get.mk _ htb ?_
   | refine Get.mk _ va3 ?_
   | refine Get.mk _ vb3 ?_
   | refine Get.mk _ hpa ?_
   | refine Get.mk _ hpb ?_
   | refine Idx.nat hja ?_
   | refine Idx.nat hjb ?_
   | refine Idx.nat hxa ?_
   | refine Idx.nat hxb ?_
   | refine Req.mk hn1 ?_
   | refine Req.mk hp0 ?_
   | refine Req.mk hp1 ?_
   | refine Req.mk hfl ?_
   | refine Req.mk ⟨rfl,bget_new (i:=0)⟩ ?_
   | refine Get.mk _ (bget_app (bget_app t5)) ?_
   | refine Get.mk _ hpt ?_
   | refine Req.mk hol ?_
   | refine Req.mk hsz ?_
   | refine Req.mk hsc ?_
   | (refine Ifz.pos ?_ ?_;(focus omega))
   | refine Get.mk _ rfl ?_
   | (refine Req.mk ?_ ?_;(focus first | rfl | decide | exact ⟨rfl,rfl⟩ | exact ⟨rfl,by decide⟩ | exact (fun _=>rfl) | exact (fun h=>nomatch h) | (simp;done) | omega | (simp [big];done) | exact le_big (by omega) | exact lt_big (by omega))))
  all_goals try (exfalso;omega;done)
  have hrl:=bget_lt hrb
  have hnew:=BV.new (r:=r) (G:=G2++[B.blk (spV s) false,B.blk [.int .i64 (W:Nat),.int .i64 (H:Nat),.sl f.c f.p.length (ofBytes f.p)] false]) (C:=[.int .i64 ((ss.length - (m+1):Nat):Int)]++ofInts (tr W H l ss i q m).b.reverse) (L:=(tr W H l ss i q (m+1)).b.reverse) (n:=1+(ofInts (tr W H l ss i q m).b.reverse).length) (k:=(G2++[B.blk (spV s) false,B.blk [.int .i64 (W:Nat),.int .i64 (H:Nat),.sl f.c f.p.length (ofBytes f.p)] false]).length+0+0) (a:=1+(tr W H l ss i q m).b.reverse.length) (by rw [List.length_append];omega) (by rw [List.length_append];simp only [List.length_cons,List.length_nil];omega) (by rw [hu];simp only [List.length_cons];omega) rfl (by rw [hu,hol];simp only [List.length_cons];omega) (by rw [hu];simp only [List.length_cons];omega) (by rw [hu];rfl)
  exact NextP.of (fun h=>RT2.mk (m+1) (.ms 1 ((G2++[B.blk (spV s) false,B.blk [.int .i64 (W:Nat),.int .i64 (H:Nat),.sl f.c f.p.length (ofBytes f.p)] false]).length+0+0) (1+(ofInts (tr W H l ss i q m).b.reverse).length) 0 (1+(tr W H l ss i q m).b.reverse.length) false) h) (hfin hok2 ((u3.app hX2).app (X:=[B.blk ([.int .i64 ((ss.length - (m+1):Nat):Int)]++ofInts (tr W H l ss i q m).b.reverse) true]) ⟨rfl,trivial⟩) hnew (by rw [List.length_append,List.length_append];omega) rfl rfl) (by dsimp only;omega) (by dsimp only;rw [htr];rfl)
end Go.Dr.T
