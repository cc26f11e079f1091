/- Top, of chapter 08: the reference's Trace, plain: its films; a step that keeps a pixel. -/
import Derived.Test.YtbnmdlnkhghbpaaGreatDoorG28
import Derived.Test.YtbnmdlnkhghbpaaGreatDoorG29
import Derived.Test.YtbnmdlnkhghbpaaGreatDoorG25
namespace Go.Dr.T
section
variable {c:Bool} {W H:Nat} {l:List Fm} {ss:List Sp}
theorem fK_ok {k:Nat} (o:FOk l W H):FOk (fK W H l ss k) W H:=Q6u (Q4v o)
theorem Qmu {k:Nat}:(fK W H l ss k).length=l.length:=by unfold fK;rw [Q2u,Q0u]
theorem Qub {k:Nat} {s:Sp} (h:ss[k]?=some s):fK W H l ss (k+1)=doF (fK W H l ss k) W H s:=Qgn h
end
theorem Qsx {F:List Fm} {W H:Nat} {s:Sp} {i q:Nat} {f:Fm} (hf:F[i]?=some f) (h:Q35 s i (q%W:Nat) (q/W:Nat)=true):tY F W H s i q=false:=by
 unfold tY
 split
 ·rw [h];rfl
 ·rw [Q5k hf h,Q25 hf]
  simp
end Go.Dr.T
namespace Go.Dr.T
def sAt (ss:List Sp) (x:Int):Sp:=(ss[x.toNat]?).getD ⟨0,0,0,false,[],0,0,0,false,[]⟩
theorem sAt_eq {ss:List Sp} {j:Nat} {s:Sp} (h:ss[j]?=some s):sAt ss (j:Nat)=s:=by
 unfold sAt
 rw [show ((j:Nat):Int).toNat=j by omega,h]
 rfl
section
variable {W H:Nat} {l:List Fm} {ss sm:List Sp} {i q:Nat}
theorem Qe1:∀ {k:Nat},k≤ss.length→(∀ x∈(tr W H l ss i q k).b,((ss.length-k:Nat):Int)≤x∧x<(ss.length:Int))∧(tr W H l ss i q k).b.Pairwise (· > ·)
 | 0,_=>⟨fun x hx=>by simp [tr] at hx,by simp [tr]⟩
 | k+1,hk=>by
  obtain ⟨h1,h2⟩:=Qe1 (k:=k) (by omega)
  obtain ⟨s,hs⟩:∃ s,ss[ss.length-(k+1)]?=some s:=⟨_,jC (by omega)⟩
  rw [Qe2 hs]
  split
  ·dsimp only
   refine ⟨fun x hx=>?_,?_⟩
   ·rcases jK.1 hx with hx|hx
    ·have:=h1 x hx
     omega
    ·simp only [List.mem_cons,List.not_mem_nil,or_false] at hx
     subst hx
     omega
   ·refine List.pairwise_append.2 ⟨h2,by simp,fun a ha b hb=>?_⟩
    simp only [List.mem_cons,List.not_mem_nil,or_false] at hb
    subst hb
    have:=h1 a ha
    omega
  ·exact ⟨fun x hx=>by have:=h1 x hx;omega,h2⟩
theorem Qki {F:List Fm} {s:Sp} {f:Fm} {q:Nat} (hf:F[i]?=some f) (h:tY F W H s i q=true):outB (i:Int) s.fr s.un=false:=by
 cases hk:Q35 s i (q%W:Nat) (q/W:Nat) with
 | true=>rw [Qsx hf hk] at h;cases h
 | false =>
  unfold Q35 at hk
  exact (jL.1 hk).1
theorem Qai (o:FOk l W H) (hi:i<l.length):∀ {k:Nat},k≤ss.length→∀ x∈(tr W H l ss i q k).b,∃ (j:Nat) (s:Sp),x=(j:Int)∧ss[j]?=some s∧outB (i:Int) s.fr s.un=false
 | 0,_=>fun x hx=>by simp [tr] at hx
 | k+1,hk=>by
  have ih:=Qai o hi (k:=k) (by omega)
  obtain ⟨s,hs⟩:∃ s,ss[ss.length-(k+1)]?=some s:=⟨_,jC (by omega)⟩
  rw [Qe2 hs]
  split
  ·rename_i hy
   intro x hx
   rcases jK.1 hx with hx|hx
   ·exact ih x hx
   ·simp only [List.mem_cons,List.not_mem_nil,or_false] at hx
    subst hx
    obtain ⟨f,hf,_,_,_⟩:=(fK_ok (ss:=ss) (k:=ss.length-(k+1)) o).at (i:=i) (by rw [Qmu];exact hi)
    exact ⟨_,s,rfl,hs,Qki hf hy⟩
  ·exact ih
theorem Q9w {F:List Fm} {s:Sp} {f:Fm} {x:Nat} (o:FOk F W H) (hf:F[i]?=some f) (h1:s.k=1) (hk:Q35 s i (x%W:Nat) (x/W:Nat)=false) (hx:x<W*H) (hin:tO F.length W H s i x=true):newU F W H s i x=f.p.getD (tQ W s x) 0:=by
 obtain ⟨q1,q2⟩:=Qsy (W:=W) (H:=H) o.w.1 hin
 unfold tO at hin
 unfold newU newP newK
 rw [if_neg (by rw [hk];decide),if_pos h1,orI,if_pos hin,oldN,if_pos hin]
 have e:(((x/W:Nat):Int)-s.b).toNat*W+(((x%W:Nat):Int)-s.a).toNat=tQ W s x:=by
  have e1:(((x/W*W+x%W:Nat):Nat):Int)=(x:Int):=by rw [Nat.div_add_mod']
  rw [Int.natCast_add,Int.natCast_mul] at e1
  unfold oldB outB at hin
  simp only [Bool.not_eq_true',jL,jI,Int.not_lt] at hin
  obtain ⟨⟨_,g1,_⟩,g3,_⟩:=hin
  have g5:((((x/W:Nat):Int)-s.b).toNat:Int)=((x/W:Nat):Int)-s.b:=by omega
  have g6:((((x%W:Nat):Int)-s.a).toNat:Int)=((x%W:Nat):Int)-s.a:=by omega
  have:(((((x/W:Nat):Int)-s.b).toNat*W+(((x%W:Nat):Int)-s.a).toNat:Nat):Int)=((tQ W s x:Nat):Int):=by
   rw [Int.natCast_add,Int.natCast_mul,g5,g6,q2,← e1,Int.sub_mul]
   omega
  exact Int.ofNat.inj this
 rw [show ((i:Nat):Int).toNat=i by omega,e,Qjk Qee,Qaz hf]
 simp
theorem Qth {F:List Fm} {s:Sp} {f:Fm} {x:Nat} (o:FOk F W H) (hf:F[i]?=some f) (hx:x<W*H) (h:tY F W H s i x=false):newU F W H s i x=f.p.getD x 0:=by
 by_cases h1:s.k=1
 ·cases hk:Q35 s i (x%W:Nat) (x/W:Nat) with
  | true=>exact Q5k hf hk
  | false =>
   unfold tY at h
   rw [if_pos h1,hk] at h
   simp only [Bool.not_false,Bool.true_and,Bool.not_eq_false',jF,jG] at h
   have m1:x%W<W:=Nat.mod_lt _ (by have:=o.w;omega)
   have m2:x/W<H:=by
    rw [Nat.div_lt_iff_lt_mul (by have:=o.w;omega),Nat.mul_comm]
    exact hx
   have hi:=(jB.1 hf).1
   have hin:tO F.length W H s i x=true:=by
    unfold tO
    rw [h.1,h.2,Int.sub_zero,Int.sub_zero]
    exact Qgs hi m1 m2
   have e:=Q9w o hf h1 hk hx hin
   rw [e]
   unfold tQ
   rw [h.1,h.2,Int.zero_mul,Int.add_zero,Int.sub_zero]
   rfl
 ·unfold tY at h
  rw [if_neg h1,Q25 hf] at h
  simpa using h
theorem Qg9 (o:FOk l W H) (hi:i<l.length) (hq:q<W*H):∀ {k:Nat},k≤ss.length→(∀ j,j<k→trOk W H l ss i q j)→(∀ x∈(tr W H l ss i q k).b,(sAt ss x).k=1)→(pxL (fK W H l ss ss.length) i).getD q 0=(pxL (fK W H l ss (ss.length-k)) i).getD (tr W H l ss i q k).q 0
 | 0,_,_,_=>rfl
 | k+1,hk,hok,hm=>by
  have hle:=Qke o.w.1 hq (fun j hj=>hok j (by omega):∀ j,j<k→trOk W H l ss i q j)
  obtain ⟨s,hcs⟩:∃ s,ss[ss.length-(k+1)]?=some s:=⟨_,jC (by omega)⟩
  have e:=Qe2 (W:=W) (H:=H) (l:=l) (i:=i) (q:=q) hcs
  have ih:=Qg9 o hi hq (k:=k) (by omega) (fun j hj=>hok j (by omega)) (fun x hx=>hm x (by
   rw [e]
   split
   ·exact List.mem_append_left _ hx
   ·exact hx))
  rw [ih,show ss.length-k=ss.length-(k+1)+1 by omega,Qub hcs]
  have hFo:=fK_ok (ss:=ss) (k:=ss.length-(k+1)) o
  obtain ⟨f,hf,_,_,hfp⟩:=hFo.at (i:=i) (by rw [Qmu];exact hi)
  rw [Q25 (Qbk hf),Q25 hf]
  dsimp only
  rw [Qpj (by rw [hfp];exact hle)]
  cases hy:tY (fK W H l ss (ss.length-(k+1))) W H s i (tr W H l ss i q k).q with
  | false =>
   rw [e,if_neg (by rw [hy];decide)]
   exact Qth hFo hf hle hy
  | true =>
   rw [if_pos hy] at e
   have h1:s.k=1:=by
    have:=hm ((ss.length-(k+1):Nat):Int) (by rw [e];simp)
    rw [sAt_eq hcs] at this
    exact this
   rw [e,if_pos h1]
   dsimp only
   have hin:=hok k (Nat.lt_succ_self k) s hcs h1 hy
   refine Q9w hFo hf h1 ?_ hle (by rw [Qmu];exact hin)
   unfold tY at hy
   rw [if_pos h1] at hy
   cases hk2:Q35 s i ((tr W H l ss i q k).q%W:Nat) ((tr W H l ss i q k).q/W:Nat) with
   | false=>rfl
   | true=>rw [hk2] at hy;cases hy
end
end Go.Dr.T
namespace Go.Dr.T
theorem Q7w {tm:List V} {g:List B} {v w u z:V} {P:V→Prop} (h1:tg tm 8=.ref 2 2 0) (h2:tg tm 9=.ref 3 1 0) (h3:tg tm 10=.ref 4 1 0) (hb:bget g 2=some (.blk [v,z] false)) (hc:bget g 3=some (.blk [w] false)) (hd:bget g 4=some (.blk [u] false)) (hk:P (.tup [.agg [v,z],w,u])):Get (Q0s ⟨tm,g⟩ [.cell 8 true 2,.cell 9 false 1,.cell 10 false 1]) P:=by
 refine ⟨.tup [.agg [v,z],w,u],?_,hk⟩
 simp only [Q0s,results,h1,h2,h3,hb,hc,hd,Q10,List.length_cons,List.length_nil]
 rfl
section
variable {c:Bool} {l:List Fm} {W H:Nat} {ss:List Sp} {i q:Nat} {vl lg:V} {lp:B}
theorem Qom {Gs:List B} {K:V→List B→Prop} (hL:ss.length≤20) (hW:1≤W) (hq:q<W*H) (h0:TH vl i i q lg lp [] .nilsl Gs) (hGs:Gs.length=7)
  (hgo:∀ (k:Nat) (s:Sp) (v:V) (G:List B) (K:V→List B→Prop),k<ss.length→ss[ss.length-(k+1)]?=some s→trOk W H l ss i q k→(tr W H l ss i q k).q<W*H→TH vl i i (tr W H l ss i q k).q lg lp (tr W H l ss i q k).b v G→(∀ v' G',G.length≤G'.length→TH vl i i (tr W H l ss i q (k+1)).q lg lp (tr W H l ss i q (k+1)).b v' G'→K (.bool true) G')→CallP FB md 0 (.yld 6) [.int .i64 ((ss.length-(k+1):Nat):Int),.agg (spV s)] G K)
  (hno:∀ (k:Nat) (s:Sp) (v:V) (G:List B) (K:V→List B→Prop),k<ss.length→ss[ss.length-(k+1)]?=some s→¬ trOk W H l ss i q k→(tr W H l ss i q k).q<W*H→TH vl i i (tr W H l ss i q k).q lg lp (tr W H l ss i q k).b v G→(∀ G',G.length≤G'.length→(∃ v' tm ps as bo,TH vl i (-1) (-1) lg (.lop false .ret tm ps as bo) ((tr W H l ss i q k).b++[((ss.length-(k+1):Nat):Int)]).reverse v' G')→K (.bool false) G')→CallP FB md 0 (.yld 6) [.int .i64 ((ss.length-(k+1):Nat):Int),.agg (spV s)] G K)
  (hk1:(∀ k,k<ss.length→trOk W H l ss i q k)→∀ v G,TH vl i i (tr W H l ss i q ss.length).q lg lp (tr W H l ss i q ss.length).b v G→K (.tup []) G)
  (hk2:∀ k:Nat,k<ss.length→(∀ j,j<k→trOk W H l ss i q j)→¬ trOk W H l ss i q k→∀ v G tm ps as bo,lp.blo G.length=true→TH vl i (-1) (-1) lg (.lop false .ret tm ps as bo) ((tr W H l ss i q k).b++[((ss.length-(k+1):Nat):Int)]).reverse v G→K (.tup []) G):CallP FB md 0 (.fn 72 [.rp [.sl c ss.length (spC ss)] 0]) [.yld 6] Gs K:=by
 have hlp:=Q08 h0.cl (Q0p h0.lop)
 rw [hGs] at hlp
 refine it93 (N:=7) (Q:=fun k G=>(∃ v,TH vl i i (tr W H l ss i q k).q lg lp (tr W H l ss i q k).b v G)∧∀ j,j<k→trOk W H l ss i q j) (S:=fun G=>∃ k v tm ps as bo,(k<ss.length∧(∀ j,j<k→trOk W H l ss i q j)∧¬ trOk W H l ss i q k)∧TH vl i (-1) (-1) lg (.lop false .ret tm ps as bo) ((tr W H l ss i q k).b++[((ss.length-(k+1):Nat):Int)]).reverse v G) (ok:=fun k=>trOk W H l ss i q k) (by omega) ⟨fun k G ⟨⟨v,e⟩,_⟩=>⟨e.cl,e.le⟩,fun k G j ⟨⟨v,e⟩,e2⟩ h1 h2=>⟨⟨v,e.take h1 h2⟩,e2⟩,fun G ⟨k,v,tm,ps,as,bo,e0,e⟩=>⟨e.cl,e.le⟩,fun G j ⟨k,v,tm,ps,as,bo,e0,e⟩ h1 h2=>⟨k,v,tm,ps,as,bo,e0,e.take h1 h2⟩,?_,?_⟩ hGs ⟨⟨.nilsl,h0⟩,fun j hj=>absurd hj (Nat.not_lt_zero _)⟩ (fun G ⟨⟨v,e⟩,e2⟩=>hk1 e2 v G e) (fun G ⟨k,v,tm,ps,as,bo,e0,e⟩=>hk2 k e0.1 e0.2.1 e0.2.2 v G tm ps as bo (Q1n e.le _ hlp) e)
 ·rintro k s G K' hk hcs hok ⟨⟨v,e⟩,e2⟩ hK
  refine hgo k s v G K' hk hcs hok (Qke hW hq e2) e fun v' G' g1 g2=>hK G' g1 ⟨⟨v',g2⟩,fun j hj=>?_⟩
  by_cases ej:j=k
  ·subst ej;exact hok
  ·exact e2 j (by omega)
 ·rintro k s G K' hk hcs hnk ⟨⟨v,e⟩,e2⟩ hK
  exact hno k s v G K' hk hcs hnk (Qke hW hq e2) e fun G' g1 ⟨v',tm,ps,as,bo,g2⟩=>hK G' g1 ⟨k,v',tm,ps,as,bo,⟨hk,e2,hnk⟩,g2⟩
end
theorem Q4f {h:List B} {x y:B}:bset (h++[x]) h.length y=h++[y]:=by
 rw [Q1m,List.set_append_right _ _ (Nat.le_refl _),Nat.sub_self]
 rfl
theorem Q58 {s:Sp} {c:Bool} {l:List Fm} {a x y n z t u:Int} {h:List B} {w:Nat} {dat:Bool} (hb:bget h w=some (.blk (wkC s c l a x y n) dat)):Q1o h depth [.ref w 13 0,.int .i64 z,.int .i64 t,.int .i64 u]=some [.rp (wkC s c l a x y n) 0,.int .i64 z,.int .i64 t,.int .i64 u] :=
 (VwL.cons (Qdv (d:=62) hb) (VwL.cons (Vw.int rfl) (VwL.cons (Vw.int rfl) (VwL.cons (Vw.int rfl) VwL.nil)))).1
theorem Qc6 {vl lg v v':V} {i a b a' b':Int} {lp lp':B} {L L':List Int} {G G4:List B} {tm:List V} (e:TH vl i a b lg lp L v G) (h1:G.length≤G4.length) (h2:TH vl i a' b' lg lp' L' v' G4):G.length≤(bset (trunc G.length tm G4) 6 lp).length∧TH vl i a' b' lg lp L' v' (bset (trunc G.length tm G4) 6 lp):=by
 have hlb0:=Q08 e.cl (Q0p e.lop)
 have h3:=h2.trunc (tm:=tm) e.le h1
 have h4:G.length≤(trunc G.length tm G4).length:=Q1y (by omega)
 exact ⟨by rw [Q03];exact h4,h3.setlop (Q1n h4 _ hlb0)⟩
theorem Qr8 {vl lg v v':V} {i a b a' b':Int} {lp lp' lp2:B} {L L':List Int} {G G4:List B} {tm:List V} (e:TH vl i a b lg lp L v G) (hb:lp2.blo G.length=true) (h1:G.length≤G4.length) (h2:TH vl i a' b' lg lp' L' v' G4):G.length≤(bset (trunc G.length tm G4) 6 lp2).length∧TH vl i a' b' lg lp2 L' v' (bset (trunc G.length tm G4) 6 lp2):=by
 have h3:=h2.trunc (tm:=tm) e.le h1
 have h4:G.length≤(trunc G.length tm G4).length:=Q1y (by omega)
 exact ⟨by rw [Q03];exact h4,h3.setlop (Q1n h4 _ hb)⟩
theorem TH.at {vl lg v:V} {i a b:Int} {lp:B} {L:List Int} {G:List B} {q n:Nat} (e:TH vl i a b lg lp L v G) (hv:v=.ms 1 q n 0 n false):7≤q∧q<G.length∧L≠[]∧n=L.length∧bget G q=some (.blk (Q00 L) true):=by
 rcases e.il with ⟨_,h⟩|⟨q',h1,h4,h2,h3⟩
 ·rw [h] at hv;cases hv
 ·rw [h2] at hv;cases hv;exact ⟨h1,Q05 h3,h4,rfl,h3⟩
theorem Q7v {vl lg:V} {i a b:Int} {lp:B} {L:List Int} {G:List B} {q n:Nat} {K:V→List B→Prop} (e:TH vl i a b lg lp L (.ms 1 q n 0 n false) G) (hl:L.length≤100000) (hk:∀ G',G'.length=G.length→TH vl i a b lg lp L.reverse (.ms 1 q n 0 n false) G'→K (.tup []) G'):CallP FB md 0 (.fn 41 []) [.ms 1 q n 0 n false] G K:=by
 obtain ⟨_,_,_,rfl,h3⟩:=e.at rfl
 exact reverse_call h3 hl (hk _ (Q03 ..) e.rev)
theorem Qky {vl lg:V} {i a b:Int} {lp:B} {L:List Int} {G:List B} {K:V→List B→Prop} (e:TH vl i a b lg lp L .nilsl G) (hk:TH vl i a b lg lp L.reverse .nilsl G→K (.tup []) G):CallP FB md 0 (.fn 41 []) [.nilsl] G K:=by
 rcases e.il with ⟨rfl,_⟩|⟨_,_,_,h,_⟩
 ·exact Qeb (hk e)
 ·cases h
theorem tY_any {F:List Fm} {W H:Nat} {s:Sp} {i q:Nat} {f:Fm} (h1:¬ s.k=1) (hf:F[i]?=some f) (hq:q<f.p.length):tY F W H s i q=(doC F W H s).any (atB i q):=by
 unfold tY
 rw [if_neg h1,Qui hf hq,Q25 hf]
theorem Qr0 {d:Bool} {n:Nat} {k:List V} {i x z:Int} {h:List B} (h1:bget h 1=some (.blk [.int .i64 i] false)) (h2:bget h 2=some (.blk [.int .i64 z,.int .i64 x] false)):Q1o h depth [.sl d n k,.fn 43 [.ref 1 1 0,.ref 2 2 0]]=some [.sl d n k,.fn 43 [.rp [.int .i64 i] 0,.rp [.int .i64 z,.int .i64 x] 0]] :=
 (VwL.cons Vw.sl (VwL.cons (Vw.fn (VwL.cons (Vw.ref h1 rfl rfl (VwL.cons (Vw.int rfl) VwL.nil)) (VwL.cons (Vw.ref h2 rfl rfl (VwL.cons (Vw.int rfl) (VwL.cons (Vw.int rfl) VwL.nil))) VwL.nil))) VwL.nil)).1
section
variable {vl lg v:V} {i a b:Int} {lp:B} {L:List Int} {G:List B}
theorem fB.put0T {y:Int} {K:List B→Prop} (e:TH vl i a b lg lp [] .nilsl G) (hk:∀ G',G'.length=G.length+1→(∀ k x,7≤k→bget G k=some x→bget G' k=some x)→TH vl i a b lg lp [y] (.ms 1 G.length 1 0 1 false) G'→K G'):fB (bset (G++[.blk [.int .i64 y] true]) 3 (.blk [.ms 1 G.length 1 0 1 false] false)) K :=
 fB.mk (hk _ (by rw [Q03,jD];rfl) (fun k x h1 h2=>(Q02 (by omega)).trans (Q01 h2)) e.put0)
theorem fB.putST {y:Int} {q n:Nat} {K:List B→Prop} (e:TH vl i a b lg lp L (.ms 1 q L.length 0 L.length false) G) (hn:n=L.length+1) (hk:∀ G',G'.length=G.length+1→(∀ k x,7≤k→k≠q→bget G k=some x→bget G' k=some x)→TH vl i a b lg lp (L++[y]) (.ms 1 q n 0 n false) G'→K G'):fB (bset (bset (G++[.unborn]) q (.blk (Q00 L++[.int .i64 y]) true)) 3 (.blk [.ms 1 q n 0 n false] false)) K :=
 fB.mk (hk _ (by rw [Q03,Q03,jD];rfl) (fun k x h1 h2 h3=>(Q02 (by omega)).trans ((Q02 (Ne.symm h2)).trans (Q01 h3))) (e.putS hn))
theorem fB.fromT {a' b':Int} {K:List B→Prop} (e:TH vl i a b lg lp L v G) (hk:∀ G',G'.length=G.length→TH vl i a' b' lg lp L v G'→K G'):fB (bset G 2 (.blk [.int .i64 a',.int .i64 b'] false)) K :=
 fB.mk (hk _ (Q03 ..) e.from)
end
theorem Qoz {W H x:Nat} {s:Sp} (o3:1≤W∧W≤48) (hnn:1≤W*H∧W*H≤2304) (hx:x<W*H) (ha : -47≤s.a∧s.a≤47) (hb : -47≤s.b∧s.b≤47):IntKind.i64.wrap (((x%W:Nat):Int)-s.a)=((x%W:Nat):Int)-s.a∧IntKind.i64.wrap (((x/W:Nat):Int)-s.b)=((x/W:Nat):Int)-s.b:=by
 have m1:x%W<W:=Nat.mod_lt _ (by omega)
 have m2:x/W≤x:=Nat.div_le_self _ _
 generalize x%W=u at *
 generalize x/W=v at *
 exact ⟨wrap_i64 (by omega) (by omega),wrap_i64 (by omega) (by omega)⟩
theorem Qie {N W H x i:Nat} {s:Sp} (o3:1≤W∧W≤48) (hnn:1≤W*H∧W*H≤2304) (hx:x<W*H) (ha : -47≤s.a∧s.a≤47) (hb : -47≤s.b∧s.b≤47) (hin:tO N W H s i x=true):IntKind.i64.wrap (((x%W:Nat):Int)-s.a)=((x%W:Nat):Int)-s.a∧IntKind.i64.wrap (((x/W:Nat):Int)-s.b)=((x/W:Nat):Int)-s.b∧IntKind.i64.wrap (s.b*(W:Int))=s.b*(W:Int)∧IntKind.i64.wrap (s.b*(W:Int)+s.a)=s.b*(W:Int)+s.a∧IntKind.i64.wrap ((x:Int)-(s.b*(W:Int)+s.a))=((tQ W s x:Nat):Int):=by
 obtain ⟨hq1,hq2⟩:=Qsy (W:=W) (H:=H) o3.1 hin
 have m1:x%W<W:=Nat.mod_lt _ (by omega)
 have m2:x/W≤x:=Nat.div_le_self _ _
 generalize x%W=u at *
 generalize x/W=v at *
 have hbW : -2256≤s.b*(W:Int)∧s.b*(W:Int)≤2256:=by
  have h1:(W:Int)≤48:=by omega
  have h2:(0:Int)≤W:=by omega
  constructor
  ·have:=Int.mul_le_mul_of_nonneg_right hb.1 h2
   omega
  ·have:=Int.mul_le_mul_of_nonneg_right hb.2 h2
   omega
 generalize s.b*(W:Int)=m at *
 refine ⟨wrap_i64 (by omega) (by omega),wrap_i64 (by omega) (by omega),wrap_i64 (by omega) (by omega),wrap_i64 (by omega) (by omega),?_⟩
 rw [wrap_i64 (by omega) (by omega)]
 exact hq2.symm
def AS24:MC:=.seq (r9 [gM 14 0 59]) (.reg false 1 [gN 15 0 (.al 0 [.int .i64 0,.int .i64 0,.int .i64 0,.nilsl,.int .i64 0,.int .i64 0,.int .i64 0,.nilsl]),gW 1 (.st 8 (.t 15) (.t 60))])
def BO24:MC:=.block 2 (.seq (.reg false 1 [gN 61 0 (.ld true 8 (.t 15)),gN 62 0 (.ld false 1 (.t 4)),gN 63 3 (.bd [.int .i64 0,.int .i64 0,.int .i64 0,.nilsl,.int .i64 0,.int .i64 0,.int .i64 0,.nilsl,.nilsl,.int .i64 0,.int .i64 0,.int .i64 0,.int .i64 0] [(0,8,.t 61),(8,1,.t 62)]),gN 64 7 (.bx 0 (.t 63)),gM 16 15 64]) (.seq (r9 [gM 65 0 16,gN 66 0 (.ld false 1 (.t 6)),gN 67 0 (.fa 1 (.t 8)),gN 68 4 (.ld false 1 (.t 67)),gN 69 15 (.call (.c (.fn 38 [])) [.t 65,.t 66,.t 68])]) (.block 3 (.seq (r9 [gN 71 0 (.fa 0 (.t 15)),gN 72 1 (.ld false 1 (.t 71)),gN 73 3 (.bo .eql (.t 72) (.c (.int .i64 1))),gM 74 7 73,gI 75 74 true 15 (.mv (.t 16)),gI 76 74 true 31 (.call (.c (.fn 39 [])) [.t 75]),gI 77 74 true 63 (.un .not (.t 76)),gN 78 127 (.pk (.t 74) (.t 77) (.c (.bool false))),gM 79 255 78,gI 80 79 true 511 (.fa 4 (.t 15)),gI 81 79 true 1023 (.ld false 1 (.t 80)),gI 82 79 true 2047 (.bo .neq (.t 81) (.c (.int .i64 0))),gI 83 79 true 4095 (.mv (.t 82)),gI 84 83 false 8191 (.fa 5 (.t 15)),gI 85 83 false 16383 (.ld false 1 (.t 84)),gI 86 83 false 32767 (.bo .neq (.t 85) (.c (.int .i64 0))),gI 87 79 true 65535 (.pk (.t 83) (.c (.bool true)) (.t 86)),gN 88 131071 (.pk (.t 79) (.t 87) (.c (.bool false))),gM 70 262143 88]) (.cond (.t 70) (.seq (.reg false 1 [gN 89 0 (.ld false 1 (.t 9)),gM 90 0 14,gN 91 2 (.bs 1 [.int .i64 0] [(0,1,.t 90)]),gN 92 7 (.app 0 1 8 true (.t 89) (.t 91)),gW 15 (.st 1 (.t 9) (.t 92))]) (.seq (.seq (.reg true 0 [gM 94 0 16,gN 95 0 (.ld false 1 (.t 6)),gM 96 0 16,gN 97 4 (.nc (.t 96)),gN 98 12 (.fa 10 (.t 97)),gN 99 28 (.ld false 1 (.t 98)),gN 100 0 (.fa 4 (.t 15)),gN 101 64 (.ld false 1 (.t 100)),gN 102 252 (.bo .sub (.t 99) (.t 101)),gM 103 0 16,gN 104 512 (.nc (.t 103)),gN 105 1536 (.fa 11 (.t 104)),gN 106 3584 (.ld false 1 (.t 105)),gN 107 0 (.fa 5 (.t 15)),gN 108 8192 (.ld false 1 (.t 107)),gN 109 32256 (.bo .sub (.t 106) (.t 108)),gN 110 65535 (.call (.c (.fn 40 [])) [.t 94,.t 95,.t 102,.t 109]),gM 93 131071 110,gN 111 262143 (.ex (.t 93) 0),gN 112 262143 (.ex (.t 93) 1),gM 17 524287 111,gM 18 2097151 112]) (.seq (r9 [gM 113 0 18,gN 114 1 (.un .not (.t 113))]) (.cond (.t 114) (.seq (r9 [gN 115 0 (.ld false 1 (.t 9)),gN 116 1 (.call (.c (.fn 41 [])) [.t 115])]) (.seq (.reg true 0 [gN 117 0 (.bd [.int .i64 0,.int .i64 0] [(0,1,.c (.int .i64 (-1))),(1,1,.c (.int .i64 (-1)))]),gN 118 0 (.ld false 1 (.t 9)),gW 1 (.st 2 (.t 8) (.t 117)),gW 7 (.st 1 (.t 9) (.t 118)),gW 15 (.st 1 (.t 10) (.c (.int .i64 0)))]) .ret)) .skip))) (.reg true 0 [gN 119 0 (.fa 1 (.t 8)),gN 120 1 (.ld false 1 (.t 119)),gN 121 0 (.fa 5 (.t 15)),gN 122 4 (.ld false 1 (.t 121)),gN 123 0 (.ld false 1 (.t 4)),gN 124 16 (.ia 3 (.t 123) (.c (.int .i64 0))),gN 125 48 (.fa 0 (.t 124)),gN 126 112 (.ld false 1 (.t 125)),gN 127 252 (.bo .mul (.t 122) (.t 126)),gN 128 0 (.fa 4 (.t 15)),gN 129 512 (.ld false 1 (.t 128)),gN 130 2044 (.bo .add (.t 127) (.t 129)),gN 131 4095 (.bo .sub (.t 120) (.t 130)),gN 132 8191 (.fa 1 (.t 8)),gW 16383 (.st 1 (.t 132) (.t 131))]))) (.seq (r9 [gN 134 0 (.fa 0 (.t 15)),gN 135 1 (.ld false 1 (.t 134)),gN 136 3 (.bo .neq (.t 135) (.c (.int .i64 1))),gM 137 7 136,gI 138 137 true 15 (.ld false 1 (.t 12)),gI 139 137 true 15 (.mv (.t 14)),gI 140 137 true 63 (.ia 1 (.t 138) (.t 139)),gI 141 137 true 127 (.ld false 1 (.t 140)),gI 142 137 true 15 (.mf 43 [.t 6,.t 8]),gI 143 137 true 511 (.call (.c (.fn 42 [])) [.t 141,.t 142]),gN 144 1023 (.pk (.t 137) (.t 143) (.c (.bool false))),gM 133 2047 144]) (.cond (.t 133) (.reg false 1 [gN 145 0 (.ld false 1 (.t 9)),gM 146 0 14,gN 147 2 (.bs 1 [.int .i64 0] [(0,1,.t 146)]),gN 148 7 (.app 0 1 8 true (.t 145) (.t 147)),gW 15 (.st 1 (.t 9) (.t 148))]) .skip)))))))
def TM24 (x:Nat→V):List V:=[x 0,x 1,x 2,x 3,.ref 0 1 0,.dead,.ref 1 1 0,.dead,.ref 2 2 0,.ref 3 1 0,.ref 4 1 0,x 11,.ref 5 1 0,x 13,.dead,.dead,.dead,.dead,.dead,x 19,x 20,x 21,x 22,x 23,x 24,x 25,x 26,x 27,x 28,x 29,x 30,x 31,x 32,x 33,x 34,x 35,x 36,x 37,x 38,x 39,x 40,x 41,x 42,x 43,x 44,x 45,x 46,x 47,x 48,x 49,x 50,x 51,x 52,x 53,x 54,x 55,x 56,x 57,x 58,.dead,.dead,.dead,.dead,.dead,.dead,.dead,.dead,.dead,.dead,.dead,.dead,.dead,.dead,.dead,.dead,.dead,.dead,.dead,.dead,.dead,.dead,.dead,.dead,.dead,.dead,.dead,.dead,.dead,.dead,.dead,.dead,.dead,.dead,.dead,.dead,.dead,.dead,.dead,.dead,.dead,.dead,.dead,.dead,.dead,.dead,.dead,.dead,.dead,.dead,.dead,.dead,.dead,.dead,.dead,.dead,.dead,.dead,.dead,.dead,.dead,.dead,.dead,.dead,.dead,.dead,.dead,.dead,.dead,.dead,.dead,.dead,.dead,.dead,.dead,.dead,.dead,.dead,.dead,.dead,.dead,.dead,.dead,.dead,.dead,.dead,.dead,.dead,.dead,.dead,.dead,.dead,.dead,.dead]
end Go.Dr.T
