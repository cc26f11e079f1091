/- Top, of chapter 08: logs in order; what changes make of pictures, plain. -/
import Derived.Test.YtbnmdlnkhghbpaaGreatDoorG9
set_option maxRecDepth 100000
set_option maxHeartbeats 20000000
namespace Go.Dr.T
def cgLt (x y:Cg):Prop:=x.f<y.f∨x.f=y.f∧x.p<y.p
structure COk (n k:Nat) (cs:List Cg):Prop where
 rng:∀ x∈cs,(0≤x.f∧x.f<(n:Int))∧(0≤x.p∧x.p<(k:Int))∧x.o≠x.n
 asc:cs.Pairwise cgLt
theorem COk.at {n k:Nat} {cs:List Cg} (c:COk n k cs) {i j:Nat} {x y:Cg} (hij:i<j) (hx:cs[i]?=some x) (hy:cs[j]?=some y):cgLt x y:=by
 obtain ⟨h1,e1⟩:=jB.1 hx
 obtain ⟨h2,e2⟩:=jB.1 hy
 have:=List.pairwise_iff_getElem.1 c.asc i j h1 h2 hij
 rwa [e1,e2] at this
def flwB (x y:Cg):Bool:=decide (x.f>y.f)||(decide (x.f=y.f)&&decide (x.p>y.p))
theorem Qiy {x y:Cg}:Fun FB md 95 [.agg (cgV x),.agg (cgV y)] (.bool (flwB x y)):=by
 unfold flwB
 refine Q04 rfl rfl ?_
 by_cases h1:x.f>y.f
 ·rw [decide_eq_true h1,Bool.true_or]
  repeat' ((conv=>whnf);first|refine zT ?_|refine Get.mk _ rfl ?_|refine Leaves.of ?_|refine Vw.bool ?_|refine zR ?_)
  all_goals first|rfl|(exfalso;omega)
 rw [decide_eq_false h1,Bool.false_or]
 by_cases h2:x.f=y.f
 ·rw [decide_eq_true h2,Bool.true_and]
  repeat' ((conv=>whnf);first|refine zT ?_|refine zF ?_|refine Get.mk _ rfl ?_|refine Leaves.of ?_|refine Vw.bool ?_|refine zR ?_)
  all_goals first|rfl|(exfalso;omega)
 ·rw [decide_eq_false h2,Bool.false_and]
  repeat' ((conv=>whnf);first|refine zF ?_|refine Get.mk _ rfl ?_|refine Leaves.of ?_|refine Vw.bool ?_|refine zR ?_)
  all_goals first|rfl|(exfalso;omega)
def bfC (cs:List Cg):Nat→Cg
 | 0=>⟨-1,0,0,0⟩
 | i+1=>cs.getD i ⟨-1,0,0,0⟩
theorem Qph {c:Bool} {n k:Nat} {cs:List Cg} (o:COk n k cs) (hn:n≤12) (hk:k≤2304) (hl:cs.length≤1000000):Fun FB md 69 [.sl c cs.length (cgC cs)] (.bool false):=by
 refine Q04 rfl rfl ?_
 repeat' ((conv=>whnf);first|refine Get.mk _ rfl ?_|refine zR ?_)
 all_goals try (exfalso;omega)
 refine LoopP.by (fun i:Nat=>i≤cs.length) (fun i=>[(9,.int .i64 (i:Nat))]) (fun i=>[.blk [.int .i64 (bfC cs i).f,.int .i64 (bfC cs i).p,.int .u8 (bfC cs i).o.toNat,.int .u8 (bfC cs i).n.toNat] false]) (fun i=>cs.length-i) 0 (Nat.zero_le _) rfl ?_
 rintro i hi'
 dsimp only
 by_cases hi:i<cs.length
 rotate_left
 ·obtain rfl:i=cs.length:=by omega
  repeat' ((conv=>whnf);first|refine zF ?_|refine Get.mk _ rfl ?_|refine Leaves.of ?_|refine Vw.bool ?_)
  all_goals first|rfl|(exfalso;omega)
 obtain ⟨x,hx⟩:∃ x,cs[i]?=some x:=⟨_,jC hi⟩
 have hp:=Q7l hx
 obtain ⟨r1,r2,r3⟩:=o.rng x (jE hx)
 have hiw:IntKind.i64.wrap ((i:Int)+1)=((i+1:Nat):Int):=by rw [wrap_i64 (by omega) (by omega)];omega
 have hil:i≤cs.length-1:=by omega
 have h0l:0<cs.length:=by omega
 have hb:bfC cs (i+1)=x:=by
  show cs.getD i _=x
  rw [jM,hx];rfl
 have hf:flwB x (bfC cs i)=true:=by
  have:cgLt (bfC cs i) x:=by
   cases i with
   | zero=>left;show (-1:Int)<x.f;omega
   | succ i =>
    obtain ⟨y,hy⟩:∃ y,cs[i]?=some y:=⟨_,jC (by omega)⟩
    have e:bfC cs (i+1)=y:=by
     show cs.getD i _=y
     rw [jM,hy];rfl
    rw [e]
    exact o.at (Nat.lt_succ_self i) hy hx
  unfold flwB
  simp only [Bool.or_eq_true,jF,jG]
  rcases this with h|h
  ·left;omega
  ·right;omega
 have k1:=Q0z (n:=x.f) (lo:=0) (hi:=11)
 have k2:=Q0z (n:=x.p) (lo:=0) (hi:=2303)
 have e1:outB x.f 0 11=false:=by simp only [outB,jL,jI];omega
 have e2:outB x.p 0 2303=false:=by simp only [outB,jL,jI];omega
 rw [e1] at k1
 rw [e2] at k2
 have k3:=Qiy (x:=x) (y:=bfC cs i)
 rw [hf] at k3
 have hne:¬ ((x.o.toNat:Nat):Int)=((x.n.toNat:Nat):Int):=fun h=>r3 (UInt8.toNat_inj.1 (Int.ofNat.inj h))
 repeat' ((conv=>whnf);first|refine Br.decF hne ?_|refine Bnd.eq hiw ?_|refine Br.f ?_|refine zT ?_|refine Get.mk _ hp ?_|refine Idx.nat hil ?_|refine Req.mk h0l ?_|refine zC k1 ?_|refine zC k2 ?_|refine zC k3 ?_|refine Get.mk _ rfl ?_|refine zR ?_)
 all_goals first|(exfalso;omega)|exact NextP.mk (i+1) hi (by omega) (by rw [hb];rfl)
theorem rng_ok {c:Bool} {l:List Fm} {W H:Nat} {x:Cg} (o:FOk l W H) (r1:0≤x.f∧x.f<(l.length:Int)) (r2:0≤x.p∧x.p<((W*H:Nat):Int)):Fun FB md 68 [.agg (cgV x),.rp [.sl c l.length (fmC l)] 0] (.bool false):=by
 obtain ⟨f0,hf0,_,_,h0p⟩:=o.at o.n0
 obtain ⟨_,_,b2⟩:=fm_c hf0
 rw [h0p] at b2
 have o1:=o.n12
 have o2:=o.n0
 have hnn:=o.nn
 have k1:=Q0z (n:=x.f) (lo:=0) (hi:=(l.length:Int)-1)
 have k2:=Q0z (n:=x.p) (lo:=0) (hi:=((W*H:Nat):Int)-1)
 have e1:outB x.f 0 ((l.length:Int)-1)=false:=by simp only [outB,jL,jI];omega
 have e2:outB x.p 0 (((W*H:Nat):Int)-1)=false:=by simp only [outB,jL,jI];omega
 rw [e1] at k1
 rw [e2] at k2
 have w1:IntKind.i64.wrap ((l.length:Int)-1)=(l.length:Int)-1:=wrap_i64 (by omega) (by omega)
 have w2:IntKind.i64.wrap (((W*H:Nat):Int)-1)=((W*H:Nat):Int)-1:=wrap_i64 (by omega) (by omega)
 refine Q04 rfl rfl ?_
 repeat' ((conv=>whnf);first|refine Bnd.eq w1 ?_|refine Bnd.eq w2 ?_|refine Br.f ?_|refine Get.mk _ b2 ?_|refine Req.mk o2 ?_|refine zC k1 ?_|refine zC k2 ?_|refine zI ?_|refine Get.mk _ rfl ?_|refine Leaves.of ?_|refine Vw.bool ?_|refine zR ?_)
 all_goals first|rfl|(exfalso;omega)
theorem Qt4 {c d:Bool} {l:List Fm} {W H:Nat} {cs:List Cg} (o:FOk l W H) (q:COk l.length (W*H) cs) (hl:cs.length≤1000000):Fun FB md 75 [.sl d cs.length (cgC cs),.fn 68 [.rp [.sl c l.length (fmC l)] 0]] (.int .i64 (-1)):=by
 refine Q04 rfl rfl ?_
 skip
 all_goals try (exfalso;omega)
 refine LoopP.by (fun i:Nat=>i≤cs.length) (fun i=>[(8,.int .i64 (i:Nat))]) (fun i=>[]) (fun i=>cs.length-i) 0 (Nat.zero_le _) rfl ?_
 rintro i hi'
 dsimp only
 by_cases hi:i<cs.length
 rotate_left
 ·obtain rfl:i=cs.length:=by omega
  repeat' ((conv=>whnf);first|refine zF ?_|refine Get.mk _ rfl ?_|refine Leaves.of ?_|refine Vw.int ?_)
  all_goals first|rfl|(exfalso;omega)
 obtain ⟨x,hx⟩:∃ x,cs[i]?=some x:=⟨_,jC hi⟩
 have hp:=Q7l hx
 obtain ⟨r1,r2,_⟩:=q.rng x (jE hx)
 have k1:=rng_ok (c:=c) (x:=x) o r1 r2
 have hiw:IntKind.i64.wrap ((i:Int)+1)=((i+1:Nat):Int):=by rw [wrap_i64 (by omega) (by omega)];omega
 have hil:i≤cs.length-1:=by omega
 have h0l:0<cs.length:=by omega
 repeat' ((conv=>whnf);first|refine Bnd.eq hiw ?_|refine Br.f ?_|refine zT ?_|refine Get.mk _ hp ?_|refine Idx.nat hil ?_|refine Req.mk h0l ?_|refine zC k1 ?_)
 all_goals first|(exfalso;omega)|exact NextP.mk (i+1) hi (by omega) rfl
theorem Qt5 {c d:Bool} {l:List Fm} {W H:Nat} {cs:List Cg} (o:FOk l W H) (q:COk l.length (W*H) cs) (hl:cs.length≤1000000):Fun FB md 42 [.sl d cs.length (cgC cs),.fn 68 [.rp [.sl c l.length (fmC l)] 0]] (.bool false):=by
 have k1:=Qt4 (c:=c) (d:=d) o q hl
 refine Q04 rfl rfl ?_
 repeat' ((conv=>whnf);first|refine zC k1 ?_|refine Get.mk _ rfl ?_|refine Leaves.of ?_|refine Vw.bool ?_)
 all_goals first|rfl|(exfalso;omega)
theorem Qlx {c d:Bool} {l:List Fm} {W H:Nat} {A:List (List Cg)} (o:FOk l W H) (hA:A.length≤20) (q:∀ x∈A,COk l.length (W*H) x∧x.length≤30000) (he:(flE l).2=0):Fun FB md 32 [.sl c l.length (fmC l),.sl d A.length (lgC A)] (.tup [.int .i64 0,.int .i64 0]):=by
 have k1:=Q7k (c:=c) (l:=l)
 rw [he] at k1
 generalize (flE l).1=z1 at *
 have hnn:=o.nn
 have hn12:=o.n12
 refine Q04 rfl rfl ?_
 repeat' ((conv=>whnf);first|refine Br.f ?_|refine zF ?_|refine zC k1 ?_|refine Get.mk _ rfl ?_|refine zR ?_)
 all_goals try (exfalso;omega)
 refine LoopP.by (fun i:Nat=>i≤A.length) (fun i=>[(21,.int .i64 (i:Nat))]) (fun i=>[.blk [.sl c l.length (fmC l)] false]) (fun i=>A.length-i) 0 (Nat.zero_le _) rfl ?_
 rintro i hi'
 dsimp only
 by_cases hi:i<A.length
 rotate_left
 ·obtain rfl:i=A.length:=by omega
  repeat' ((conv=>whnf);first|refine zF ?_|refine Get.mk _ rfl ?_|refine Leaves.of ?_|refine Vw.int ?_|refine Vw.tup ?_|refine VwL.cons ?_ ?_|refine VwL.nil)
  all_goals first|rfl|(exfalso;omega)
 obtain ⟨x,hx⟩:∃ x,A[i]?=some x:=⟨_,jC hi⟩
 have hp:=Qm3 hx
 obtain ⟨q1,q2⟩:=q x (jE hx)
 have k2:=Qt5 (c:=c) (d:=decide (x=[])) o q1 (by omega)
 have k3:=Qph (c:=decide (x=[])) q1 hn12 hnn.2 (by omega)
 have hiw:IntKind.i64.wrap ((i:Int)+1)=((i+1:Nat):Int):=by rw [wrap_i64 (by omega) (by omega)];omega
 have hil:i≤A.length-1:=by omega
 have h0l:0<A.length:=by omega
 unfold cgL at hp
 repeat' ((conv=>whnf);first|refine Bnd.eq hiw ?_|refine Br.f ?_|refine zT ?_|refine Get.mk _ hp ?_|refine Idx.nat hil ?_|refine Req.mk h0l ?_|refine Q06 rfl rfl k2 (.inr rfl) ?_|refine zC k3 ?_)
 all_goals first|(exfalso;omega)|exact NextP.mk (i+1) hi (by omega) rfl
def swC (x:Cg):Cg:=⟨x.f,x.p,x.n,x.o⟩
def Qby (A:Nat→List UInt8) (x:Cg):Nat→List UInt8:=fun j=>if j=x.f.toNat then (A x.f.toNat).set x.p.toNat x.n else A j
def apOk (A:Nat→List UInt8) (x:Cg):Bool:=decide ((A x.f.toNat).getD x.p.toNat 0=x.o)
def apT (A:Nat→List UInt8) (xs:List Cg):Nat→Nat→List UInt8
 | 0=>A
 | k+1=>match xs[k]? with
  | some x=>Qby (apT A xs k) x
  | none=>apT A xs k
def Qbz (A:Nat→List UInt8) (xs:List Cg):Prop:=∀ k x,xs[k]?=some x→apOk (apT A xs k) x=true
theorem Qr1 {A:Nat→List UInt8} {xs:List Cg} {k:Nat} {x:Cg} (h:xs[k]?=some x):apT A xs (k+1)=Qby (apT A xs k) x:=by rw [apT,h]
theorem Q36 {A:Nat→List UInt8} {xs:List Cg} {j:Nat}:∀ {k:Nat},(apT A xs k j).length=(A j).length
 | 0=>rfl
 | k+1=>by
  rw [apT]
  cases xs[k]? with
  | none=>exact Q36 (k:=k)
  | some x =>
   show (Qby (apT A xs k) x j).length=_
   unfold Qby
   by_cases h:j=x.f.toNat
   ·rw [if_pos h,List.length_set,← h];exact Q36 (k:=k)
   ·rw [if_neg h];exact Q36 (k:=k)
def plD (xs:List Cg):Prop:=∀ (i j:Nat) (x y:Cg),i<j→xs[i]?=some x→xs[j]?=some y→¬ (x.f.toNat=y.f.toNat∧x.p.toNat=y.p.toNat)
theorem COk.pl {n k:Nat} {cs:List Cg} (c:COk n k cs):plD cs:=fun i j x y hij hx hy h=>by
 have h1:=c.at hij hx hy
 have h2:=c.rng x (jE hx)
 have h3:=c.rng y (jE hy)
 rcases h1 with h1|h1<;>omega
theorem plD_sw {cs:List Cg} (h:plD cs):plD (cs.map swC):=fun i j x y hij hx hy=>by
 rw [jH] at hx hy
 cases h1:cs[i]? with
 | none=>rw [h1] at hx;cases hx
 | some a =>
  cases h2:cs[j]? with
  | none=>rw [h2] at hy;cases hy
  | some b =>
   rw [h1] at hx
   rw [h2] at hy
   cases hx
   cases hy
   exact h i j a b hij h1 h2
theorem Qpw {p:List UInt8} {i j:Nat} {u:UInt8} (h:i<p.length):(p.set i u).getD j 0=if i=j then u else p.getD j 0:=by
 rw [jM,List.getElem?_set,jM]
 by_cases e:i=j
 ·rw [if_pos e,if_pos e,if_pos h];rfl
 ·rw [if_neg e,if_neg e]
theorem Qfp {A:Nat→List UInt8} {xs:List Cg} {j m:Nat}:∀ {k:Nat},(∀ i x,i<k→xs[i]?=some x→¬ (x.f.toNat=j∧x.p.toNat=m))→(apT A xs k j).getD m 0=(A j).getD m 0
 | 0,_=>rfl
 | k+1,h=>by
  have ih:=Qfp (A:=A) (xs:=xs) (j:=j) (m:=m) (k:=k) fun i x hi=>h i x (by omega)
  cases hx:xs[k]? with
  | none=>rw [apT,hx];exact ih
  | some x =>
   rw [Qr1 hx]
   unfold Qby
   by_cases e:j=x.f.toNat
   ·rw [if_pos e,← e,jM,List.getElem?_set_ne (fun q=>h k x (Nat.lt_succ_self k) hx ⟨e.symm,q⟩),← jM]
    exact ih
   ·rw [if_neg e];exact ih
theorem Qs4 {A:Nat→List UInt8} {xs:List Cg} {i:Nat} {x:Cg} (hd:plD xs) (hx:xs[i]?=some x) (hl:x.p.toNat<(A x.f.toNat).length):∀ {k:Nat},i<k→(apT A xs k x.f.toNat).getD x.p.toNat 0=x.n
 | 0,h=>absurd h (Nat.not_lt_zero _)
 | k+1,h=>by
  by_cases e:i=k
  ·subst e
   rw [Qr1 hx]
   unfold Qby
   rw [if_pos rfl,Qpw (by rw [Q36];exact hl),if_pos rfl]
  ·have ih:=Qs4 hd hx hl (k:=k) (by omega)
   cases hy:xs[k]? with
   | none=>rw [apT,hy];exact ih
   | some y =>
    have hne:=hd i k x y (by omega) hx hy
    rw [Qr1 hy]
    unfold Qby
    by_cases e2:x.f.toNat=y.f.toNat
    ·rw [if_pos e2,← e2,jM,List.getElem?_set_ne (fun q=>hne ⟨e2,q.symm⟩),← jM]
     exact ih
    ·rw [if_neg e2];exact ih
theorem Qr2 {A:Nat→List UInt8} {xs:List Cg} (hd:plD xs) (h:∀ x∈xs,(A x.f.toNat).getD x.p.toNat 0=x.o):Qbz A xs:=fun k x hx=>by
 unfold apOk
 rw [jG,Qfp fun i y hi hy=>hd i k y x hi hy hx]
 exact h x (jE hx)
end Go.Dr.T
namespace Go.Dr.T
structure IterH (xs:List Cg) (id L:Nat) (Q:Nat→List B→Prop) (S:List B→Prop) (ok:Nat→Prop):Prop where
 qcl:∀ k G,Q k G→Cl G∧L≤G.length
 qtk:∀ k G j,Q k G→L≤j→Cl (G.take j)→Q k (G.take j)
 qap:∀ k G b,Q k G→b.blo G.length=true→Q k (G++[b])
 scl:∀ G,S G→Cl G∧L≤G.length
 stk:∀ G j,S G→L≤j→Cl (G.take j)→S (G.take j)
 go:∀ k x G (K:V→List B→Prop),xs[k]?=some x→ok k→Q k G→(∀ G',G.length≤G'.length→Q (k+1) G'→K (.bool true) G')→CallP FB md 0 (.yld id) [.agg [.int .i64 x.f,.int .i64 x.p,.int .u8 x.o.toNat,.int .u8 x.n.toNat]] G K
 no:∀ k x G (K:V→List B→Prop),xs[k]?=some x→¬ ok k→Q k G→(∀ G',G.length≤G'.length→S G'→K (.bool false) G')→CallP FB md 0 (.yld id) [.agg [.int .i64 x.f,.int .i64 x.p,.int .u8 x.o.toNat,.int .u8 x.n.toNat]] G K
section
variable {xs:List Cg} {id L:Nat} {Q:Nat→List B→Prop} {S:List B→Prop} {ok:Nat→Prop}
theorem IterH.norm {mk:List Bool} {tm:List V} {n k:Nat} {G:List B} (h:IterH xs id L Q S ok) (q:Q k G) (hn:L≤n) (hn2:n≤G.length):Q k (norm mk n ⟨tm,G⟩).h:=by
 obtain ⟨j,h1,h2,h3,_⟩:=Q4k (mk:=mk) (tm:=tm) hn2 (h.qcl k G q).1
 rw [h2]
 exact h.qtk k G j q (by omega) h3
theorem IterH.trq {tm:List V} {n k:Nat} {G:List B} (h:IterH xs id L Q S ok) (q:Q k G) (hn:L≤n) (hn2:n≤G.length):Q k (trunc n tm G):=by
 obtain ⟨j,h1,h2,h3,_⟩:=Q19 (tm:=tm) hn2 (h.qcl k G q).1
 rw [h2]
 exact h.qtk k G j q (by omega) h3
theorem IterH.trs {tm:List V} {n:Nat} {G:List B} (h:IterH xs id L Q S ok) (q:S G) (hn:L≤n) (hn2:n≤G.length):S (trunc n tm G):=by
 obtain ⟨j,h1,h2,h3,_⟩:=Q19 (tm:=tm) hn2 (h.scl G q).1
 rw [h2]
 exact h.stk G j q (by omega) h3
end
def Itr (it:Nat) (cv:V) (xs:List Cg):Prop:=∀ {id L:Nat} {Q:Nat→List B→Prop} {S:List B→Prop} {ok:Nat→Prop} {G0:List B} {K:V→List B→Prop},IterH xs id L Q S ok→G0.length=L→Q 0 G0→(∀ G,Q xs.length G→K (.tup []) G)→(∀ G,S G→K (.tup []) G)→CallP FB md 0 (.fn it [.rp [cv] 0]) [.yld id] G0 K
theorem it106 {c:Bool} {cs:List Cg} (hl:cs.length≤1000000):Itr 71 (.sl c cs.length (cgC cs)) (cs.map swC):=by
 intro id L Q S ok G0 K h hL h0 hk1 hk2
 refine Q16 rfl rfl rfl ?_
 repeat' ((conv=>whnf);first|refine fLen.mk ?_|refine fB.i0 ?_|refine Get.mk _ rfl ?_)
 all_goals try (exfalso;omega)
 refine LoopP.by (fun a:GA=>a.i≤cs.length∧Q a.i a.G) (fun a=>[(7,.int .i64 (a.i:Nat))]) (fun a=>a.G) (fun a=>cs.length-a.i) ⟨0,G0⟩ ⟨Nat.zero_le _,h0⟩ rfl ?_
 rintro ⟨i,G⟩ ⟨w1,w2⟩
 dsimp only at w1 w2 ⊢
 have hGl:=(h.qcl i G w2).2
 by_cases hi:i<cs.length
 rotate_left
 ·obtain rfl:i=cs.length:=by omega
  repeat' ((conv=>whnf);first|refine zF ?_|refine fLen.mk ?_|refine fB.i0 ?_|refine fB.mk ?_|refine Get.mk _ rfl ?_|refine Ends.of ?_)
  all_goals try (exfalso;omega)
  have q:=h.trq (tm:=[.tup []]) (n:=G0.length) w2 (by omega) (by omega)
  exact hk1 _ (by rw [List.length_map];exact q)
 obtain ⟨x,hx⟩:∃ x,cs[i]?=some x:=⟨_,jC hi⟩
 have hp:=Q7l hx
 have hiw:IntKind.i64.wrap ((i:Int)+1)=((i+1:Nat):Int):=by rw [wrap_i64 (by omega) (by omega)];omega
 have hil:i≤cs.length-1:=by omega
 have h0l:0<cs.length:=by omega
 have hxs:(cs.map swC)[i]?=some (swC x):=by rw [jH,hx];rfl
 have hq2:=h.qap i G (.blk [.int .i64 (swC x).f,.int .i64 (swC x).p,.int .u8 (swC x).o.toNat,.int .u8 (swC x).n.toNat] false) w2 rfl
 have hlen:∀ b:B,G.length≤(G++[b]).length:=fun b=>by rw [jD];omega
 by_cases hok:ok i
 ·have hgo:=fun (K':V→List B→Prop) (hK)=>h.go i (swC x) _ K' hxs hok hq2 hK
  repeat' ((conv=>whnf);first|refine Bnd.eq hiw ?_|refine Br.f ?_|refine zT ?_|refine fLen.mk ?_|refine fB.i0 ?_|refine fB.i1 ?_|refine Get.mk _ hp ?_|refine Idx.nat hil ?_|refine Req.mk h0l ?_|refine Get.newj 0 rfl rfl ?_|refine fB.newj 0 rfl ?_|(refine hgo _ ?_;intro G' g1 g2)|refine fB.mk ?_|refine Get.mk _ rfl ?_|refine zR ?_)
  all_goals try (exfalso;omega)
  rw [jD] at g1
  exact NextP.of (fun g=>⟨i+1,g⟩) ⟨hi,h.norm (n:=G0.length) g2 (by omega) (by omega)⟩ (by dsimp only;omega) rfl
 ·have hno:=fun (K':V→List B→Prop) (hK)=>h.no i (swC x) _ K' hxs hok hq2 hK
  repeat' ((conv=>whnf);first|refine Br.t ?_|refine zT ?_|refine fLen.mk ?_|refine fB.i0 ?_|refine fB.i1 ?_|refine Get.mk _ hp ?_|refine Idx.nat hil ?_|refine Req.mk h0l ?_|refine Get.newj 0 rfl rfl ?_|refine fB.newj 0 rfl ?_|(refine hno _ ?_;intro G' g1 g2)|refine fB.mk ?_|refine Get.mk _ rfl ?_|refine Ends.of ?_|refine zR ?_)
  all_goals try (exfalso;omega)
  rw [jD] at g1
  exact hk2 _ (h.trs (n:=G0.length) (G:=G') g2 (by omega) (by omega))
theorem Qo5 {cv:V} (h:cv.scalar=true∨cv.blo 0=true) (hs:∃ c n k,cv=.sl c n k):Fun FB md 35 [cv] (.fn 71 [.rp [cv] 0]):=by
 obtain ⟨c,n,k,rfl⟩:=hs
 refine Q04 rfl rfl ?_
 repeat' ((conv=>whnf);first|exact Vw.fn (VwL.cons (Vw.ref rfl rfl rfl (VwL.cons Vw.sl VwL.nil)) VwL.nil)|refine Get.mk _ rfl ?_|refine Leaves.of ?_|refine zR ?_)
 all_goals first|rfl|(exfalso;omega)
end Go.Dr.T
