/- Top, of chapter 08: the way of a pixel, plain; the heap of Trace. -/
import Derived.Test.YtbnmdlnkhghbpaaGreatDoorG27
import Derived.Test.YtbnmdlnkhghbpaaGreatDoorG19
namespace Go.Dr.T
def tY (F:List Fm) (W H:Nat) (s:Sp) (i q:Nat):Bool :=
 if s.k=1 then !Q35 s i (q%W:Nat) (q/W:Nat) && !(decide (s.a=0)&&decide (s.b=0)) else !decide (newU F W H s i q=(pxL F i).getD q 0)
def tO (N W H:Nat) (s:Sp) (i q:Nat):Bool:=oldB N W H i ((q%W:Nat)-s.a) ((q/W:Nat)-s.b)
def tQ (W:Nat) (s:Sp) (q:Nat):Nat:=((q:Int)-(s.b*W+s.a)).toNat
structure Tr where
 q:Nat
 b:List Int
def fK (W H:Nat) (l:List Fm) (ss:List Sp) (k:Nat):List Fm:=rnF W H (czF l) (ss.take k)
def tr (W H:Nat) (l:List Fm) (ss:List Sp) (i q:Nat):Nat→Tr
 | 0=>⟨q,[]⟩
 | k+1=>match ss[ss.length-(k+1)]? with
  | none=>tr W H l ss i q k
  | some s=>if tY (fK W H l ss (ss.length-(k+1))) W H s i (tr W H l ss i q k).q=true then ⟨if s.k=1 then tQ W s (tr W H l ss i q k).q else (tr W H l ss i q k).q,(tr W H l ss i q k).b++[((ss.length-(k+1):Nat):Int)]⟩ else tr W H l ss i q k
def trOk (W H:Nat) (l:List Fm) (ss:List Sp) (i q:Nat) (k:Nat):Prop:=∀ s,ss[ss.length-(k+1)]?=some s→s.k=1→tY (fK W H l ss (ss.length-(k+1))) W H s i (tr W H l ss i q k).q=true→tO l.length W H s i (tr W H l ss i q k).q=true
section
variable {W H:Nat} {l:List Fm} {ss:List Sp} {i q:Nat}
theorem Qe2 {k:Nat} {s:Sp} (h:ss[ss.length-(k+1)]?=some s):tr W H l ss i q (k+1)=if tY (fK W H l ss (ss.length-(k+1))) W H s i (tr W H l ss i q k).q=true then ⟨if s.k=1 then tQ W s (tr W H l ss i q k).q else (tr W H l ss i q k).q,(tr W H l ss i q k).b++[((ss.length-(k+1):Nat):Int)]⟩ else tr W H l ss i q k:=by
 rw [tr,h]
theorem tr_no {k:Nat} {s:Sp} (h:ss[ss.length-(k+1)]?=some s) (hy:tY (fK W H l ss (ss.length-(k+1))) W H s i (tr W H l ss i q k).q=false):tr W H l ss i q (k+1)=tr W H l ss i q k:=by
 rw [Qe2 h,if_neg (by rw [hy];decide)]
theorem Q7o:∀ {k:Nat},(tr W H l ss i q k).b.length≤k
 | 0=>Nat.le_refl _
 | k+1=>by
  have ih:=Q7o (k:=k)
  rw [tr]
  split
  ·omega
  ·split
   ·simp only [jD,List.length_cons,List.length_nil];omega
   ·omega
theorem Qsy {N:Nat} {s:Sp} {i q:Nat} (hW:1≤W) (h:tO N W H s i q=true):tQ W s q<W*H∧((tQ W s q:Nat):Int)=q-(s.b*W+s.a):=by
 unfold tO oldB outB at h
 simp only [Bool.not_eq_true',jL,jI,Int.not_lt] at h
 have e:(((q/W*W+q%W:Nat):Nat):Int)=(q:Int):=by rw [Nat.div_add_mod']
 rw [Int.natCast_add,Int.natCast_mul] at e
 obtain ⟨⟨_,h1,h2⟩,h3,h4⟩:=h
 generalize hy:((q/W:Nat):Int)-s.b=y at *
 generalize hx:((q%W:Nat):Int)-s.a=x at *
 obtain ⟨y,rfl⟩:∃ n:Nat,y=n:=⟨y.toNat,by omega⟩
 obtain ⟨x,rfl⟩:∃ n:Nat,x=n:=⟨x.toNat,by omega⟩
 have e2:(q:Int)-(s.b*W+s.a)=((y*W+x:Nat):Int):=by
  rw [← e,Int.natCast_add,Int.natCast_mul,← hy,← hx,Int.sub_mul]
  omega
 unfold tQ
 rw [e2]
 refine ⟨?_,by omega⟩
 have:y*W+x<W*H:=by
  have h5:y+1≤H:=by omega
  have h6:(y+1)*W≤H*W:=Nat.mul_le_mul_right W h5
  rw [Nat.succ_mul,Nat.mul_comm H W] at h6
  omega
 omega
theorem Qke (hW:1≤W) (hq:q<W*H):∀ {k:Nat},(∀ j,j<k→trOk W H l ss i q j)→(tr W H l ss i q k).q<W*H
 | 0,_=>hq
 | k+1,h=>by
  have ih:=Qke hW hq (k:=k) fun j hj=>h j (by omega)
  have hk:=h k (Nat.lt_succ_self k)
  rw [tr]
  split
  ·exact ih
  ·rename_i s hs
   split
   ·rename_i hy
    dsimp only
    split
    ·rename_i h1
     exact (Qsy hW (hk s hs h1 hy)).1
    ·exact ih
   ·exact ih
end
def IL (M:Nat) (h:List B) (L:List Int) (v:V):Prop:=(L=[]∧v=.nilsl)∨∃ q,M≤q∧L≠[]∧v=.ms 1 q L.length 0 L.length false∧bget h q=some (.blk (Q00 L) true)
theorem Q8f (n:Nat):∀ l:List Int,blos n (Q00 l)=true
 | []=>rfl
 | _::l=>by have:=Q8f n l;simp only [Q00,List.map_cons,blos,V.blo,Bool.true_and] at this ⊢;exact this
def inL (L:List Int):V:=.sl (decide (L=[])) L.length (Q00 L)
section
variable {M:Nat} {h:List B} {L:List Int} {v:V}
theorem IL.app {g:List B} (e:IL M h L v):IL M (h++g) L v:=by
 rcases e with e|⟨q,e1,e2,e3,e4⟩
 ·exact .inl e
 ·exact .inr ⟨q,e1,e2,e3,Q01 e4⟩
theorem IL.other {k:Nat} {b:B} (e:IL M h L v) (hk:k<M):IL M (bset h k b) L v:=by
 rcases e with e|⟨q,e1,e2,e3,e4⟩
 ·exact .inl e
 ·exact .inr ⟨q,e1,e2,e3,by rw [Q02 (by omega)];exact e4⟩
theorem IL.take {k:Nat} (e:IL M h L v) (hv:v.blo k=true):IL M (h.take k) L v:=by
 rcases e with e|⟨q,e1,e2,rfl,e4⟩
 ·exact .inl e
 ·exact .inr ⟨q,e1,e2,rfl,by rw [Q09 (of_decide_eq_true hv)];exact e4⟩
theorem IL.vw {d:Nat} (e:IL M h L v):VwF h (d+1+1) v (inL L):=by
 unfold inL
 rcases e with ⟨rfl,rfl⟩|⟨q,e1,e2,rfl,e4⟩
 ·exact VwF.nil
 ·rw [decide_eq_false e2]
  exact VwF.ms e4 (by simp [Q00]) (Q0y (by simp [Q00])) (VwLF.ints L)
theorem IL.frm (e:IL M h L v):v=.nilsl∨∃ q,v=.ms 1 q L.length 0 L.length false:=by
 rcases e with ⟨_,rfl⟩|⟨q,_,_,rfl,_⟩
 ·exact .inl rfl
 ·exact .inr ⟨q,rfl⟩
theorem IL.blo {k:Nat} (e:IL M h L v) (hk:h.length≤k):v.blo k=true:=by
 rcases e with ⟨_,rfl⟩|⟨q,_,_,rfl,e4⟩
 ·rfl
 ·exact decide_eq_true (by have:=Q05 e4;omega)
end
structure TH (vl:V) (i a b:Int) (lg:V) (lp:B) (L:List Int) (v:V) (G:List B):Prop where
 cl:Cl G
 le:7≤G.length
 b0:bget G 0=some (.blk [vl] false)
 b1:bget G 1=some (.blk [.int .i64 i] false)
 b2:bget G 2=some (.blk [.int .i64 a,.int .i64 b] false)
 b3:bget G 3=some (.blk [v] false)
 b4:bget G 4=some (.blk [.int .i64 0] false)
 b5:bget G 5=some (.blk [lg] false)
 lop:bget G 6=some lp
 il:IL 7 G L v
section
variable {vl lg v:V} {i a b:Int} {lp:B} {L:List Int} {G:List B}
theorem TH.take {k:Nat} (e:TH vl i a b lg lp L v G) (hk:7≤k) (hc:Cl (G.take k)):TH vl i a b lg lp L v (G.take k):=by
 have hl:=e.le
 have hb3:bget (G.take k) 3=some (.blk [v] false):=by rw [Q09 (by omega)];exact e.b3
 have hv:v.blo (G.take k).length=true:=by
  have:=Q08 hc (Q0p hb3)
  simpa [B.blo,blos] using this
 have hv':v.blo k=true:=by
  by_cases hkl:k≤G.length
  ·rwa [jQ,Nat.min_eq_left hkl] at hv
  ·exact e.il.blo (by omega)
 exact ⟨hc,by rw [jQ];omega,by rw [Q09 (by omega)];exact e.b0,by rw [Q09 (by omega)];exact e.b1,by rw [Q09 (by omega)];exact e.b2,hb3,by rw [Q09 (by omega)];exact e.b4,by rw [Q09 (by omega)];exact e.b5,by rw [Q09 (by omega)];exact e.lop,e.il.take hv'⟩
theorem TH.trunc {tm:List V} {n:Nat} (e:TH vl i a b lg lp L v G) (hn:7≤n) (hn2:n≤G.length):TH vl i a b lg lp L v (trunc n tm G):=by
 obtain ⟨k,h1,h2,h3,h4⟩:=Q19 (tm:=tm) hn2 e.cl
 rw [h2]
 exact e.take (by omega) h3
theorem TH.app {x:B} (e:TH vl i a b lg lp L v G) (hb:x.blo G.length=true):TH vl i a b lg lp L v (G++[x]) :=
 ⟨e.cl.app hb,by rw [jD];have:=e.le;omega,Q01 e.b0,Q01 e.b1,Q01 e.b2,Q01 e.b3,Q01 e.b4,Q01 e.b5,Q01 e.lop,e.il.app⟩
theorem TH.setlop {lp':B} (e:TH vl i a b lg lp L v G) (hb:lp'.blo G.length=true):TH vl i a b lg lp' L v (bset G 6 lp') :=
 ⟨e.cl.set hb,by rw [Q03];exact e.le,by rw [Q02 (by omega)];exact e.b0,by rw [Q02 (by omega)];exact e.b1,by rw [Q02 (by omega)];exact e.b2,by rw [Q02 (by omega)];exact e.b3,by rw [Q02 (by omega)];exact e.b4,by rw [Q02 (by omega)];exact e.b5,Q0b (by have:=e.le;omega),e.il.other (by omega)⟩
theorem fB.lopT {lp':B} {K:List B→Prop} (e:TH vl i a b lg lp L v G) (hb:lp'.blo G.length=true) (hk:∀ G',G'.length=G.length→(∀ k,k≠6→bget G' k=bget G k)→TH vl i a b lg lp' L v G'→K G'):fB (bset G 6 lp') K :=
 fB.mk (hk _ (Q03 ..) (fun k hk=>Q02 (Ne.symm hk)) (e.setlop hb))
theorem TH.from {a' b':Int} (e:TH vl i a b lg lp L v G):TH vl i a' b' lg lp L v (bset G 2 (.blk [.int .i64 a',.int .i64 b'] false)) :=
 ⟨e.cl.set rfl,by rw [Q03];exact e.le,by rw [Q02 (by omega)];exact e.b0,by rw [Q02 (by omega)];exact e.b1,Q0b (by have:=e.le;omega),by rw [Q02 (by omega)];exact e.b3,by rw [Q02 (by omega)];exact e.b4,by rw [Q02 (by omega)];exact e.b5,by rw [Q02 (by omega)];exact e.lop,e.il.other (by omega)⟩
theorem TH.put0 {y:Int} (e:TH vl i a b lg lp [] .nilsl G):TH vl i a b lg lp [y] (.ms 1 G.length 1 0 1 false) (bset (G++[.blk [.int .i64 y] true]) 3 (.blk [.ms 1 G.length 1 0 1 false] false)):=by
 have hl:=e.le
 have hlen:(G++[B.blk [.int .i64 y] true]).length=G.length+1:=by rw [jD];rfl
 have e1:=e.app (x:=.blk [.int .i64 y] true) rfl
 refine ⟨e1.cl.set ?_,by rw [Q03];exact e1.le,by rw [Q02 (by omega)];exact e1.b0,by rw [Q02 (by omega)];exact e1.b1,by rw [Q02 (by omega)];exact e1.b2,Q0b (by omega),by rw [Q02 (by omega)];exact e1.b4,by rw [Q02 (by omega)];exact e1.b5,by rw [Q02 (by omega)];exact e1.lop,.inr ⟨G.length,hl,by simp,rfl,?_⟩⟩
 ·rw [hlen]
  simp [B.blo,blos,V.blo]
 ·rw [Q02 (by omega)]
  exact bget_new (i:=0)
theorem TH.putS {y:Int} {q n:Nat} (e:TH vl i a b lg lp L (.ms 1 q L.length 0 L.length false) G) (hn:n=L.length+1):TH vl i a b lg lp (L++[y]) (.ms 1 q n 0 n false) (bset (bset (G++[.unborn]) q (.blk (Q00 L++[.int .i64 y]) true)) 3 (.blk [.ms 1 q n 0 n false] false)):=by
 subst hn
 have hl:=e.le
 have hlen:(G++[B.unborn]).length=G.length+1:=by rw [jD];rfl
 have e1:=e.app (x:=.unborn) rfl
 obtain ⟨hq7,hql⟩:7≤q∧q<G.length:=by
  rcases e.il with ⟨_,h⟩|⟨q',h1,_,h2,h3⟩
  ·cases h
  ·cases h2;exact ⟨h1,Q05 h3⟩
 have hi:Q00 L++[.int .i64 y]=Q00 (L++[y]):=by simp [Q00]
 rw [hi]
 have o:∀ k x,k<7→k≠3→bget (G++[B.unborn]) k=some x→bget (bset (bset (G++[.unborn]) q (.blk (Q00 (L++[y])) true)) 3 (.blk [.ms 1 q (L.length+1) 0 (L.length+1) false] false)) k=some x:=fun k x h1 h2 h3=>by
  rw [Q02 (Ne.symm h2),Q02 (by omega)];exact h3
 refine ⟨(e1.cl.set (by simp only [B.blo,Q8f,Bool.or_self])).set ?_,by rw [Q03,Q03];exact e1.le,o _ _ (by omega) (by omega) e1.b0,o _ _ (by omega) (by omega) e1.b1,o _ _ (by omega) (by omega) e1.b2,Q0b (by rw [Q03];omega),o _ _ (by omega) (by omega) e1.b4,o _ _ (by omega) (by omega) e1.b5,o _ _ (by omega) (by omega) e1.lop,.inr ⟨q,hq7,by simp,by simp,?_⟩⟩
 ·rw [Q03,hlen]
  simp [B.blo,blos,V.blo]
  omega
 ·rw [Q02 (by omega)]
  exact Q0b (by omega)
theorem TH.rev {q:Nat} (e:TH vl i a b lg lp L (.ms 1 q L.length 0 L.length false) G):TH vl i a b lg lp L.reverse (.ms 1 q L.length 0 L.length false) (bset G q (.blk (Q00 L.reverse) true)):=by
 have hl:=e.le
 obtain ⟨hq7,hql,hne⟩:7≤q∧q<G.length∧L≠[]:=by
  rcases e.il with ⟨_,h⟩|⟨q',h1,h4,h2,h3⟩
  ·cases h
  ·cases h2;exact ⟨h1,Q05 h3,h4⟩
 exact ⟨e.cl.set (by simp only [B.blo,Q8f,Bool.or_self]),by rw [Q03];exact hl,by rw [Q02 (by omega)];exact e.b0,by rw [Q02 (by omega)];exact e.b1,by rw [Q02 (by omega)];exact e.b2,by rw [Q02 (by omega)];exact e.b3,by rw [Q02 (by omega)];exact e.b4,by rw [Q02 (by omega)];exact e.b5,by rw [Q02 (by omega)];exact e.lop,.inr ⟨q,hq7,by simpa using hne,by simp,Q0b hql⟩⟩
end
theorem Qkf {W H:Nat} {l:List Fm} {ss:List Sp} {i q k:Nat} {s:Sp} (hcs:ss[ss.length-(k+1)]?=some s) (h:¬ trOk W H l ss i q k):s.k=1∧tY (fK W H l ss (ss.length-(k+1))) W H s i (tr W H l ss i q k).q=true∧tO l.length W H s i (tr W H l ss i q k).q=false:=by
 refine ⟨Classical.byContradiction fun h1=>h fun t ht hk=>?_,?_,?_⟩
 ·rw [hcs] at ht;cases ht;exact absurd hk h1
 ·cases hy:tY (fK W H l ss (ss.length-(k+1))) W H s i (tr W H l ss i q k).q with
  | true=>rfl
  | false=>exact absurd (fun t ht _ hy2=>by rw [hcs] at ht;cases ht;rw [hy] at hy2;cases hy2) h
 ·cases hy:tO l.length W H s i (tr W H l ss i q k).q with
  | false=>rfl
  | true=>exact absurd (fun t ht _ _=>by rw [hcs] at ht;cases ht;exact hy) h
theorem Qoo {W H:Nat} {l:List Fm} {ss:List Sp} {i q:Nat} (h:¬ ∀ k,k<ss.length→trOk W H l ss i q k):∃ k,k<ss.length∧(∀ j,j<k→trOk W H l ss i q j)∧¬ trOk W H l ss i q k:=by
 classical
 suffices HS:∀ n,(∃ k,k<n∧k<ss.length∧¬ trOk W H l ss i q k)→∃ k,k<ss.length∧(∀ j,j<k→trOk W H l ss i q j)∧¬ trOk W H l ss i q k by
  have h2:∃ k,k<ss.length∧¬ trOk W H l ss i q k:=Classical.byContradiction fun h2=>h fun k hk=>Classical.byContradiction fun h3=>h2 ⟨k,hk,h3⟩
  obtain ⟨k,h3,h4⟩:=h2
  exact HS _ ⟨k,h3,h3,h4⟩
 intro n
 induction n with
 | zero=>exact fun ⟨k,hk,_⟩=>absurd hk (Nat.not_lt_zero _)
 | succ n ih =>
  rintro ⟨k,hk,h1,h2⟩
  by_cases h3:∃ k,k<n∧k<ss.length∧¬ trOk W H l ss i q k
  ·exact ih h3
  ·have hpre:∀ j,j<n→j<ss.length→trOk W H l ss i q j:=fun j hj hj2=>Classical.byContradiction fun h4=>h3 ⟨j,hj,hj2,h4⟩
   have ek:k=n:=by
    rcases Nat.lt_or_ge k n with h5|h5
    ·exact absurd (hpre k h5 h1) h2
    ·omega
   subst ek
   exact ⟨k,h1,fun j hj=>hpre j hj (by omega),h2⟩
end Go.Dr.T
namespace Go.Dr.T
structure TrR where
 a:Int
 b:Int
 by':List Int
 e:Int
def TrR.v (t:TrR):V:=.tup [.agg [.int .i64 t.a,.int .i64 t.b],inL t.by',.int .i64 t.e]
open Classical in
noncomputable def trR (W H:Nat) (l:List Fm) (ss:List Sp) (i q:Nat):TrR :=
 if h:∃ k,k<ss.length∧(∀ j,j<k→trOk W H l ss i q j)∧¬ trOk W H l ss i q k then ⟨-1,-1,((tr W H l ss i q h.choose).b++[((ss.length-(h.choose+1):Nat):Int)]).reverse,0⟩ else ⟨i,(tr W H l ss i q ss.length).q,(tr W H l ss i q ss.length).b.reverse,0⟩
theorem Qr6 {W H:Nat} {l:List Fm} {ss:List Sp} {i q:Nat} (h:∀ k,k<ss.length→trOk W H l ss i q k):trR W H l ss i q=⟨i,(tr W H l ss i q ss.length).q,(tr W H l ss i q ss.length).b.reverse,0⟩:=by
 unfold trR
 rw [dif_neg fun ⟨k,h1,_,h3⟩=>h3 (h k h1)]
theorem Qr7 {W H:Nat} {l:List Fm} {ss:List Sp} {i q k:Nat} (h1:k<ss.length) (h2:∀ j,j<k→trOk W H l ss i q j) (h3:¬ trOk W H l ss i q k):trR W H l ss i q=⟨-1,-1,((tr W H l ss i q k).b++[((ss.length-(k+1):Nat):Int)]).reverse,0⟩:=by
 have h:∃ k,k<ss.length∧(∀ j,j<k→trOk W H l ss i q j)∧¬ trOk W H l ss i q k:=⟨k,h1,h2,h3⟩
 unfold trR
 rw [dif_pos h]
 have hc:=h.choose_spec
 have e:h.choose=k:=by
  rcases Nat.lt_trichotomy h.choose k with e|e|e
  ·exact absurd (h2 _ e) hc.2.2
  ·exact e
  ·exact absurd (hc.2.1 _ e) h3
 rw [e]
end Go.Dr.T
namespace Go.Dr.T
theorem FH.mkF {N M:Nat} {l:List Fm} {A:Nat→List UInt8} {o:Nat} {P:Nat→Nat} {h:List B} {d:Nat} (e:FH N M l A o P h):VwF h (d+1+1+1) (.ms 3 o (l.length*3) 0 l.length false) (.sl false l.length (fmC (mkF l A))):=by
 have:=e.vw (l':=T.mkF l A) (d:=d) mkF_len fun j f hf=>Qlp hf
 rwa [mkF_len] at this
end Go.Dr.T
