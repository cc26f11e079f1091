/- Top, of chapter 07: by how much a shift differs; the least of a list of shifts. -/
import Derived.Test.YthoefcibbdfakaaGreatDoorG19
namespace Go.Dr.T7
set_option maxRecDepth 100000 in
set_option maxHeartbeats 20000000 in
theorem differs_in {W H:Nat} {c c' : Bool} {l l' : List UInt8} (h2:W≤48) (h4:H≤48) (hl:l.length=W * H) (hl' : l'.length=W * H) {x0 y0 p q:Nat} (hx:x0+p<W) (hy:y0+q<H) {dx dy:Int} {px py:Nat→Int}
  (hpx:∀ i≤p,IntKind.i64.wrap (((x0+i:Nat):Int)+dx)=px i) (hpy:∀ j≤q,IntKind.i64.wrap (((y0+j:Nat):Int)+dy)=py j) (hall:∀ i≤p,∀ j≤q,pixB W H (px i) (py j)) :
  Fun F md 10 [frV W H c l,frV W H c' l', .agg [.int .i64 x0,.int .i64 ((x0+p:Nat):Int),.int .i64 y0,.int .i64 ((y0+q:Nat):Int)],.int .i64 dx,.int .i64 dy] (.tup [.int .i64 (allS (tS W H l l' x0 y0 px py) (p+1) (q+1)),.bool true]):=by
 have h27:=Q2z (t:=tS W H l l' x0 y0 px py) (w:=p+1) (by omega) (fun i j=>Q3q W H l l' x0 y0 px py i j)
 have hrow:=fun (j:Nat)=>Q2q (t:=fun i=>tS W H l l' x0 y0 px py i j) (a:=allS (tS W H l l' x0 y0 px py) (p+1) j) (fun i=>Q3q W H l l' x0 y0 px py i j)
 refine Q07 rfl rfl ?_
 repeat' (first
 | (conv=>whnf)
   first
   | refine Get.mk _ rfl ?_
   | (refine Req.mk ?_ ?_;(focus first | rfl | decide | exact ⟨rfl,rfl⟩ | exact ⟨rfl,by decide⟩ | exact (fun _=>rfl) | exact (fun h=>nomatch h) | (simp;done) | omega | (simp [big];done) | exact Q02 (by omega) | exact Q01 (by omega))))
 refine LoopP.by (fun j:Nat=>j≤q+1) (fun j=>[(12,.int .i64 (allS (tS W H l l' x0 y0 px py) (p+1) j)),(13,.int .i64 ((y0+j:Nat):Int))]) (fun _=>[.blk [.int .i64 W,.int .i64 H,.sl c l.length (ofBytes l)] false,.blk [.int .i64 W,.int .i64 H,.sl c' l'.length (ofBytes l')] false,.blk [.int .i64 x0,.int .i64 ((x0+p:Nat):Int),.int .i64 y0,.int .i64 ((y0+q:Nat):Int)] false]) (fun j=>q+1 - j) 0 (Nat.zero_le _) rfl ?_
 intro j hj
 by_cases hjq:j≤q
 ·repeat' (first
 | (conv=>whnf)
   first
   | (refine Br.decT ?_ ?_;(focus first | assumption | omega))
   | refine Get.mk _ rfl ?_
   | (refine Req.mk ?_ ?_;(focus first | rfl | decide | exact ⟨rfl,rfl⟩ | exact ⟨rfl,by decide⟩ | exact (fun _=>rfl) | exact (fun h=>nomatch h) | (simp;done) | omega | (simp [big];done) | exact Q02 (by omega) | exact Q01 (by omega))))
  refine LoopP.by (fun i:Nat=>i≤p+1) (fun i=>[(12,.int .i64 (rowA (fun i=>tS W H l l' x0 y0 px py i j) (allS (tS W H l l' x0 y0 px py) (p+1) j) i)),(14,.int .i64 ((x0+i:Nat):Int))]) (fun _=>[.blk [.int .i64 W,.int .i64 H,.sl c l.length (ofBytes l)] false,.blk [.int .i64 W,.int .i64 H,.sl c' l'.length (ofBytes l')] false,.blk [.int .i64 x0,.int .i64 ((x0+p:Nat):Int),.int .i64 y0,.int .i64 ((y0+q:Nat):Int)] false]) (fun i=>p+1 - i) 0 (Nat.zero_le _) rfl ?_
  intro i hi
  by_cases hip:i≤p
  ·have b1:=Q22 W H l ((x0+i:Nat):Int) ((y0+j:Nat):Int)
   have b2:=Q22 W H l' (px i) (py j)
   have b3:=h27 j
   have b4:=hrow j i
   have hb:=hall i hip j hjq
   repeat' (first
 | (conv=>whnf)
   first
   | (refine Br.decT ?_ ?_;(focus first | assumption | omega))
   | refine Br.not ?_
   | (refine Bnd.i64 ?_ ?_ ?_;(focus omega);(focus omega))
   | refine Q00 rfl rfl (pixel_any h2 h4 hl _ _) (.inl rfl) ?_
   | refine Q00 rfl rfl (pixel_any h2 h4 hl' _ _) (.inl rfl) ?_
   | refine Bnd.eq (hpx i hip) ?_
   | refine Bnd.eq (hpy j hjq) ?_
   | refine Q00 rfl rfl (Qhv _ (by omega)) (.inl rfl) ?_
   | refine Get.mk _ rfl ?_
   | (refine Req.mk ?_ ?_;(focus first | rfl | decide | exact ⟨rfl,rfl⟩ | exact ⟨rfl,by decide⟩ | exact (fun _=>rfl) | exact (fun h=>nomatch h) | (simp;done) | omega | (simp [big];done) | exact Q02 (by omega) | exact Q01 (by omega))))
   exact NextP.mk (i+1) (by omega) (by omega) rfl
  ·obtain rfl:i=p+1:=by omega
   repeat' (first
 | (conv=>whnf)
   first
   | (refine Br.decF ?_ ?_;(focus first | assumption | omega))
   | (refine Bnd.i64 ?_ ?_ ?_;(focus omega);(focus omega))
   | refine Get.mk _ rfl ?_
   | (refine Req.mk ?_ ?_;(focus first | rfl | decide | exact ⟨rfl,rfl⟩ | exact ⟨rfl,by decide⟩ | exact (fun _=>rfl) | exact (fun h=>nomatch h) | (simp;done) | omega | (simp [big];done) | exact Q02 (by omega) | exact Q01 (by omega))))
   exact NextP.mk (j+1) (by omega) (by omega) rfl
 ·obtain rfl:j=q+1:=by omega
  repeat' (first
 | (conv=>whnf)
   first
   | (refine Br.decF ?_ ?_;(focus first | assumption | omega))
   | refine Get.mk _ rfl ?_
   | refine Leaves.of ?_
   | refine Vw.bool ?_
   | refine Vw.int ?_
   | refine Vw.tup ?_
   | refine VwL.cons ?_ ?_
   | refine VwL.nil
   | (refine Req.mk ?_ ?_;(focus first | rfl | decide | exact ⟨rfl,rfl⟩ | exact ⟨rfl,by decide⟩ | exact (fun _=>rfl) | exact (fun h=>nomatch h) | (simp;done) | omega | (simp [big];done) | exact Q02 (by omega) | exact Q01 (by omega))))
  all_goals rfl
theorem Qiu (m:Sh3) (l:List Sh3) (y:Sh3):minF m (l++[y])=if bet y (minF m l) then y else minF m l:=by
 induction l generalizing m with
 | nil=>rfl
 | cons z l ih=>simp only [List.cons_append,minF];exact ih _
theorem Qit {s:Sh3} {l:List Sh3} {i:Nat} (h:i<l.length):minF s (l.take (i+1))=if bet l[i] (minF s (l.take i)) then l[i] else minF s (l.take i):=by
 rw [List.take_succ_eq_append_getElem h,Qiu]
theorem Qg8 {s:Sh3} {l:List Sh3} (h:∀ x∈s :: l,Q6m x) (i:Nat):Q6m (minF s (l.take i)) :=
 h _ (by
  have:=Q9l s (l.take i)
  rcases List.mem_cons.1 this with e | e
  ·simp [e]
  ·exact List.mem_cons_of_mem _ (List.mem_of_mem_take e))
set_option maxRecDepth 100000 in
set_option maxHeartbeats 20000000 in
theorem Qj7 {c:Bool} {s:Sh3} {l:List Sh3} (hs:∀ x∈s :: l,Q6m x) (hl:l.length≤1000000):Fun F md 35 [.sl c (s :: l).length (ofS3 (s :: l)),.fn 36 []] (sh3V (minF s l)):=by
 have h0:(s :: l).length=l.length+1:=rfl
 have hz:part (ofS3 (s :: l)) (0 * 3) 3=some [.int .i64 s.1,.int .i64 s.2.1,.int .i64 s.2.2]:=ofS3_part (l:=s :: l) (i:=0) (by simp)
 have hst:=fun i (h:i<l.length)=>Qit (s:=s) h
 have hsm:=fun i=>Qg8 hs i
 have hq:∀ i (h:i<l.length),part (ofS3 (s :: l)) ((i+1) * 3) 3=some [.int .i64 l[i].1,.int .i64 l[i].2.1,.int .i64 l[i].2.2]:=fun i h=>ofS3_part (l:=s :: l) (i:=i+1) (by simpa using h)
 have hme:∀ i (h:i<l.length),Q6m l[i]:=fun i h=>hs _ (List.mem_cons_of_mem _ (List.getElem_mem h))
 have hlen:((s :: l).length:Int)=(l.length:Int)+1:=by simp
 refine Q07 rfl rfl ?_
 repeat' (first
 | (conv=>whnf)
   first
   | refine Br.f ?_
   | refine Get.mk _ hz ?_
   | (refine Idx.int ?_ ?_ ?_;(focus omega);(focus omega))
   | refine Get.mk _ rfl ?_
   | (refine Req.mk ?_ ?_;(focus first | rfl | decide | exact ⟨rfl,rfl⟩ | exact ⟨rfl,by decide⟩ | exact (fun _=>rfl) | exact (fun h=>nomatch h) | (simp;done) | omega | (simp [big];done) | exact Q02 (by omega) | exact Q01 (by omega))))
 refine LoopP.by (fun i:Nat=>i≤l.length) (fun i=>[(6,.int .i64 ((i+1:Nat):Int))]) (fun i=>[.blk [.int .i64 0,.int .i64 0,.int .i64 0] false,.blk [.int .i64 (minF s (l.take i)).1,.int .i64 (minF s (l.take i)).2.1,.int .i64 (minF s (l.take i)).2.2] false]) (fun i=>l.length - i) 0 (Nat.zero_le _) rfl ?_
 intro i hi
 by_cases hil:i<l.length
 ·have e:=hst i hil
  by_cases hb:bet l[i] (minF s (l.take i))=true
  ·rw [if_pos hb] at e
   have hn:ordI l[i] (minF s (l.take i))<0:=by rw [← decide_eq_true_eq (p:=ordI _ _<0),Qej];exact hb
   repeat' (first
 | (conv=>whnf)
   first
   | (refine Br.decT ?_ ?_;(focus first | assumption | omega))
   | (refine Bnd.i64 ?_ ?_ ?_;(focus omega);(focus omega))
   | refine Get.mk _ (hq i hil) ?_
   | refine Q00 rfl rfl (Qaz (hme i hil) (hsm i)) (.inl rfl) ?_
   | (refine Idx.nat ?_ ?_;(focus omega))
   | refine Get.mk _ rfl ?_
   | (refine Req.mk ?_ ?_;(focus first | rfl | decide | exact ⟨rfl,rfl⟩ | exact ⟨rfl,by decide⟩ | exact (fun _=>rfl) | exact (fun h=>nomatch h) | (simp;done) | omega | (simp [big];done) | exact Q02 (by omega) | exact Q01 (by omega))))
   refine NextP.mk (i+1) hil (by omega) ?_
   rw [e]
   rfl
  ·rw [if_neg hb] at e
   have hn:¬ ordI l[i] (minF s (l.take i))<0:=by rw [← decide_eq_true_eq (p:=ordI _ _<0),Qej];exact hb
   repeat' (first
 | (conv=>whnf)
   first
   | (refine Br.decT ?_ ?_;(focus first | assumption | omega))
   | (refine Br.decF ?_ ?_;(focus first | assumption | omega))
   | (refine Bnd.i64 ?_ ?_ ?_;(focus omega);(focus omega))
   | refine Get.mk _ (hq i hil) ?_
   | refine Q00 rfl rfl (Qaz (hme i hil) (hsm i)) (.inl rfl) ?_
   | (refine Idx.nat ?_ ?_;(focus omega))
   | refine Get.mk _ rfl ?_
   | (refine Req.mk ?_ ?_;(focus first | rfl | decide | exact ⟨rfl,rfl⟩ | exact ⟨rfl,by decide⟩ | exact (fun _=>rfl) | exact (fun h=>nomatch h) | (simp;done) | omega | (simp [big];done) | exact Q02 (by omega) | exact Q01 (by omega))))
   refine NextP.mk (i+1) hil (by omega) ?_
   rw [e]
   rfl
 ·obtain rfl:i=l.length:=by omega
  rw [List.take_length]
  repeat' (first
 | (conv=>whnf)
   first
   | (refine Br.decF ?_ ?_;(focus first | assumption | omega))
   | refine Get.mk _ rfl ?_
   | refine Leaves.of ?_
   | refine Vw.int ?_
   | refine Vw.agg ?_
   | refine VwL.cons ?_ ?_
   | refine VwL.nil
   | (refine Req.mk ?_ ?_;(focus first | rfl | decide | exact ⟨rfl,rfl⟩ | exact ⟨rfl,by decide⟩ | exact (fun _=>rfl) | exact (fun h=>nomatch h) | (simp;done) | omega | (simp [big];done) | exact Q02 (by omega) | exact Q01 (by omega))))
  all_goals rfl
end Go.Dr.T7
namespace Go.Dr.T7
structure Inv (Q:Int→Int→Prop) (sm:Int→Int→Int) (r:Int) (L:List Sh3) (y x:Int):Prop where
 mem:∀ s∈L,0 - r≤s.1∧s.1≤r∧0 - r≤s.2.1∧s.2.1≤r∧Q s.1 s.2.1∧s.2.2=sm s.1 s.2.1
 all:∀ dx dy,0 - r≤dx→dx≤r→0 - r≤dy→Q dx dy→(dy<y∨dy=y∧dx<x)→(dx,dy,sm dx dy)∈L
 len:(L.length:Int)≤25 * (y+r)+(x+r)
variable {Q:Int→Int→Prop} {sm:Int→Int→Int} {r:Int} {L:List Sh3} {y x:Int}
theorem Inv.nil:Inv Q sm r [] (0 - r) (0 - r):=⟨by simp,fun dx dy h1 h2 h3 _ h=>by omega,by simp;omega⟩
theorem Inv.skip (h:Inv Q sm r L y x) (hq:¬ Q x y):Inv Q sm r L y (x+1):=by
 refine ⟨h.mem,fun dx dy h1 h2 h3 h4 h5 => ?_,by have:=h.len;omega⟩
 by_cases e:dy=y∧dx=x
 ·obtain ⟨rfl,rfl⟩:=e;exact absurd h4 hq
 ·exact h.all dx dy h1 h2 h3 h4 (by omega)
theorem Inv.add (h:Inv Q sm r L y x) (hx:0 - r≤x∧x≤r) (hy:0 - r≤y∧y≤r) (hq:Q x y):Inv Q sm r (L++[(x,y,sm x y)]) y (x+1):=by
 refine ⟨fun s hs => ?_,fun dx dy h1 h2 h3 h4 h5 => ?_,by have:=h.len;simp;omega⟩
 ·rcases List.mem_append.1 hs with hs | hs
  ·exact h.mem s hs
  ·obtain rfl:s=(x,y,sm x y):=by simpa using hs
   exact ⟨hx.1,hx.2,hy.1,hy.2,hq,rfl⟩
 ·by_cases e:dy=y∧dx=x
  ·obtain ⟨rfl,rfl⟩:=e;simp
  ·exact List.mem_append_left _ (h.all dx dy h1 h2 h3 h4 (by omega))
theorem Inv.row (h:Inv Q sm r L y (r+1)) (hr:r≤12):Inv Q sm r L (y+1) (0 - r) :=
 ⟨h.mem,fun dx dy h1 h2 h3 h4 h5=>h.all dx dy h1 h2 h3 h4 (by omega),by have:=h.len;omega⟩
structure Best (Q:Int→Int→Prop) (sm:Int→Int→Int) (r:Int) (m:Sh3):Prop where
 x1:0 - r≤m.1
 x2:m.1≤r
 y1:0 - r≤m.2.1
 y2:m.2.1≤r
 ok:Q m.1 m.2.1
 sum:m.2.2=sm m.1 m.2.1
 least:∀ dx dy,0 - r≤dx→dx≤r→0 - r≤dy→dy≤r→Q dx dy→bet (dx,dy,sm dx dy) m=false
theorem Best.uniq {m m' : Sh3} (h:Best Q sm r m) (h' : Best Q sm r m'):m=m' := by
 have e1:=h'.least _ _ h.x1 h.x2 h.y1 h.y2 h.ok
 have e2:=h.least _ _ h'.x1 h'.x2 h'.y1 h'.y2 h'.ok
 rw [← h.sum] at e1
 rw [← h'.sum] at e2
 exact Qbv e1 e2
theorem Inv.best {s:Sh3} {l:List Sh3} (h:Inv Q sm r (s :: l) (r+1) (0 - r)):Best Q sm r (minF s l):=by
 obtain ⟨a,b,c,d,e,f⟩:=h.mem _ (Q9l s l)
 exact ⟨a,b,c,d,e,f,fun dx dy h1 h2 h3 h4 h5=>Q8e s l _ (h.all dx dy h1 h2 h3 h5 (by omega))⟩
theorem Qjd (hr:0≤r∧r≤12) (h:Inv Q sm r L y (0 - r)) (hy:0 - r≤y∧y≤r):∀ (k:Nat),(k:Int)≤2 * r+1→∃ L', Inv Q sm r L' y (0 - r+k)
 | 0,_=>⟨L,by simpa using h⟩
 | k+1,hk=>by
  obtain ⟨L', h'⟩:=Qjd hr h hy k (by omega)
  rw [show 0 - r+((k+1:Nat):Int)=0 - r+k+1 by omega]
  by_cases hq:Q (0 - r+k) y
  ·exact ⟨_,h'.add (by omega) hy hq⟩
  ·exact ⟨_,h'.skip hq⟩
theorem Qje (hr:0≤r∧r≤12):∀ (k:Nat),(k:Int)≤2 * r+1→∃ L,Inv Q sm r L (0 - r+k) (0 - r)
 | 0,_=>⟨[],by simpa using Inv.nil⟩
 | k+1,hk=>by
  obtain ⟨L,h⟩:=Qje hr k (by omega)
  obtain ⟨L', h'⟩:=Qjd hr h (by omega) (2 * r+1).toNat (by omega)
  rw [show 0 - r+((2 * r+1).toNat:Int)=r+1 by omega] at h'
  rw [show 0 - r+((k+1:Nat):Int)=0 - r+k+1 by omega]
  exact ⟨L', h'.row hr.2⟩
theorem Qkx (hr:0≤r∧r≤12) (h0:Q 0 0):∃ m,Best Q sm r m:=by
 obtain ⟨L,h⟩:=Qje (Q:=Q) (sm:=sm) hr (2 * r+1).toNat (by omega)
 rw [show 0 - r+((2 * r+1).toNat:Int)=r+1 by omega] at h
 have hm:=h.all 0 0 (by omega) (by omega) (by omega) h0 (by omega)
 cases L with
 | nil=>simp at hm
 | cons s l=>exact ⟨_,h.best⟩
def insS (W H x0 y0 p q:Nat) (dx dy:Int):Prop:=0≤(x0:Int)+dx∧(x0:Int)+p+dx<W∧0≤(y0:Int)+dy∧(y0:Int)+q+dy<H
def pxS (x0:Nat) (dx:Int) (i:Nat):Int:=((x0+i:Nat):Int)+dx
def smS (W H:Nat) (l l' : List UInt8) (x0 y0 p q:Nat) (dx dy:Int):Int:=allS (tS W H l l' x0 y0 (pxS x0 dx) (pxS y0 dy)) (p+1) (q+1)
theorem Q38 {W H x0 y0 p q:Nat} {dx dy:Int}:insS W H x0 y0 p q dx dy ↔ ∀ i≤p,∀ j≤q,pixB W H (pxS x0 dx i) (pxS y0 dy j):=by
 unfold insS pixB pxS
 constructor
 ·intro h i hi j hj;omega
 ·intro h
  have h1:=h 0 (by omega) 0 (by omega)
  have h2:=h p (by omega) q (by omega)
  omega
theorem Q4l {W H:Nat} (l l' : List UInt8) {x0 y0 p q:Nat} (hp:p<48) (hq:q<48) (dx dy:Int):0≤smS W H l l' x0 y0 p q dx dy∧smS W H l l' x0 y0 p q dx dy≤1000000:=by
 have:=Q2z (t:=tS W H l l' x0 y0 (pxS x0 dx) (pxS y0 dy)) (w:=p+1) (by omega) (fun i j=>Q3q W H l l' x0 y0 _ _ i j) (q+1)
 unfold smS;omega
abbrev winV (a b c d:Int):V:=.agg [.int .i64 a,.int .i64 b,.int .i64 c,.int .i64 d]
@[reducible] def bs6 (W H:Nat) (c c' : Bool) (l l' : List UInt8) (x0 y0 p q:Nat):List B :=
 [.blk [.int .i64 W,.int .i64 H,.sl c l.length (ofBytes l)] false,.blk [.int .i64 W,.int .i64 H,.sl c' l'.length (ofBytes l')] false,.blk [.int .i64 x0,.int .i64 ((x0+p:Nat):Int),.int .i64 y0,.int .i64 ((y0+q:Nat):Int)] false,
   .blk [.int .i64 0,.int .i64 0,.int .i64 0] false,.blk [.int .i64 W,.int .i64 H,.sl c l.length (ofBytes l)] false,.blk [.int .i64 W,.int .i64 H,.sl c' l'.length (ofBytes l')] false]
def lenS (l:List Sh3):Nat:=l.length
theorem Q36 (l:List Sh3):lenS l=l.length:=rfl
@[reducible] def stT:List Sh3→V
 | []=>.nilsl
 | s :: l=>.ms 3 7 (3 * lenS (s :: l)) 0 (lenS (s :: l)) false
@[reducible] def stB (W H:Nat) (c c' : Bool) (l l' : List UInt8) (x0 y0 p q:Nat):List Sh3→List B
 | []=>bs6 W H c c' l l' x0 y0 p q
 | s :: L=>bs6 W H c c' l l' x0 y0 p q++[.blk [.int .i64 s.1,.int .i64 s.2.1,.int .i64 s.2.2] false,.blk (ofS3 (s :: L)) true]
theorem Qlt {h:List B} {id g len:Nat} {clip dat:Bool} {cs:List V} {l:List Sh3} (h1:bget h id=some (.blk cs dat)) (h0:cs=ofS3 l) (h2:g=3 * l.length) (h3:len=l.length) :
  Q1p h depth ([.ms 3 id g 0 len clip,.fn 36 []]++[])=some [.sl clip l.length (ofS3 l),.fn 36 []]:=by
 subst h0 h2 h3
 have e:(ofS3 l).length=3 * l.length:=ofS3_length l
 exact (VwL.cons (Vw.ms h1 e (Q13 (by rw [e];omega)) (VwL.s3 l)) (VwL.cons ⟨rfl⟩ VwL.nil):VwL h 64 _ _).1
attribute [irreducible] lenS
end Go.Dr.T7
