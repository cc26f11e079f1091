/- Top, of chapter 07: Steady of the program, walked. -/
import Derived.Test.YthoefcibbdfakaaGreatDoorG20
namespace Go.Dr.T7
attribute [local irreducible] ofS3 pixV
set_option maxRecDepth 100000 in
set_option maxHeartbeats 20000000 in
theorem Qhr {W H:Nat} {c c' : Bool} {l l' : List UInt8} (h1:1≤W) (h2:W≤48) (h3:1≤H) (h4:H≤48) (hl:l.length=W * H) (hl' : l'.length=W * H) {x0 y0 p q:Nat} (hx:x0+p<W) (hy:y0+q<H) {r:Nat} (hr:r≤12) {m:Sh3}
  (hm:Best (insS W H x0 y0 p q) (smS W H l l' x0 y0 p q) r m) :
  Fun F md 7 [frV W H c l,frV W H c' l', winV x0 ((x0+p:Nat):Int) y0 ((y0+q:Nat):Int),.int .i64 r] (.tup [sh3V m,.int .i64 0]):=by
 have h27:=fun x y=>Q2z (t:=tS W H l l' x0 y0 (pxS x0 x) (pxS y0 y)) (w:=p+1) (by omega) (fun i j=>Q3q W H l l' x0 y0 _ _ i j)
 have hrow:=fun x y (j:Nat)=>Q2q (t:=fun i=>tS W H l l' x0 y0 (pxS x0 x) (pxS y0 y) i j) (a:=allS (tS W H l l' x0 y0 (pxS x0 x) (pxS y0 y)) (p+1) j) (fun i=>Q3q W H l l' x0 y0 _ _ i j)
 have hc1:=Q2c W H c l
 have hc2:=Q2c W H c' l'
 rw [check_ok h1 h2 h3 h4 hl] at hc1
 rw [check_ok h1 h2 h3 h4 hl'] at hc2
 have hor:orL [0,0]=0:=rfl
 have hout:outA W H x0 ((x0+p:Nat):Int) y0 ((y0+q:Nat):Int)=false:=by
  unfold outA
  rw [decide_eq_true (by omega),decide_eq_true (by omega),decide_eq_true (by omega),decide_eq_true (by omega),decide_eq_true (by omega),decide_eq_true (by omega)];rfl
 refine Q07 rfl rfl ?_
 repeat' (first
 | (conv=>whnf)
   first
   | refine Br.t ?_
   | refine Br.f ?_
   | (refine Br.decT ?_ ?_;(focus first | assumption | omega))
   | (refine Br.decF ?_ ?_;(focus first | assumption | omega))
   | refine Br.not ?_
   | refine Br.and ?_
   | (refine Bnd.i64 ?_ ?_ ?_;(focus omega);(focus omega))
   | refine Q00 rfl rfl hc1 (.inl rfl) ?_
   | refine Q00 rfl rfl hc2 (.inl rfl) ?_
   | refine Q00 rfl rfl (or62 true [0,0] (show 2≤1000 by decide)) (.inl rfl) ?_
   | refine Q00 rfl rfl (Q4d h2 h4 _ _ _ _) (.inl rfl) ?_
   | refine Q00 rfl rfl (Q6t _ _ _) (.inl rfl) ?_
   | refine Get.mk _ rfl ?_
   | (refine Req.mk ?_ ?_;(focus first | rfl | decide | exact ⟨rfl,rfl⟩ | exact ⟨rfl,by decide⟩ | exact (fun _=>rfl) | exact (fun h=>nomatch h) | (simp;done) | omega | (simp [big];done) | exact Q02 (by omega) | exact Q01 (by omega))))
 refine LoopP.by (fun a:Int × List Sh3=>0 - (r:Int)≤a.1∧a.1≤r+1∧Inv (insS W H x0 y0 p q) (smS W H l l' x0 y0 p q) r a.2 a.1 (0 - r)) (fun a=>[(12,stT a.2),(13,.int .i64 a.1)]) (fun a=>stB W H c c' l l' x0 y0 p q a.2) (fun a=>((r:Int)+1 - a.1).toNat) (0 - (r:Int),[]) ⟨by omega,by omega,Inv.nil⟩ rfl ?_
 rintro ⟨y,L⟩ ⟨hy1,hy2,hI⟩
 simp only at hy1 hy2 hI
 dsimp only
 have hlen:=hI.len
 by_cases hyr:y≤r
 ·cases L with
  | nil =>
   repeat' (first
 | (conv=>whnf)
   first
   | (refine Br.decT ?_ ?_;(focus first | assumption | omega))
   | (refine Bnd.i64 ?_ ?_ ?_;(focus omega);(focus omega)))
   refine LoopP.by (fun a:Int × List Sh3=>0 - (r:Int)≤a.1∧a.1≤r+1∧True∧Inv (insS W H x0 y0 p q) (smS W H l l' x0 y0 p q) r a.2 y a.1) (fun a=>[(12,stT a.2),(14,.int .i64 a.1)]) (fun a=>stB W H c c' l l' x0 y0 p q a.2) (fun a=>((r:Int)+1 - a.1).toNat) (0 - (r:Int),[]) ⟨by simp only;omega,by simp only;omega,trivial,hI⟩ rfl ?_
   rintro ⟨x,L2⟩ ⟨hx1,hx2,_,hI2⟩
   simp only at hx1 hx2 hI2
   dsimp only
   have hlen2:=hI2.len
   by_cases hxr:x≤r
   ·cases L2 with
    | nil =>
     repeat' (first
 | (conv=>whnf)
   first
   | (refine Br.decT ?_ ?_;(focus first | assumption | omega))
   | refine Get.mk _ rfl ?_
   | (refine Req.mk ?_ ?_;(focus first | rfl | decide | exact ⟨rfl,rfl⟩ | exact ⟨rfl,by decide⟩ | exact (fun _=>rfl) | exact (fun h=>nomatch h) | (simp;done) | omega | (simp [big];done) | exact Q02 (by omega) | exact Q01 (by omega))))
     refine LoopP.by (fun j:Nat=>j≤q+1∧∀ k<j,∀ i≤p,pixB W H (pxS x0 x i) (pxS y0 y k)) (fun j=>[(16,.int .i64 ((y0+j:Nat):Int))]) (fun j=>(bs6 W H c c' l l' x0 y0 p q)++[.blk [.int .i64 x,.int .i64 y,.int .i64 (allS (tS W H l l' x0 y0 (pxS x0 x) (pxS y0 y)) (p+1) j)] false]) (fun j=>q+1 - j) 0 ⟨Nat.zero_le _,fun k hk=>absurd hk (Nat.not_lt_zero k)⟩ rfl ?_
     rintro j ⟨hj,hdone⟩
     by_cases hjq:j≤q
     ·repeat' (first
 | (conv=>whnf)
   first
   | (refine Br.decT ?_ ?_;(focus first | assumption | omega))
   | refine Get.mk _ rfl ?_
   | (refine Req.mk ?_ ?_;(focus first | rfl | decide | exact ⟨rfl,rfl⟩ | exact ⟨rfl,by decide⟩ | exact (fun _=>rfl) | exact (fun h=>nomatch h) | (simp;done) | omega | (simp [big];done) | exact Q02 (by omega) | exact Q01 (by omega))))
      refine LoopP.by (fun i:Nat=>i≤p+1∧∀ k<i,pixB W H (pxS x0 x k) (pxS y0 y j)) (fun i=>[(17,.int .i64 ((x0+i:Nat):Int))]) (fun i=>(bs6 W H c c' l l' x0 y0 p q)++[.blk [.int .i64 x,.int .i64 y,.int .i64 (rowA (fun i=>tS W H l l' x0 y0 (pxS x0 x) (pxS y0 y) i j) (allS (tS W H l l' x0 y0 (pxS x0 x) (pxS y0 y)) (p+1) j) i)] false]) (fun i=>p+1 - i) 0 ⟨Nat.zero_le _,fun k hk=>absurd hk (Nat.not_lt_zero k)⟩ rfl ?_
      rintro i ⟨hi,hrd⟩
      by_cases hip:i≤p
      ·have b1:=Q22 W H l ((x0+i:Nat):Int) ((y0+j:Nat):Int)
       have b2:=Q22 W H l' (((x0+i:Nat):Int)+x) (((y0+j:Nat):Int)+y)
       have b3:=h27 x y j
       have b4:=hrow x y j i
       have hb1:pixB W H ((x0+i:Nat):Int) ((y0+j:Nat):Int):=by unfold pixB;omega
       by_cases hb:pixB W H (pxS x0 x i) (pxS y0 y j)
       ·repeat' (first
 | (conv=>whnf)
   first
   | (refine Br.decT ?_ ?_;(focus first | assumption | omega))
   | refine Br.not ?_
   | (refine Bnd.i64 ?_ ?_ ?_;(focus omega);(focus omega))
   | refine Q00 rfl rfl (Q3j h2 h4 _ _) (.inl rfl) ?_
   | refine Q00 rfl rfl (Q7q h2 h4 hl hb1) (.inl rfl) ?_
   | refine Q00 rfl rfl (Q7q h2 h4 hl' hb) (.inl rfl) ?_
   | refine Q00 rfl rfl (Q65 _ (by omega)) (.inl rfl) ?_
   | refine Get.mk _ rfl ?_
   | (refine Req.mk ?_ ?_;(focus first | rfl | decide | exact ⟨rfl,rfl⟩ | exact ⟨rfl,by decide⟩ | exact (fun _=>rfl) | exact (fun h=>nomatch h) | (simp;done) | omega | (simp [big];done) | exact Q02 (by omega) | exact Q01 (by omega))))
        refine NextP.mk (i+1) ⟨by omega,fun k hk => ?_⟩ (by omega) rfl
        by_cases e:k=i
        ·subst e;exact hb
        ·exact hrd k (by omega)
       ·repeat' (first
 | (conv=>whnf)
   first
   | (refine Br.decT ?_ ?_;(focus first | assumption | omega))
   | (refine Br.decF ?_ ?_;(focus first | assumption | omega))
   | refine Br.not ?_
   | (refine Bnd.i64 ?_ ?_ ?_;(focus omega);(focus omega))
   | refine Q00 rfl rfl (Q3j h2 h4 _ _) (.inl rfl) ?_
   | refine Get.mk _ rfl ?_
   | (refine Req.mk ?_ ?_;(focus first | rfl | decide | exact ⟨rfl,rfl⟩ | exact ⟨rfl,by decide⟩ | exact (fun _=>rfl) | exact (fun h=>nomatch h) | (simp;done) | omega | (simp [big];done) | exact Q02 (by omega) | exact Q01 (by omega))))
        exact NextP.mk (x+1,([]:List Sh3)) ⟨by simp only;omega,by simp only;omega,trivial,hI2.skip (fun h=>hb (Q38.1 h i hip j hjq))⟩ (by simp only;omega) rfl
      ·obtain rfl:i=p+1:=by omega
       repeat' (first
 | (conv=>whnf)
   first
   | (refine Br.decF ?_ ?_;(focus first | assumption | omega))
   | (refine Bnd.i64 ?_ ?_ ?_;(focus omega);(focus omega))
   | refine Get.mk _ rfl ?_
   | (refine Req.mk ?_ ?_;(focus first | rfl | decide | exact ⟨rfl,rfl⟩ | exact ⟨rfl,by decide⟩ | exact (fun _=>rfl) | exact (fun h=>nomatch h) | (simp;done) | omega | (simp [big];done) | exact Q02 (by omega) | exact Q01 (by omega))))
       refine NextP.mk (j+1) ⟨by omega,fun k hk i hi => ?_⟩ (by omega) rfl
       by_cases e:k=j
       ·subst e;exact hrd i (by omega)
       ·exact hdone k (by omega) i hi
     ·obtain rfl:j=q+1:=by omega
      have hin:insS W H x0 y0 p q x y:=Q38.2 fun i hi k hk=>hdone k (by omega) i hi
      have hsm:=Q4l (W:=W) (H:=H) l l' (x0:=x0) (y0:=y0) (p:=p) (q:=q) (by omega) (by omega) x y
      have hnew:=hI2.add (by omega) (by omega) hin
      repeat' (first
 | (conv=>whnf)
   first
   | (refine Br.decF ?_ ?_;(focus first | assumption | omega))
   | (refine Bnd.i64 ?_ ?_ ?_;(focus omega);(focus omega))
   | (refine Ifz.pos ?_ ?_;(focus omega))
   | refine Get.mk _ rfl ?_
   | (refine Req.mk ?_ ?_;(focus first | rfl | decide | exact ⟨rfl,rfl⟩ | exact ⟨rfl,by decide⟩ | exact (fun _=>rfl) | exact (fun h=>nomatch h) | (simp;done) | omega | (simp [big];done) | exact Q02 (by omega) | exact Q01 (by omega))))
      refine NextP.mk (x+1,[(x,y,smS W H l l' x0 y0 p q x y)]) ⟨by simp only;omega,by simp only;omega,trivial,hnew⟩ (by simp only;omega) ?_
      have e1:ofS3 [(x,y,smS W H l l' x0 y0 p q x y)]=[.int .i64 x,.int .i64 y,.int .i64 (smS W H l l' x0 y0 p q x y)]:=by unfold ofS3;unfold ofS3;rfl
      have e2:stT [(x,y,smS W H l l' x0 y0 p q x y)] = .ms 3 7 3 0 1 false:=by simp [stT,Q36]
      show norm _ _ _=(⟨upds _ [(12,stT [(x,y,smS W H l l' x0 y0 p q x y)]),(14,_)],bs6 W H c c' l l' x0 y0 p q++[_,.blk (ofS3 [(x,y,smS W H l l' x0 y0 p q x y)]) true]⟩:St)
      rw [e2,e1]
      rfl
    | cons s L2 =>
     repeat' (first
 | (conv=>whnf)
   first
   | (refine Br.decT ?_ ?_;(focus first | assumption | omega))
   | refine Get.mk _ rfl ?_
   | (refine Req.mk ?_ ?_;(focus first | rfl | decide | exact ⟨rfl,rfl⟩ | exact ⟨rfl,by decide⟩ | exact (fun _=>rfl) | exact (fun h=>nomatch h) | (simp;done) | omega | (simp [big];done) | exact Q02 (by omega) | exact Q01 (by omega))))
     refine LoopP.by (fun j:Nat=>j≤q+1∧∀ k<j,∀ i≤p,pixB W H (pxS x0 x i) (pxS y0 y k)) (fun j=>[(16,.int .i64 ((y0+j:Nat):Int))]) (fun j=>(bs6 W H c c' l l' x0 y0 p q++[.blk [.int .i64 s.1,.int .i64 s.2.1,.int .i64 s.2.2] false,.blk (ofS3 (s :: L2)) true])++[.blk [.int .i64 x,.int .i64 y,.int .i64 (allS (tS W H l l' x0 y0 (pxS x0 x) (pxS y0 y)) (p+1) j)] false]) (fun j=>q+1 - j) 0 ⟨Nat.zero_le _,fun k hk=>absurd hk (Nat.not_lt_zero k)⟩ rfl ?_
     rintro j ⟨hj,hdone⟩
     by_cases hjq:j≤q
     ·repeat' (first
 | (conv=>whnf)
   first
   | (refine Br.decT ?_ ?_;(focus first | assumption | omega))
   | refine Get.mk _ rfl ?_
   | (refine Req.mk ?_ ?_;(focus first | rfl | decide | exact ⟨rfl,rfl⟩ | exact ⟨rfl,by decide⟩ | exact (fun _=>rfl) | exact (fun h=>nomatch h) | (simp;done) | omega | (simp [big];done) | exact Q02 (by omega) | exact Q01 (by omega))))
      refine LoopP.by (fun i:Nat=>i≤p+1∧∀ k<i,pixB W H (pxS x0 x k) (pxS y0 y j)) (fun i=>[(17,.int .i64 ((x0+i:Nat):Int))]) (fun i=>(bs6 W H c c' l l' x0 y0 p q++[.blk [.int .i64 s.1,.int .i64 s.2.1,.int .i64 s.2.2] false,.blk (ofS3 (s :: L2)) true])++[.blk [.int .i64 x,.int .i64 y,.int .i64 (rowA (fun i=>tS W H l l' x0 y0 (pxS x0 x) (pxS y0 y) i j) (allS (tS W H l l' x0 y0 (pxS x0 x) (pxS y0 y)) (p+1) j) i)] false]) (fun i=>p+1 - i) 0 ⟨Nat.zero_le _,fun k hk=>absurd hk (Nat.not_lt_zero k)⟩ rfl ?_
      rintro i ⟨hi,hrd⟩
      by_cases hip:i≤p
      ·have b1:=Q22 W H l ((x0+i:Nat):Int) ((y0+j:Nat):Int)
       have b2:=Q22 W H l' (((x0+i:Nat):Int)+x) (((y0+j:Nat):Int)+y)
       have b3:=h27 x y j
       have b4:=hrow x y j i
       have hb1:pixB W H ((x0+i:Nat):Int) ((y0+j:Nat):Int):=by unfold pixB;omega
       by_cases hb:pixB W H (pxS x0 x i) (pxS y0 y j)
       ·repeat' (first
 | (conv=>whnf)
   first
   | (refine Br.decT ?_ ?_;(focus first | assumption | omega))
   | refine Br.not ?_
   | (refine Bnd.i64 ?_ ?_ ?_;(focus omega);(focus omega))
   | refine Q00 rfl rfl (Q3j h2 h4 _ _) (.inl rfl) ?_
   | refine Q00 rfl rfl (Q7q h2 h4 hl hb1) (.inl rfl) ?_
   | refine Q00 rfl rfl (Q7q h2 h4 hl' hb) (.inl rfl) ?_
   | refine Q00 rfl rfl (Q65 _ (by omega)) (.inl rfl) ?_
   | refine Get.mk _ rfl ?_
   | (refine Req.mk ?_ ?_;(focus first | rfl | decide | exact ⟨rfl,rfl⟩ | exact ⟨rfl,by decide⟩ | exact (fun _=>rfl) | exact (fun h=>nomatch h) | (simp;done) | omega | (simp [big];done) | exact Q02 (by omega) | exact Q01 (by omega))))
        refine NextP.mk (i+1) ⟨by omega,fun k hk => ?_⟩ (by omega) rfl
        by_cases e:k=i
        ·subst e;exact hb
        ·exact hrd k (by omega)
       ·repeat' (first
 | (conv=>whnf)
   first
   | (refine Br.decT ?_ ?_;(focus first | assumption | omega))
   | (refine Br.decF ?_ ?_;(focus first | assumption | omega))
   | refine Br.not ?_
   | (refine Bnd.i64 ?_ ?_ ?_;(focus omega);(focus omega))
   | refine Q00 rfl rfl (Q3j h2 h4 _ _) (.inl rfl) ?_
   | refine Get.mk _ rfl ?_
   | (refine Req.mk ?_ ?_;(focus first | rfl | decide | exact ⟨rfl,rfl⟩ | exact ⟨rfl,by decide⟩ | exact (fun _=>rfl) | exact (fun h=>nomatch h) | (simp;done) | omega | (simp [big];done) | exact Q02 (by omega) | exact Q01 (by omega))))
        exact NextP.mk (x+1,s :: L2) ⟨by simp only;omega,by simp only;omega,trivial,hI2.skip (fun h=>hb (Q38.1 h i hip j hjq))⟩ (by simp only;omega) rfl
      ·obtain rfl:i=p+1:=by omega
       repeat' (first
 | (conv=>whnf)
   first
   | (refine Br.decF ?_ ?_;(focus first | assumption | omega))
   | (refine Bnd.i64 ?_ ?_ ?_;(focus omega);(focus omega))
   | refine Get.mk _ rfl ?_
   | (refine Req.mk ?_ ?_;(focus first | rfl | decide | exact ⟨rfl,rfl⟩ | exact ⟨rfl,by decide⟩ | exact (fun _=>rfl) | exact (fun h=>nomatch h) | (simp;done) | omega | (simp [big];done) | exact Q02 (by omega) | exact Q01 (by omega))))
       refine NextP.mk (j+1) ⟨by omega,fun k hk i hi => ?_⟩ (by omega) rfl
       by_cases e:k=j
       ·subst e;exact hrd i (by omega)
       ·exact hdone k (by omega) i hi
     ·obtain rfl:j=q+1:=by omega
      have hin:insS W H x0 y0 p q x y:=Q38.2 fun i hi k hk=>hdone k (by omega) i hi
      have hsm:=Q4l (W:=W) (H:=H) l l' (x0:=x0) (y0:=y0) (p:=p) (q:=q) (by omega) (by omega) x y
      have hnew:=hI2.add (by omega) (by omega) hin
      have hz:(ofS3 (s :: L2)).length=3 * lenS (s :: L2):=by rw [Q36];exact ofS3_length (s :: L2)
      have hn:lenS (s :: L2)≤1000:=by rw [Q36];omega
      have hq3:0+lenS (s :: L2) * 3=3 * lenS (s :: L2)∧((ofS3 (s :: L2)).length+3) * 25<68719476736:=⟨by omega,by omega⟩
      have e1:ofS3 (s :: (L2++[(x,y,smS W H l l' x0 y0 p q x y)]))=ofS3 (s :: L2)++[.int .i64 x,.int .i64 y,.int .i64 (smS W H l l' x0 y0 p q x y)]:=by
       have:=Q6x (s :: L2) [(x,y,smS W H l l' x0 y0 p q x y)]
       rw [show ofS3 [(x,y,smS W H l l' x0 y0 p q x y)]=[.int .i64 x,.int .i64 y,.int .i64 (smS W H l l' x0 y0 p q x y)] by unfold ofS3;unfold ofS3;rfl] at this
       exact this
      have e2:stT (s :: (L2++[(x,y,smS W H l l' x0 y0 p q x y)])) = .ms 3 7 (3 * (lenS (s :: L2)+1)) 0 (lenS (s :: L2)+1) false:=by simp [stT,Q36]
      repeat' (first
 | (conv=>whnf)
   first
   | (refine Br.decF ?_ ?_;(focus first | assumption | omega))
   | (refine Bnd.i64 ?_ ?_ ?_;(focus omega);(focus omega))
   | refine Req.mk hz ?_
   | refine Req.mk hq3 ?_
   | (refine Ifz.pos ?_ ?_;(focus omega))
   | refine Get.mk _ rfl ?_
   | (refine Req.mk ?_ ?_;(focus first | rfl | decide | exact ⟨rfl,rfl⟩ | exact ⟨rfl,by decide⟩ | exact (fun _=>rfl) | exact (fun h=>nomatch h) | (simp;done) | omega | (simp [big];done) | exact Q02 (by omega) | exact Q01 (by omega))))
      refine NextP.mk (x+1,s :: (L2++[(x,y,smS W H l l' x0 y0 p q x y)])) ⟨by simp only;omega,by simp only;omega,by first | exact trivial | exact ⟨s,_,rfl⟩,hnew⟩ (by simp only;omega) ?_
      show norm _ _ _=(⟨upds _ [(12,stT (s :: (L2++[(x,y,smS W H l l' x0 y0 p q x y)]))),(14,_)],bs6 W H c c' l l' x0 y0 p q++[_,.blk (ofS3 (s :: (L2++[(x,y,smS W H l l' x0 y0 p q x y)]))) true]⟩:St)
      rw [e2,e1]
      rfl
   ·obtain rfl:x=r+1:=by omega
    cases L2 with
    | nil =>
     repeat' (first
 | (conv=>whnf)
   first
   | (refine Br.decF ?_ ?_;(focus first | assumption | omega))
   | (refine Bnd.i64 ?_ ?_ ?_;(focus omega);(focus omega)))
     exact NextP.mk (y+1,[]) ⟨by simp only;omega,by simp only;omega,hI2.row (by omega)⟩ (by simp only;omega) rfl
    | cons s L2 =>
     repeat' (first
 | (conv=>whnf)
   first
   | (refine Br.decF ?_ ?_;(focus first | assumption | omega))
   | (refine Bnd.i64 ?_ ?_ ?_;(focus omega);(focus omega)))
     exact NextP.mk (y+1,s :: L2) ⟨by simp only;omega,by simp only;omega,hI2.row (by omega)⟩ (by simp only;omega) rfl
  | cons s L =>
   repeat' (first
 | (conv=>whnf)
   first
   | (refine Br.decT ?_ ?_;(focus first | assumption | omega))
   | (refine Bnd.i64 ?_ ?_ ?_;(focus omega);(focus omega)))
   refine LoopP.by (fun a:Int × List Sh3=>0 - (r:Int)≤a.1∧a.1≤r+1∧(∃ s L,a.2=s :: L)∧Inv (insS W H x0 y0 p q) (smS W H l l' x0 y0 p q) r a.2 y a.1) (fun a=>[(12,stT a.2),(14,.int .i64 a.1)]) (fun a=>stB W H c c' l l' x0 y0 p q a.2) (fun a=>((r:Int)+1 - a.1).toNat) (0 - (r:Int),s :: L) ⟨by simp only;omega,by simp only;omega,⟨s,L,rfl⟩,hI⟩ rfl ?_
   rintro ⟨x,L2⟩ ⟨hx1,hx2,⟨s,L2,rfl⟩,hI2⟩
   simp only at hx1 hx2 hI2
   dsimp only
   have hlen2:=hI2.len
   by_cases hxr:x≤r
   ·repeat' (first
 | (conv=>whnf)
   first
   | (refine Br.decT ?_ ?_;(focus first | assumption | omega))
   | refine Get.mk _ rfl ?_
   | (refine Req.mk ?_ ?_;(focus first | rfl | decide | exact ⟨rfl,rfl⟩ | exact ⟨rfl,by decide⟩ | exact (fun _=>rfl) | exact (fun h=>nomatch h) | (simp;done) | omega | (simp [big];done) | exact Q02 (by omega) | exact Q01 (by omega))))
    refine LoopP.by (fun j:Nat=>j≤q+1∧∀ k<j,∀ i≤p,pixB W H (pxS x0 x i) (pxS y0 y k)) (fun j=>[(16,.int .i64 ((y0+j:Nat):Int))]) (fun j=>(bs6 W H c c' l l' x0 y0 p q++[.blk [.int .i64 s.1,.int .i64 s.2.1,.int .i64 s.2.2] false,.blk (ofS3 (s :: L2)) true])++[.blk [.int .i64 x,.int .i64 y,.int .i64 (allS (tS W H l l' x0 y0 (pxS x0 x) (pxS y0 y)) (p+1) j)] false]) (fun j=>q+1 - j) 0 ⟨Nat.zero_le _,fun k hk=>absurd hk (Nat.not_lt_zero k)⟩ rfl ?_
    rintro j ⟨hj,hdone⟩
    by_cases hjq:j≤q
    ·repeat' (first
 | (conv=>whnf)
   first
   | (refine Br.decT ?_ ?_;(focus first | assumption | omega))
   | refine Get.mk _ rfl ?_
   | (refine Req.mk ?_ ?_;(focus first | rfl | decide | exact ⟨rfl,rfl⟩ | exact ⟨rfl,by decide⟩ | exact (fun _=>rfl) | exact (fun h=>nomatch h) | (simp;done) | omega | (simp [big];done) | exact Q02 (by omega) | exact Q01 (by omega))))
     refine LoopP.by (fun i:Nat=>i≤p+1∧∀ k<i,pixB W H (pxS x0 x k) (pxS y0 y j)) (fun i=>[(17,.int .i64 ((x0+i:Nat):Int))]) (fun i=>(bs6 W H c c' l l' x0 y0 p q++[.blk [.int .i64 s.1,.int .i64 s.2.1,.int .i64 s.2.2] false,.blk (ofS3 (s :: L2)) true])++[.blk [.int .i64 x,.int .i64 y,.int .i64 (rowA (fun i=>tS W H l l' x0 y0 (pxS x0 x) (pxS y0 y) i j) (allS (tS W H l l' x0 y0 (pxS x0 x) (pxS y0 y)) (p+1) j) i)] false]) (fun i=>p+1 - i) 0 ⟨Nat.zero_le _,fun k hk=>absurd hk (Nat.not_lt_zero k)⟩ rfl ?_
     rintro i ⟨hi,hrd⟩
     by_cases hip:i≤p
     ·have b1:=Q22 W H l ((x0+i:Nat):Int) ((y0+j:Nat):Int)
      have b2:=Q22 W H l' (((x0+i:Nat):Int)+x) (((y0+j:Nat):Int)+y)
      have b3:=h27 x y j
      have b4:=hrow x y j i
      have hb1:pixB W H ((x0+i:Nat):Int) ((y0+j:Nat):Int):=by unfold pixB;omega
      by_cases hb:pixB W H (pxS x0 x i) (pxS y0 y j)
      ·repeat' (first
 | (conv=>whnf)
   first
   | (refine Br.decT ?_ ?_;(focus first | assumption | omega))
   | refine Br.not ?_
   | (refine Bnd.i64 ?_ ?_ ?_;(focus omega);(focus omega))
   | refine Q00 rfl rfl (Q3j h2 h4 _ _) (.inl rfl) ?_
   | refine Q00 rfl rfl (Q7q h2 h4 hl hb1) (.inl rfl) ?_
   | refine Q00 rfl rfl (Q7q h2 h4 hl' hb) (.inl rfl) ?_
   | refine Q00 rfl rfl (Q65 _ (by omega)) (.inl rfl) ?_
   | refine Get.mk _ rfl ?_
   | (refine Req.mk ?_ ?_;(focus first | rfl | decide | exact ⟨rfl,rfl⟩ | exact ⟨rfl,by decide⟩ | exact (fun _=>rfl) | exact (fun h=>nomatch h) | (simp;done) | omega | (simp [big];done) | exact Q02 (by omega) | exact Q01 (by omega))))
       refine NextP.mk (i+1) ⟨by omega,fun k hk => ?_⟩ (by omega) rfl
       by_cases e:k=i
       ·subst e;exact hb
       ·exact hrd k (by omega)
      ·repeat' (first
 | (conv=>whnf)
   first
   | (refine Br.decT ?_ ?_;(focus first | assumption | omega))
   | (refine Br.decF ?_ ?_;(focus first | assumption | omega))
   | refine Br.not ?_
   | (refine Bnd.i64 ?_ ?_ ?_;(focus omega);(focus omega))
   | refine Q00 rfl rfl (Q3j h2 h4 _ _) (.inl rfl) ?_
   | refine Get.mk _ rfl ?_
   | (refine Req.mk ?_ ?_;(focus first | rfl | decide | exact ⟨rfl,rfl⟩ | exact ⟨rfl,by decide⟩ | exact (fun _=>rfl) | exact (fun h=>nomatch h) | (simp;done) | omega | (simp [big];done) | exact Q02 (by omega) | exact Q01 (by omega))))
       exact NextP.mk (x+1,s :: L2) ⟨by simp only;omega,by simp only;omega,⟨s,L2,rfl⟩,hI2.skip (fun h=>hb (Q38.1 h i hip j hjq))⟩ (by simp only;omega) rfl
     ·obtain rfl:i=p+1:=by omega
      repeat' (first
 | (conv=>whnf)
   first
   | (refine Br.decF ?_ ?_;(focus first | assumption | omega))
   | (refine Bnd.i64 ?_ ?_ ?_;(focus omega);(focus omega))
   | refine Get.mk _ rfl ?_
   | (refine Req.mk ?_ ?_;(focus first | rfl | decide | exact ⟨rfl,rfl⟩ | exact ⟨rfl,by decide⟩ | exact (fun _=>rfl) | exact (fun h=>nomatch h) | (simp;done) | omega | (simp [big];done) | exact Q02 (by omega) | exact Q01 (by omega))))
      refine NextP.mk (j+1) ⟨by omega,fun k hk i hi => ?_⟩ (by omega) rfl
      by_cases e:k=j
      ·subst e;exact hrd i (by omega)
      ·exact hdone k (by omega) i hi
    ·obtain rfl:j=q+1:=by omega
     have hin:insS W H x0 y0 p q x y:=Q38.2 fun i hi k hk=>hdone k (by omega) i hi
     have hsm:=Q4l (W:=W) (H:=H) l l' (x0:=x0) (y0:=y0) (p:=p) (q:=q) (by omega) (by omega) x y
     have hnew:=hI2.add (by omega) (by omega) hin
     have hz:(ofS3 (s :: L2)).length=3 * lenS (s :: L2):=by rw [Q36];exact ofS3_length (s :: L2)
     have hn:lenS (s :: L2)≤1000:=by rw [Q36];omega
     have hq3:0+lenS (s :: L2) * 3=3 * lenS (s :: L2)∧((ofS3 (s :: L2)).length+3) * 25<68719476736:=⟨by omega,by omega⟩
     have e1:ofS3 (s :: (L2++[(x,y,smS W H l l' x0 y0 p q x y)]))=ofS3 (s :: L2)++[.int .i64 x,.int .i64 y,.int .i64 (smS W H l l' x0 y0 p q x y)]:=by
      have:=Q6x (s :: L2) [(x,y,smS W H l l' x0 y0 p q x y)]
      rw [show ofS3 [(x,y,smS W H l l' x0 y0 p q x y)]=[.int .i64 x,.int .i64 y,.int .i64 (smS W H l l' x0 y0 p q x y)] by unfold ofS3;unfold ofS3;rfl] at this
      exact this
     have e2:stT (s :: (L2++[(x,y,smS W H l l' x0 y0 p q x y)])) = .ms 3 7 (3 * (lenS (s :: L2)+1)) 0 (lenS (s :: L2)+1) false:=by simp [stT,Q36]
     repeat' (first
 | (conv=>whnf)
   first
   | (refine Br.decF ?_ ?_;(focus first | assumption | omega))
   | (refine Bnd.i64 ?_ ?_ ?_;(focus omega);(focus omega))
   | refine Req.mk hz ?_
   | refine Req.mk hq3 ?_
   | (refine Ifz.pos ?_ ?_;(focus omega))
   | refine Get.mk _ rfl ?_
   | (refine Req.mk ?_ ?_;(focus first | rfl | decide | exact ⟨rfl,rfl⟩ | exact ⟨rfl,by decide⟩ | exact (fun _=>rfl) | exact (fun h=>nomatch h) | (simp;done) | omega | (simp [big];done) | exact Q02 (by omega) | exact Q01 (by omega))))
     refine NextP.mk (x+1,s :: (L2++[(x,y,smS W H l l' x0 y0 p q x y)])) ⟨by simp only;omega,by simp only;omega,by first | exact trivial | exact ⟨s,_,rfl⟩,hnew⟩ (by simp only;omega) ?_
     show norm _ _ _=(⟨upds _ [(12,stT (s :: (L2++[(x,y,smS W H l l' x0 y0 p q x y)]))),(14,_)],bs6 W H c c' l l' x0 y0 p q++[_,.blk (ofS3 (s :: (L2++[(x,y,smS W H l l' x0 y0 p q x y)]))) true]⟩:St)
     rw [e2,e1]
     rfl
   ·obtain rfl:x=r+1:=by omega
    repeat' (first
 | (conv=>whnf)
   first
   | (refine Br.decF ?_ ?_;(focus first | assumption | omega))
   | (refine Bnd.i64 ?_ ?_ ?_;(focus omega);(focus omega)))
    exact NextP.mk (y+1,s :: L2) ⟨by simp only;omega,by simp only;omega,hI2.row (by omega)⟩ (by simp only;omega) rfl
 ·obtain rfl:y=r+1:=by omega
  cases L with
  | nil =>
   have:=hI.all 0 0 (by omega) (by omega) (by omega) (by unfold insS;omega) (by omega)
   simp at this
  | cons s L =>
   obtain rfl:=hm.uniq hI.best
   have hsm:∀ z∈s :: L,Q6m z:=fun z hz=>by
    obtain ⟨z1,z2,z3,z4,_,z6⟩:=hI.mem z hz
    have:=Q4l (W:=W) (H:=H) l l' (x0:=x0) (y0:=y0) (p:=p) (q:=q) (by omega) (by omega) z.1 z.2.1
    exact ⟨by omega,by omega,by omega,by omega,by omega,by omega⟩
   have hll:L.length≤1000000:=by simp only [List.length_cons] at hlen;omega
   repeat' (first
 | (conv=>whnf)
   first
   | (refine Br.decF ?_ ?_;(focus first | assumption | omega))
   | refine Q00 rfl (Qlt rfl rfl (by rw [Q36]) (Q36 _)) (Qj7 hsm hll) (.inr rfl) ?_
   | refine Get.mk _ rfl ?_
   | refine Leaves.of ?_
   | refine Vw.int ?_
   | refine Vw.tup ?_
   | refine Vw.agg ?_
   | refine VwL.cons ?_ ?_
   | refine VwL.nil
   | (refine Req.mk ?_ ?_;(focus first | rfl | decide | exact ⟨rfl,rfl⟩ | exact ⟨rfl,by decide⟩ | exact (fun _=>rfl) | exact (fun h=>nomatch h) | (simp;done) | omega | (simp [big];done) | exact Q02 (by omega) | exact Q01 (by omega))))
   all_goals rfl
end Go.Dr.T7
