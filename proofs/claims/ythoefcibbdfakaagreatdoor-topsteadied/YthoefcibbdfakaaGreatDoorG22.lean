/- Top, of chapter 07: Move of the program. -/
import Derived.Test.YthoefcibbdfakaaGreatDoorG19
import Derived.Test.YthoefcibbdfakaaGreatDoorR17Se
import Derived.Test.YthoefcibbdfakaaGreatDoorG18
import Derived.Test.YthoefcibbdfakaaGreatDoorR18Rn
namespace Go.Dr.T7
set_option maxRecDepth 100000 in
set_option maxHeartbeats 20000000 in
theorem move_ok {W H:Nat} {c:Bool} {l:List UInt8} (h1:1≤W) (h2:W≤48) (h3:1≤H) (h4:H≤48) (hl:l.length=W * H) {dx dy:Int} (hx : -12≤dx∧dx≤12) (hy : -12≤dy∧dy≤12) (fill:UInt8) :
  Fun F md 6 [frV W H c l,.int .i64 dx,.int .i64 dy,.int .u8 fill.toNat] (.tup [frV W H false (moveL W H l dx dy fill (W * H)),.int .i64 0]):=by
 have hck:=check_ok h1 h2 h3 h4 hl
 have hf:=fill.toNat_lt
 have hWH:W * H≤2304:=Nat.mul_le_mul h2 h4
 have hWH1:1 * 1≤W * H:=Nat.mul_le_mul h1 h3
 refine Q07 rfl rfl ?_
 repeat' (first
 | (conv=>whnf)
   first
   | (refine Br.decT ?_ ?_;(focus first | assumption | omega))
   | (refine Br.decF ?_ ?_;(focus first | assumption | omega))
   | refine Br.not ?_
   | refine Br.or ?_
   | refine Q00 rfl rfl (Q6t _ _ _) (.inl rfl) ?_
   | refine Q00 rfl rfl (Q2c _ _ _ _) (.inl rfl) ?_
   | refine Q11 rfl rfl rfl ?_
   | refine Idx.nat (Q02 (by omega)) ?_
   | (refine Idx.int ?_ ?_ ?_;(focus omega);(focus omega))
   | refine Get.mk _ rfl ?_
   | (refine Req.mk ?_ ?_;(focus first | rfl | decide | exact ⟨rfl,rfl⟩ | exact ⟨rfl,by decide⟩ | exact (fun _=>rfl) | exact (fun h=>nomatch h) | (simp;done) | omega | (simp [big];done) | exact Q02 (by omega) | exact Q01 (by omega))))
 refine LoopP.by (fun y:Nat=>y≤H) (fun y=>[(23,.int .i64 (y:Nat))]) (fun y =>
  [.blk [.int .i64 W,.int .i64 H,.sl c l.length (ofBytes l)] false,.blk [.int .i64 dx] false,.blk [.int .i64 dy] false,.blk [.int .u8 fill.toNat] false,.blk [.int .i64 0,.int .i64 0,.nilsl] false,
   .blk [.int .i64 W,.int .i64 H,.sl c l.length (ofBytes l)] false,.blk [.int .i64 W,.int .i64 H,.sl c l.length (ofBytes l)] false,.blk [.int .i64 0,.int .i64 0,.nilsl] false,
   .blk (ofBytes (moveL W H l dx dy fill (y * W))) true,.blk [.int .i64 W,.int .i64 H,.ms 1 8 (y * W) 0 (y * W) false] false]) (fun y=>H - y) 0 (Nat.zero_le _) ?_ ?_
 ·rw [show decide (Int.toNat 0=l.length)=false by simp;omega,Nat.zero_mul]
  rfl
 intro y hyH
 have hyW:y * W≤W * H:=by rw [Nat.mul_comm W H];exact Nat.mul_le_mul_right W hyH
 repeat' (first
 | (conv=>whnf)
   first
   | refine Br.dec (fun _ => ?_) (fun _ => ?_)
   | refine Get.mk _ rfl ?_
   | refine Leaves.of ?_
   | refine Ends.of ?_
   | refine Vw.int ?_
   | refine Vw.tup ?_
   | refine Vw.agg ?_
   | refine VwL.cons ?_ ?_
   | refine VwL.nil
   | (refine Req.mk ?_ ?_;(focus first | rfl | decide | exact ⟨rfl,rfl⟩ | exact ⟨rfl,by decide⟩ | exact (fun _=>rfl) | exact (fun h=>nomatch h) | (simp;done) | omega | (simp [big];done) | exact Q02 (by omega) | exact Q01 (by omega))))
 ·refine LoopP.by (fun x:Nat=>x≤W) (fun x=>[(29,.int .i64 (x:Nat))]) (fun x =>
   [.blk [.int .i64 W,.int .i64 H,.sl c l.length (ofBytes l)] false,.blk [.int .i64 dx] false,.blk [.int .i64 dy] false,.blk [.int .u8 fill.toNat] false,.blk [.int .i64 0,.int .i64 0,.nilsl] false,
    .blk [.int .i64 W,.int .i64 H,.sl c l.length (ofBytes l)] false,.blk [.int .i64 W,.int .i64 H,.sl c l.length (ofBytes l)] false,.blk [.int .i64 0,.int .i64 0,.nilsl] false,
    .blk (ofBytes (moveL W H l dx dy fill (y * W+x))) true,.blk [.int .i64 W,.int .i64 H,.ms 1 8 (y * W+x) 0 (y * W+x) false] false]) (fun x=>W - x) 0 (Nat.zero_le _) rfl ?_
  intro x hxW
  have hsum:y * W+x≤2400:=by omega
  repeat' (first
 | (conv=>whnf)
   first
   | refine Br.dec (fun _ => ?_) (fun _ => ?_)
   | (refine Bnd.i64 ?_ ?_ ?_;(focus omega);(focus omega))
   | refine Q00 rfl rfl (Q3j h2 h4 _ _) (.inl rfl) ?_
   | refine Q00 rfl rfl (Q7q h2 h4 hl ‹pixB _ _ _ _›) (.inl rfl) ?_
   | refine Qna rfl rfl rfl ?_
   | refine Bnd.u8 (Q22 _ _ _ _ _).1 (Q22 _ _ _ _ _).2 ?_
   | (refine Bnd.u8 ?_ ?_ ?_;(focus omega);(focus omega))
   | refine Req.mk ((Q0f _).trans (moveL_length _ _ _ _ _ _ _)) ?_
   | refine Req.mk ⟨by omega,Qnn ((Q0f _).trans (moveL_length _ _ _ _ _ _ _)) (by omega)⟩ ?_
   | (refine Ifz.pos ?_ ?_;(focus omega))
   | refine Get.mk _ rfl ?_
   | refine Ends.of ?_
   | (refine Req.mk ?_ ?_;(focus first | rfl | decide | exact ⟨rfl,rfl⟩ | exact ⟨rfl,by decide⟩ | exact (fun _=>rfl) | exact (fun h=>nomatch h) | (simp;done) | omega | (simp [big];done) | exact Q02 (by omega) | exact Q01 (by omega))))
  ·refine NextP.mk (x+1) (by omega) (by omega) ?_
   rw [Q8d (Qio (y:=y) (x:=x) rfl (by omega) ‹pixB _ _ _ _›)]
   rfl
  ·refine NextP.mk (x+1) (by omega) (by omega) ?_
   rw [Q8d (Qeo (y:=y) (x:=x) rfl (by omega) ‹¬ pixB _ _ _ _›)]
   rfl
  ·refine NextP.mk (y+1) (by omega) (by omega) ?_
   obtain rfl:x=W:=by omega
   rw [show y * x+x=(y+1) * x by rw [Nat.add_mul y 1,Nat.one_mul]]
   rfl
 ·rfl
 ·rfl
 ·have e:y * W=W * H:=by rw [show y=H by omega,Nat.mul_comm]
  refine Vw.bytes rfl (moveL_length _ _ _ _ _ _ _).symm (moveL_length _ _ _ _ _ _ _).symm (by rw [e]) rfl
 ·rfl
end Go.Dr.T7
namespace Go.Dr.T7
theorem checkL_zero {w h:Int} {n:Nat} (hc:checkL w h n=0):∃ W H:Nat,w=W∧h=H∧1≤W∧W≤48∧1≤H∧H≤48∧n=W * H:=by
 unfold checkL at hc
 split at hc
 ·omega
 ·rename_i hb
  split at hc
  ·rename_i he
   obtain ⟨W,rfl⟩:=Int.eq_ofNat_of_zero_le (show 0≤w by omega)
   obtain ⟨H,rfl⟩:=Int.eq_ofNat_of_zero_le (show 0≤h by omega)
   refine ⟨W,H,rfl,rfl,by omega,by omega,by omega,by omega,?_⟩
   have:((n:Nat):Int)=((W * H:Nat):Int):=by rw [he];push_cast;rfl
   exact Int.ofNat.inj this
  ·omega
end Go.Dr.T7
namespace Go.Dr.T7
abbrev noS (k:Int):V:=.tup [.agg [.int .i64 0,.int .i64 0,.int .i64 0],.int .i64 k]
set_option maxRecDepth 100000 in
set_option maxHeartbeats 20000000 in
theorem Qfy {W H W' H' : Nat} {c c' : Bool} {l l' : List UInt8} (h2:W≤48) (h4:H≤48) (hc:checkL W H l.length=0) (hc' : checkL W' H' l'.length=0) {a b d e:Int} (hno:¬ (W=W' ∧ H=H' ∧ outA W H a b d e=false)) (r:Int):Fun F md 7 [frV W H c l,frV W' H' c' l', winV a b d e,.int .i64 r] (noS 2):=by
 have hc1:=Q2c W H c l
 have hc2:=Q2c W' H' c' l'
 rw [hc] at hc1
 rw [hc'] at hc2
 have hor:orL [0,0]=0:=rfl
 have ho:=Q4d (c0:=c) (l:=l) h2 h4 a b d e
 cases hout:outA W H a b d e with
 | true =>
  rw [hout] at ho
  refine Q07 rfl rfl ?_
  repeat' (first
 | (conv=>whnf)
   first
   | refine Br.t ?_
   | refine Br.f ?_
   | (refine Br.decT ?_ ?_;(focus first | assumption | omega))
   | (refine Br.decF ?_ ?_;(focus first | assumption | omega))
   | refine Br.dec (fun _ => ?_) (fun _ => ?_)
   | refine Br.not ?_
   | refine Q00 rfl rfl hc1 (.inl rfl) ?_
   | refine Q00 rfl rfl hc2 (.inl rfl) ?_
   | refine Q00 rfl rfl (or62 true [0,0] (show 2≤1000 by decide)) (.inl rfl) ?_
   | refine Q00 rfl rfl ho (.inl rfl) ?_
   | refine Get.mk _ rfl ?_
   | refine Leaves.of ?_
   | refine Vw.int ?_
   | refine Vw.tup ?_
   | refine Vw.agg ?_
   | refine VwL.cons ?_ ?_
   | refine VwL.nil
   | (refine Req.mk ?_ ?_;(focus first | rfl | decide | exact ⟨rfl,rfl⟩ | exact ⟨rfl,by decide⟩ | exact (fun _=>rfl) | exact (fun h=>nomatch h) | (simp;done) | omega | (simp [big];done) | exact Q02 (by omega) | exact Q01 (by omega))))
  all_goals first | rfl | (exfalso;omega)
 | false =>
  have hno:¬ (W=W' ∧ H=H'):=fun h=>hno ⟨h.1,h.2,hout⟩
  rw [hout] at ho
  refine Q07 rfl rfl ?_
  repeat' (first
 | (conv=>whnf)
   first
   | refine Br.t ?_
   | refine Br.f ?_
   | (refine Br.decT ?_ ?_;(focus first | assumption | omega))
   | (refine Br.decF ?_ ?_;(focus first | assumption | omega))
   | refine Br.dec (fun _ => ?_) (fun _ => ?_)
   | refine Br.not ?_
   | refine Q00 rfl rfl hc1 (.inl rfl) ?_
   | refine Q00 rfl rfl hc2 (.inl rfl) ?_
   | refine Q00 rfl rfl (or62 true [0,0] (show 2≤1000 by decide)) (.inl rfl) ?_
   | refine Get.mk _ rfl ?_
   | refine Leaves.of ?_
   | refine Vw.int ?_
   | refine Vw.tup ?_
   | refine Vw.agg ?_
   | refine VwL.cons ?_ ?_
   | refine VwL.nil
   | (refine Req.mk ?_ ?_;(focus first | rfl | decide | exact ⟨rfl,rfl⟩ | exact ⟨rfl,by decide⟩ | exact (fun _=>rfl) | exact (fun h=>nomatch h) | (simp;done) | omega | (simp [big];done) | exact Q02 (by omega) | exact Q01 (by omega))))
  all_goals first | rfl | (exfalso;omega)
set_option maxRecDepth 100000 in
set_option maxHeartbeats 20000000 in
theorem Qfx {W H:Nat} {c c' : Bool} {l l' : List UInt8} (h2:W≤48) (h4:H≤48) (hc:checkL W H l.length=0) (hc' : checkL W H l'.length=0) {a b d e:Int} (hout:outA W H a b d e=false) {r:Int} (hr:¬ (0≤r∧r≤12)):Fun F md 7 [frV W H c l,frV W H c' l', winV a b d e,.int .i64 r] (noS 7):=by
 have hc1:=Q2c W H c l
 have hc2:=Q2c W H c' l'
 rw [hc] at hc1
 rw [hc'] at hc2
 have hor:orL [0,0]=0:=rfl
 have ho:=Q4d (c0:=c) (l:=l) h2 h4 a b d e
 rw [hout] at ho
 refine Q07 rfl rfl ?_
 repeat' (first
 | (conv=>whnf)
   first
   | refine Br.f ?_
   | (refine Br.decT ?_ ?_;(focus first | assumption | omega))
   | refine Br.dec (fun _ => ?_) (fun _ => ?_)
   | refine Br.not ?_
   | refine Br.or ?_
   | refine Q00 rfl rfl hc1 (.inl rfl) ?_
   | refine Q00 rfl rfl hc2 (.inl rfl) ?_
   | refine Q00 rfl rfl (or62 true [0,0] (show 2≤1000 by decide)) (.inl rfl) ?_
   | refine Q00 rfl rfl ho (.inl rfl) ?_
   | refine Q00 rfl rfl (Q6t _ _ _) (.inl rfl) ?_
   | refine Get.mk _ rfl ?_
   | refine Leaves.of ?_
   | refine Vw.int ?_
   | refine Vw.tup ?_
   | refine Vw.agg ?_
   | refine VwL.cons ?_ ?_
   | refine VwL.nil
   | (refine Req.mk ?_ ?_;(focus first | rfl | decide | exact ⟨rfl,rfl⟩ | exact ⟨rfl,by decide⟩ | exact (fun _=>rfl) | exact (fun h=>nomatch h) | (simp;done) | omega | (simp [big];done) | exact Q02 (by omega) | exact Q01 (by omega))))
 all_goals first | rfl | (exfalso;omega)
inductive SteadyR (w h:Int) (c:Bool) (l:List UInt8) (w' h' : Int) (c' : Bool) (l' : List UInt8) (a b d e r:Int):Prop where
 | bad (k:Int):k≠0→Fun F md 7 [frV w h c l,frV w' h' c' l', winV a b d e,.int .i64 r] (noS k)→Fun F md 25 [frV w h c l,frV w' h' c' l', winV a b d e,.int .i64 r] (noS k)→SteadyR w h c l w' h' c' l' a b d e r
 | ok (W H x0 y0 p q R:Nat) (m:Sh3):w=W→h=H→w' = W→h' = H→1≤W→W≤48→1≤H→H≤48→l.length=W * H→l'.length=W * H→a=x0→b=((x0+p:Nat):Int)→d=y0→e=((y0+q:Nat):Int)→x0+p<W→y0+q<H→r=R→R≤12 →
   Best (insS W H x0 y0 p q) (smS W H l l' x0 y0 p q) R m →
   Fun F md 7 [frV w h c l,frV w' h' c' l', winV a b d e,.int .i64 r] (.tup [sh3V m,.int .i64 0])→Fun F md 25 [frV w h c l,frV w' h' c' l', winV a b d e,.int .i64 r] (.tup [sh3V m,.int .i64 0])→SteadyR w h c l w' h' c' l' a b d e r
end Go.Dr.T7
namespace Go.Dr.T7
theorem Qib {W H:Nat} {l:List UInt8} {dx dy:Int} {fill:UInt8} {x y:Int} (h:pixB W H x y) :
  pixV W H (moveL W H l dx dy fill (W * H)) x y=if pixB W H (x - dx) (y - dy) then pixV W H l (x - dx) (y - dy) else (fill.toNat:Int):=by
 have h' := h
 unfold pixB at h'
 obtain ⟨h1,h2,h3,h4⟩:=h'
 obtain ⟨a,rfl⟩:=Int.eq_ofNat_of_zero_le h1
 obtain ⟨b,rfl⟩:=Int.eq_ofNat_of_zero_le h3
 have ha:a<W:=by omega
 have hb:b<H:=by omega
 have hlt:b * W+a<W * H:=Q9f ha hb
 have e1:((b:Int) * (W:Int)+(a:Int)).toNat=b * W+a:=by
  rw [show (b:Int) * (W:Int)+(a:Int)=((b * W+a:Nat):Int) by push_cast;rfl];exact Int.toNat_natCast _
 have e2:pixV W H (moveL W H l dx dy fill (W * H)) a b=((mvAt W H l dx dy fill (b * W+a)).toNat:Int):=by
  conv=>lhs;unfold pixV
  rw [if_pos h,e1]
  unfold moveL
  rw [List.getD_eq_getElem?_getD,List.getElem?_map,List.getElem?_range hlt];rfl
 rw [e2]
 split
 ·rename_i hp;exact (Qio rfl ha hp).symm
 ·rename_i hp;exact (Qeo rfl ha hp).symm
end Go.Dr.T7
namespace Go.Dr.T7
theorem Qas {t:Nat→Int}:∀ {i:Nat},(∀ k<i,t k=0)→rowA t 0 i=0
 | 0,_=>rfl
 | i+1,h=>by simp only [rowA];rw [Qas fun k hk=>h k (by omega),h i (by omega)];rfl
theorem Qbx {t:Nat→Nat→Int} {w:Nat}:∀ {j:Nat},(∀ i<w,∀ k<j,t i k=0)→allS t w j=0
 | 0,_=>rfl
 | j+1,h=>by
  simp only [allS]
  rw [Qbx fun i hi k hk=>h i hi k (by omega)]
  exact Qas fun k hk=>h k hk j (by omega)
theorem Qee {t:Nat→Int} {a:Int} (ht:∀ i,0≤t i∧t i≤255) (ha:0≤a):∀ {i:Nat},rowA t a i=0→a=0∧∀ k<i,t k=0
 | 0,h=>⟨h,fun k hk=>absurd hk (Nat.not_lt_zero k)⟩
 | i+1,h=>by
  simp only [rowA] at h
  have h1:=(Q2q ht (a:=a) i).1
  have h2:=ht i
  obtain ⟨h3,h4⟩:=Qee ht ha (i:=i) (by omega)
  refine ⟨h3,fun k hk => ?_⟩
  by_cases e:k=i
  ·subst e;omega
  ·exact h4 k (by omega)
theorem Qfm {t:Nat→Nat→Int} {w:Nat} (hw:w≤48) (ht:∀ i j,0≤t i j∧t i j≤255):∀ {j:Nat},allS t w j=0→∀ i<w,∀ k<j,t i k=0
 | 0,_,_,_,k,hk=>absurd hk (Nat.not_lt_zero k)
 | j+1,h,i,hi,k,hk=>by
  simp only [allS] at h
  obtain ⟨h1,h2⟩:=Qee (fun i=>ht i j) (Q2z hw ht j).1 h
  by_cases e:k=j
  ·subst e;exact h2 i hi
  ·exact Qfm hw ht h1 i hi k (by omega)
theorem back_zero {W H:Nat} {l A:List UInt8} {x0 y0 p q:Nat} (hx:x0+p<W) (hy:y0+q<H) (hW:W≤48) {x y:Int} (fill:UInt8) (hin:insS W H x0 y0 p q x y) (h0:smS W H l A x0 y0 p q x y=0):smS W H l (moveL W H A (0 - x) (0 - y) fill (W * H)) x0 y0 p q 0 0=0:=by
 refine Qbx fun i hi k hk => ?_
 have hz:=Qfm (t:=tS W H l A x0 y0 (pxS x0 x) (pxS y0 y)) (by omega) (fun i j=>Q3q W H l A x0 y0 _ _ i j) h0 i hi k hk
 have hb:=Q38.1 hin i (by omega) k (by omega)
 have e:=Qib (l:=A) (dx:=0 - x) (dy:=0 - y) (fill:=fill) (x:=((x0+i:Nat):Int)) (y:=((y0+k:Nat):Int)) (W:=W) (H:=H) (by unfold pixB;omega)
 rw [show ((x0+i:Nat):Int) - (0 - x)=pxS x0 x i by unfold pxS;omega,show ((y0+k:Nat):Int) - (0 - y)=pxS y0 y k by unfold pxS;omega,if_pos hb] at e
 unfold tS at hz ⊢
 rw [show pxS x0 0 i=((x0+i:Nat):Int) by unfold pxS;omega,show pxS y0 0 k=((y0+k:Nat):Int) by unfold pxS;omega,e]
 exact hz
end Go.Dr.T7
namespace Go.Dr.T7
end Go.Dr.T7
namespace Go.Dr.T7
theorem steady_cases {W H:Nat} (h1:1≤W) (h2:W≤48) (h3:1≤H) (h4:H≤48) (a b d e r:Int) :
  (∃ k:Int,k≠0∧∀ (c c' : Bool) (l l' : List UInt8),l.length=W * H→l'.length=W * H→Fun F md 7 [frV W H c l,frV W H c' l', winV a b d e,.int .i64 r] (noS k)) ∨
  (∃ x0 p y0 q R:Nat,a=(x0:Int)∧b=((x0+p:Nat):Int)∧d=(y0:Int)∧e=((y0+q:Nat):Int)∧x0+p<W∧y0+q<H∧R≤12∧r=(R:Int) ∧
   ∀ (c c' : Bool) (l l' : List UInt8),l.length=W * H→l'.length=W * H→∃ m:Sh3,Best (insS W H x0 y0 p q) (smS W H l l' x0 y0 p q) R m∧Fun F md 7 [frV W H c l,frV W H c' l', winV a b d e,.int .i64 r] (.tup [sh3V m,.int .i64 0])):=by
 have hck:∀ (l:List UInt8),l.length=W * H→checkL W H l.length=0:=fun l hl=>check_ok h1 h2 h3 h4 hl
 cases hout:outA W H a b d e with
 | true=>exact .inl ⟨2,by decide,fun c c' l l' hl hl' => Qfy h2 h4 (hck l hl) (hck l' hl') (fun h=>by rw [hout] at h;cases h.2.2) r⟩
 | false =>
  by_cases hr:0≤r∧r≤12
  ·have hb:0≤a∧a≤b∧b<W∧0≤d∧d≤e∧e<H:=by
    unfold outA at hout
    simp only [Bool.not_eq_false', Bool.and_eq_true,decide_eq_true_eq] at hout
    omega
   obtain ⟨x0,rfl⟩:=Int.eq_ofNat_of_zero_le hb.1
   obtain ⟨p,hp⟩:=Int.eq_ofNat_of_zero_le (show 0≤b - x0 by omega)
   obtain ⟨y0,rfl⟩:=Int.eq_ofNat_of_zero_le hb.2.2.2.1
   obtain ⟨q,hq⟩:=Int.eq_ofNat_of_zero_le (show 0≤e - y0 by omega)
   obtain ⟨R,rfl⟩:=Int.eq_ofNat_of_zero_le hr.1
   obtain rfl:b=((x0+p:Nat):Int):=by omega
   obtain rfl:e=((y0+q:Nat):Int):=by omega
   have hR:R≤12:=by omega
   refine .inr ⟨x0,p,y0,q,R,rfl,rfl,rfl,rfl,by omega,by omega,hR,rfl,fun c c' l l' hl hl' => ?_⟩
   obtain ⟨m,hm⟩:=Qkx (Q:=insS W H x0 y0 p q) (sm:=smS W H l l' x0 y0 p q) (r:=R) (by omega) (by unfold insS;omega)
   exact ⟨m,hm,Qhr h1 h2 h3 h4 hl hl' (by omega) (by omega) hR hm⟩
  ·exact .inl ⟨7,by decide,fun c c' l l' hl hl' => Qfx h2 h4 (hck l hl) (hck l' hl') hout hr⟩
end Go.Dr.T7
namespace Go.Dr.T
theorem Qcp {N W H i x:Nat} {s:Sp} (hi:i<N):tO N W H s i x=true ↔ T7.pixB W H ((x % W:Nat) - s.a) ((x / W:Nat) - s.b):=by
 unfold tO oldB outB T7.pixB
 simp only [Bool.not_eq_true', Bool.or_eq_false_iff,decide_eq_false_iff_not]
 omega
theorem Qim {l:List Fm} {W H i:Nat} {s:Sp} {f:Fm} {fill:UInt8} (o:FOk l W H) (hf:l[i]?=some f) (h1:s.k=1) (hk:∀ x y,Q37 s (i:Int) x y=false) (hc:s.c=((fill.toNat:Nat):Int)):(List.range (W * H)).map (newU l W H s i)=T7.moveL W H f.p s.a s.b fill (W * H):=by
 unfold T7.moveL
 refine List.map_congr_left fun x hx => ?_
 have hx:=List.mem_range.1 hx
 have hi:=(List.getElem?_eq_some_iff.1 hf).1
 unfold T7.mvAt
 by_cases hin:tO l.length W H s i x=true
 ·rw [Qg6 o hf h1 (hk _ _) hx hin,if_pos ((Qcp hi).1 hin)]
  have e:(((x / W * W+x % W:Nat):Nat):Int)=(x:Int):=by rw [Nat.div_add_mod']
  rw [Int.natCast_add,Int.natCast_mul] at e
  unfold tQ
  congr 2
  rw [Int.sub_mul]
  omega
 ·rw [if_neg fun h=>hin ((Qcp hi).2 h)]
  have hno:oldB l.length W H i ((x % W:Nat) - s.a) ((x / W:Nat) - s.b)=false:=by
   unfold tO at hin
   exact Bool.eq_false_iff.2 hin
  unfold newU newP newK
  rw [if_neg (by rw [hk];decide),if_pos h1,orI,if_neg (by rw [hno];decide),hc,Q6i (UInt8.toNat_lt fill)]
  simp
end Go.Dr.T
namespace Go.Dr.T
def mvF (W H:Nat) (p:List UInt8) (fill:UInt8) (d:Int × Int):Fm:=⟨false,W,H,T7.moveL W H p d.1 d.2 fill (W * H)⟩
def shF (c:Bool) (W H:Nat) (p:List UInt8) (fill:UInt8) (D:List (Int × Int)):List Fm:=⟨c,W,H,p⟩ :: D.map (mvF W H p fill)
def shD (Bs:List (Int × Int)):List (Int × Int):=(Bs.take 11).map fun b=>(b.1.tmod 13,b.2.tmod 13)
section
variable {c:Bool} {W H:Nat} {p:List UInt8} {fill:UInt8} {D:List (Int × Int)}
theorem Q2l:(shF c W H p fill D).length=D.length+1:=by simp [shF]
theorem Qeb {i:Nat} {d:Int × Int} (h:D[i]?=some d):(shF c W H p fill D)[i+1]?=some (mvF W H p fill d):=by
 unfold shF
 rw [List.getElem?_cons_succ,List.getElem?_map,h]
 rfl
theorem Qls {i:Nat} {d:Int × Int} (h:D[i]?=some d):shF c W H p fill (D.take (i+1))=shF c W H p fill (D.take i)++[mvF W H p fill d]:=by
 unfold shF
 rw [List.take_add_one,h,List.map_append]
 rfl
theorem Qap (h1:1≤W∧W≤48) (h2:1≤H∧H≤48) (hp:p.length=W * H) (hD:D.length≤11):FOk (shF c W H p fill D) W H:=by
 refine ⟨by rw [Q2l];omega,by rw [Q2l];omega,h1,h2,fun f hf => ?_⟩
 unfold shF at hf
 rcases List.mem_cons.1 hf with rfl | hf
 ·exact ⟨rfl,rfl,hp⟩
 ·obtain ⟨d,_,rfl⟩:=List.mem_map.1 hf
  exact ⟨rfl,rfl,by unfold mvF;exact T7.moveL_length ..⟩
theorem Qhw {Bs:List (Int × Int)}:(shD Bs).length=min 11 Bs.length:=by simp [shD]
theorem shD_at {Bs:List (Int × Int)} {i:Nat} {b:Int × Int} (h:Bs[i]?=some b) (hi:i<11):(shD Bs)[i]?=some (b.1.tmod 13,b.2.tmod 13):=by
 unfold shD
 rw [List.getElem?_map,List.getElem?_take_of_lt hi,h]
 rfl
theorem Qny (a:Int) : -12≤a.tmod 13∧a.tmod 13≤12:=by
 constructor
 ·have:=Int.lt_tmod_of_pos a (show (0:Int)<13 by decide)
  omega
 ·have:=Int.tmod_lt_of_pos a (show (0:Int)<13 by decide)
  omega
theorem Qpn {Bs:List (Int × Int)}:∀ d∈shD Bs,(-12≤d.1∧d.1≤12)∧(-12≤d.2∧d.2≤12):=fun d hd=>by
 unfold shD at hd
 obtain ⟨b,_,rfl⟩:=List.mem_map.1 hd
 exact ⟨Qny _,Qny _⟩
end
theorem fmC_app:∀ {l:List Fm} {f:Fm},fmC (l++[f])=fmC l++[.int .i64 f.w,.int .i64 f.h,.sl f.c f.p.length (ofBytes f.p)]
 | [],_=>rfl
 | _ :: l,f=>by simp only [List.cons_append,fmC,fmC_app (l:=l)]
theorem Qju {n:Nat}:∀ l:List Fm,blos n (fmC l)=true
 | []=>rfl
 | _ :: l=>by have:=Qju (n:=n) l;simp only [fmC,blos,V.blo,Bool.true_and];exact this
structure WF (fv sv:List V) (F:List Fm) (v:V) (G:List B):Prop where
 cl:Cl G
 le:2≤G.length
 b0:bget G 0=some (.blk fv false)
 b1:bget G 1=some (.blk sv false)
 film:(F.length=1∧v = .sl true 1 (fmC F))∨∃ r,2≤r∧2≤F.length∧v = .ms 3 r (F.length * 3) 0 F.length false∧bget G r=some (.blk (fmC F) false)
section
variable {fv sv:List V} {F:List Fm} {v:V} {G:List B}
theorem WF.norm {mk:List Bool} {tm:List V} {m:Nat} (e:WF fv sv F v G) (hm:2≤m) (hm2:m≤G.length) {j:Nat} (hv:tg (Q0r mk tm) j=v):WF fv sv F v (norm mk m ⟨tm,G⟩).h:=by
 refine ⟨Q4e hm2 e.cl,Nat.le_trans hm (Q1f (s:=⟨tm,G⟩) hm2),Q3s hm2 e.cl (by omega) e.b0,Q3s hm2 e.cl (by omega) e.b1,?_⟩
 rcases e.film with h | ⟨r,r1,r2,rfl,r5⟩
 ·exact .inl h
 ·exact .inr ⟨r,r1,r2,rfl,Q1m (i:=j) hm2 (fun k hk=>by rw [hv] at hk;exact of_decide_eq_true hk) r5⟩
theorem WF.app {X:List B} (e:WF fv sv F v G) (hX:hasc G.length X):WF fv sv F v (G++X):=by
 refine ⟨Q1z e.cl hX,by rw [List.length_append];have:=e.le;omega,bget_app e.b0,bget_app e.b1,?_⟩
 rcases e.film with h | ⟨r,r1,r2,rfl,r5⟩
 ·exact .inl h
 ·exact .inr ⟨r,r1,r2,rfl,bget_app r5⟩
theorem WF.first {g:Fm} {k n:Nat} (e:WF fv sv F v G) (h1:F.length=1) (hk:k=G.length+1) (hn:n=6):WF fv sv (F++[g]) (.ms 3 k n 0 2 false) (G++[.unborn,.blk (fmC F++[.int .i64 g.w,.int .i64 g.h,.sl g.c g.p.length (ofBytes g.p)]) false]):=by
 subst hk hn
 rw [← fmC_app]
 have hX:hasc G.length [B.unborn,B.blk (fmC (F++[g])) false]:=⟨rfl,by show (false || blos _ _)=true;rw [Bool.false_or];exact Qju _,trivial⟩
 have hl:=e.le
 exact ⟨Q1z e.cl hX,by rw [List.length_append];omega,bget_app e.b0,bget_app e.b1,.inr ⟨G.length+1,by omega,by rw [List.length_append,h1];exact Nat.le_refl 2,by rw [List.length_append,h1];rfl,bget_new (i:=1)⟩⟩
theorem WF.more {g:Fm} {r n m:Nat} (e:WF fv sv F (.ms 3 r (F.length * 3) 0 F.length false) G) (hn:n=F.length * 3+3) (hm:m=F.length+1):WF fv sv (F++[g]) (.ms 3 r n 0 m false) (bset G r (.blk (fmC F++[.int .i64 g.w,.int .i64 g.h,.sl g.c g.p.length (ofBytes g.p)]) false)):=by
 subst hn hm
 rcases e.film with ⟨_,h⟩ | ⟨r', r1,r2,h,r5⟩
 ·cases h
 cases h
 have hr:=Q03 r5
 rw [← fmC_app]
 exact ⟨e.cl.set (by show (false || blos _ _)=true;rw [Bool.false_or];exact Qju _),by rw [bset_len];exact e.le,by rw [bset_other (by omega)];exact e.b0,by rw [bset_other (by omega)];exact e.b1,.inr ⟨r,r1,by rw [List.length_append];omega,by rw [List.length_append];simp only [List.length_cons,List.length_nil];rw [Nat.add_mul],bget_same hr⟩⟩
end
end Go.Dr.T
