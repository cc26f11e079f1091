/- Top, of chapter 08: what the kinds of steps make of a pixel: the program's. -/
import Derived.Test.YtbnmdlnkhghbpaaGreatDoorG4
set_option maxRecDepth 100000
set_option maxHeartbeats 20000000
namespace Go.Dr.T
def lvZ (n:Int):Int:=min 255 (max 0 n)
def apI (a b:Int):Int:=max (a-b) (b-a)
def grH (a:Int) (i n:Nat):Int:=(a+1)*((i:Int)+3)*((n:Int)+7)*7919+((n:Int)+5)*((n:Int)+5)*104729
def grT (a b:Int) (i n:Nat):Int:=((grH a i n).tmod 65521).tmod (2*b+1)
def orI (c:Bool) (a b:Int):Int:=if c=true then a else b
def scI (W H N:Nat) (s:Sp) (i x y:Nat) (v L R:Int):Int :=
 if outB x s.a s.b=true then v else if oldB N W H i (s.a-1) y=false then R else if oldB N W H i (s.b+1) y=false then L
 else (L*(s.b+1-x)+R*(x+1-s.a)).tdiv (s.b+2-s.a)
def duB (s:Sp) (b1 b2:Bool) (p q v:Int):Bool:=b1&&b2&&decide (apI p q≤s.b)&&decide (apI v p≥s.a)&&decide (apI v q≥s.a)
def newK (l:List Fm) (W H:Nat) (s:Sp) (i x y n v:Nat):Int :=
 if s.k=1 then orI (oldB l.length W H i (x-s.a) (y-s.b)) (oldN l W H i (x-s.a) (y-s.b)) s.c
 else if s.k=2 then (((s.tb.getD v 0).toNat:Nat):Int)
 else if s.k=3 then scI W H l.length s i x y v (oldN l W H i (s.a-1) y) (oldN l W H i (s.b+1) y)
 else if s.k=4 then orI (duB s (oldB l.length W H (i-1) x y) (oldB l.length W H (i+1) x y) (oldN l W H (i-1) x y) (oldN l W H (i+1) x y) v) ((oldN l W H (i-1) x y+oldN l W H (i+1) x y).tdiv 2) v
 else if s.k=5 then lvZ (v+grT s.a s.b i n-s.b)
 else lvZ (v+s.a)
theorem Qrl {n:Int}:Fun FB md 144 [.int .i64 n] (.int .i64 (lvZ n)):=by
 refine Q04 rfl rfl ?_
 repeat' ((conv=>whnf);first|refine Bnd.any ?_|refine Get.mk _ rfl ?_|refine Leaves.of ?_|refine Vw.int ?_)
 all_goals first|rfl|(exfalso;omega)
theorem Qbx {a b:Int} (ha:0≤a∧a≤255) (hb:0≤b∧b≤255):Fun FB md 143 [.int .i64 a,.int .i64 b] (.int .i64 (apI a b)):=by
 refine Q04 rfl rfl ?_
 repeat' ((conv=>whnf);first|refine zB ?_|refine Bnd.any ?_|refine Get.mk _ rfl ?_|refine Leaves.of ?_|refine Vw.int ?_)
 all_goals first|rfl|(exfalso;omega)
theorem Qp0 {s:Sp} {c:Bool} {l:List Fm} {W H i x y n v:Nat} (o:FOk l W H) (hx:x<48) (hy:y<48) (ha : -47≤s.a∧s.a≤47) (hb : -47≤s.b∧s.b≤47):Fun FB md 121 [.rp (wkC s c l i x y n) 0,.int .i64 (v:Nat)] (.int .i64 (orI (oldB l.length W H i (x-s.a) (y-s.b)) (oldN l W H i (x-s.a) (y-s.b)) s.c)):=by
 have k1:=Q82 (s:=s) (c:=c) (fi:=i) (fx:=x) (fy:=y) (fn:=n) (i:=i) (x:=x-s.a) (y:=y-s.b) o
 unfold orI
 generalize oldB l.length W H i (x-s.a) (y-s.b)=q at *
 generalize oldN l W H i (x-s.a) (y-s.b)=u at *
 refine Q04 rfl rfl ?_
 cases q
 all_goals
  repeat' ((conv=>whnf);first|refine Br.t ?_|refine Br.f ?_|refine zB ?_|refine zC k1 ?_|refine Get.mk _ rfl ?_|refine Leaves.of ?_|refine Vw.int ?_)
  all_goals first|rfl|(exfalso;omega)
theorem Qss {s:Sp} {c:Bool} {l:List Fm} {i x y n v:Nat} (hv:v<256) (ht:s.tb.length=256):Fun FB md 122 [.rp (wkC s c l i x y n) 0,.int .i64 (v:Nat)] (.int .i64 ((s.tb.getD v 0).toNat:Nat)):=by
 have hc:=Q5f (p:=s.tb) (n:=v) (by omega)
 have hlt:=UInt8.toNat_lt (s.tb.getD v 0)
 have hvl:v≤s.tb.length-1:=by omega
 have h0l:0<s.tb.length:=by omega
 generalize (s.tb.getD v 0).toNat=u at *
 refine Q04 rfl rfl ?_
 repeat' ((conv=>whnf);first|refine zB ?_|refine Get.mk _ hc ?_|refine Idx.nat hvl ?_|refine Req.mk h0l ?_|refine Get.mk _ rfl ?_|refine Leaves.of ?_|refine Vw.int ?_)
 all_goals first|rfl|(exfalso;omega)
theorem Qig {s:Sp} {c:Bool} {l:List Fm} {W H i x y n v:Nat} (o:FOk l W H) (hx:x<W) (hy:y<H) (ha:0≤s.a∧s.a≤s.b) (hb:s.b<W):Fun FB md 123 [.rp (wkC s c l i x y n) 0,.int .i64 (v:Nat)] (.int .i64 (scI W H l.length s i x y v (oldN l W H i (s.a-1) y) (oldN l W H i (s.b+1) y))):=by
 have q1:=Q0z (n:=(x:Int)) (lo:=s.a) (hi:=s.b)
 have k1:=Q82 (s:=s) (c:=c) (fi:=i) (fx:=x) (fy:=y) (fn:=n) (i:=i) (x:=s.a-1) (y:=y) o
 have k2:=Q82 (s:=s) (c:=c) (fi:=i) (fx:=x) (fy:=y) (fn:=n) (i:=i) (x:=s.b+1) (y:=y) o
 have o3:=o.w
 have r1:=Q79 (l:=l) (W:=W) (H:=H) (i:=i) (x:=s.a-1) (y:=y)
 have r2:=Q79 (l:=l) (W:=W) (H:=H) (i:=i) (x:=s.b+1) (y:=y)
 unfold scI
 cases e1:outB (x:Int) s.a s.b<;>rw [e1] at q1
 rotate_left
 ·rw [if_pos rfl]
  refine Q04 rfl rfl ?_
  repeat' ((conv=>whnf);first|refine Br.t ?_|refine zC q1 ?_|refine Get.mk _ rfl ?_|refine Leaves.of ?_|refine Vw.int ?_)
  all_goals first|rfl|(exfalso;omega)
 rw [if_neg (by decide)]
 simp only [outB,jL,jI] at e1
 generalize oldN l W H i (s.a-1) y=L at *
 generalize oldN l W H i (s.b+1) y=R at *
 generalize oldB l.length W H i (s.a-1) y=b1 at *
 generalize oldB l.length W H i (s.b+1) y=b2 at *
 have p1:0≤L*(s.b+1-x)∧L*(s.b+1-x)≤255*48:=⟨Int.mul_nonneg r1.1 (by omega),Int.mul_le_mul r1.2 (by omega) (by omega) (by omega)⟩
 have p2:0≤R*(x+1-s.a)∧R*(x+1-s.a)≤255*48:=⟨Int.mul_nonneg r2.1 (by omega),Int.mul_le_mul r2.2 (by omega) (by omega) (by omega)⟩
 have w1:IntKind.i64.wrap (L*(s.b+1-x))=L*(s.b+1-x):=wrap_i64 (by omega) (by omega)
 have w2:IntKind.i64.wrap (R*(x+1-s.a))=R*(x+1-s.a):=wrap_i64 (by omega) (by omega)
 have w3:IntKind.i64.wrap (L*(s.b+1-x)+R*(x+1-s.a))=L*(s.b+1-x)+R*(x+1-s.a):=wrap_i64 (by omega) (by omega)
 have w4:IntKind.i64.wrap ((L*(s.b+1-x)+R*(x+1-s.a)).tdiv (s.b+2-s.a))=(L*(s.b+1-x)+R*(x+1-s.a)).tdiv (s.b+2-s.a):=by
  have hz:0≤L*(s.b+1-x)+R*(x+1-s.a)∧L*(s.b+1-x)+R*(x+1-s.a)≤24480:=by omega
  generalize L*(s.b+1-x)+R*(x+1-s.a)=z at *
  have h0:0≤z:=hz.1
  have:0≤z.tdiv (s.b+2-s.a):=Int.tdiv_nonneg h0 (by omega)
  have:z.tdiv (s.b+2-s.a)≤z:=Int.tdiv_le_self _ h0
  exact wrap_i64 (by omega) (by omega)
 have hd:s.b+2-s.a≠0:=by omega
 refine Q04 rfl rfl ?_
 cases b1<;>cases b2
 all_goals
  repeat' ((conv=>whnf);first|refine Bnd.eq w1 ?_|refine Bnd.eq w2 ?_|refine Bnd.eq w3 ?_|refine Bnd.eq w4 ?_|refine Br.t ?_|refine Br.f ?_|refine zB ?_|refine Req.mk hd ?_|refine zC q1 ?_|refine zC k1 ?_|refine zC k2 ?_|refine Get.mk _ rfl ?_|refine Leaves.of ?_|refine Vw.int ?_)
  all_goals first|rfl|(exfalso;omega)
theorem Que {s:Sp} {c:Bool} {l:List Fm} {W H i x y n v:Nat} (o:FOk l W H) (hi:i<12) (hv:v<256):Fun FB md 124 [.rp (wkC s c l i x y n) 0,.int .i64 (v:Nat)] (.int .i64 (orI (duB s (oldB l.length W H (i-1) x y) (oldB l.length W H (i+1) x y) (oldN l W H (i-1) x y) (oldN l W H (i+1) x y) v) ((oldN l W H (i-1) x y+oldN l W H (i+1) x y).tdiv 2) v)):=by
 have k1:=Q82 (s:=s) (c:=c) (fi:=i) (fx:=x) (fy:=y) (fn:=n) (i:=(i:Int)-1) (x:=x) (y:=y) o
 have k2:=Q82 (s:=s) (c:=c) (fi:=i) (fx:=x) (fy:=y) (fn:=n) (i:=(i:Int)+1) (x:=x) (y:=y) o
 have r1:=Q79 (l:=l) (W:=W) (H:=H) (i:=(i:Int)-1) (x:=x) (y:=y)
 have r2:=Q79 (l:=l) (W:=W) (H:=H) (i:=(i:Int)+1) (x:=x) (y:=y)
 generalize oldN l W H ((i:Int)-1) x y=p at *
 generalize oldN l W H ((i:Int)+1) x y=q at *
 generalize oldB l.length W H ((i:Int)-1) x y=b1 at *
 generalize oldB l.length W H ((i:Int)+1) x y=b2 at *
 have m1:=Qbx (a:=p) (b:=q) r1 r2
 have m2:=Qbx (a:=(v:Int)) (b:=p) (by omega) r1
 have m3:=Qbx (a:=(v:Int)) (b:=q) (by omega) r2
 unfold duB orI
 generalize apI p q=z1 at *
 generalize apI v p=z2 at *
 generalize apI v q=z3 at *
 have w4:IntKind.i64.wrap ((p+q).tdiv 2)=(p+q).tdiv 2:=by
  have:0≤(p+q).tdiv 2:=Int.tdiv_nonneg (by omega) (by omega)
  have:(p+q).tdiv 2≤p+q:=Int.tdiv_le_self _ (by omega)
  exact wrap_i64 (by omega) (by omega)
 have hd:(2:Int)≠0:=by decide
 refine Q04 rfl rfl ?_
 cases b1
 ·simp only [Bool.false_and,Bool.false_eq_true,if_false]
  repeat' ((conv=>whnf);first|refine Br.f ?_|refine zB ?_|refine zC k1 ?_|refine zC k2 ?_|refine Get.mk _ rfl ?_|refine Leaves.of ?_|refine Vw.int ?_)
  all_goals first|rfl|(exfalso;omega)
 cases b2
 ·simp only [Bool.true_and,Bool.false_and,Bool.false_eq_true,if_false]
  repeat' ((conv=>whnf);first|refine Br.t ?_|refine Br.f ?_|refine zB ?_|refine zC k1 ?_|refine zC k2 ?_|refine Get.mk _ rfl ?_|refine Leaves.of ?_|refine Vw.int ?_)
  all_goals first|rfl|(exfalso;omega)
 simp only [Bool.true_and]
 by_cases h1:z1≤s.b
 rotate_left
 ·simp only [h1,decide_false,Bool.false_and,Bool.false_eq_true,if_false]
  repeat' ((conv=>whnf);first|refine Br.t ?_|refine Br.f ?_|refine zF ?_|refine zB ?_|refine zC k1 ?_|refine zC k2 ?_|refine zC m1 ?_|refine Get.mk _ rfl ?_|refine Leaves.of ?_|refine Vw.int ?_)
  all_goals first|rfl|(exfalso;omega)
 by_cases h2:z2≥s.a
 rotate_left
 ·simp only [h1,h2,decide_true,decide_false,Bool.true_and,Bool.false_and,Bool.false_eq_true,if_false]
  repeat' ((conv=>whnf);first|refine Br.t ?_|refine Br.f ?_|refine zT ?_|refine zF ?_|refine zB ?_|refine zC k1 ?_|refine zC k2 ?_|refine zC m1 ?_|refine zC m2 ?_|refine Get.mk _ rfl ?_|refine Leaves.of ?_|refine Vw.int ?_)
  all_goals first|rfl|(exfalso;omega)
 by_cases h3:z3≥s.a
 rotate_left
 ·simp only [h1,h2,h3,decide_true,decide_false,Bool.true_and,Bool.false_eq_true,if_false]
  repeat' ((conv=>whnf);first|refine Br.t ?_|refine zT ?_|refine zF ?_|refine zB ?_|refine zC k1 ?_|refine zC k2 ?_|refine zC m1 ?_|refine zC m2 ?_|refine zC m3 ?_|refine Get.mk _ rfl ?_|refine Leaves.of ?_|refine Vw.int ?_)
  all_goals first|rfl|(exfalso;omega)
 simp only [h1,h2,h3,decide_true,Bool.true_and,if_true]
 repeat' ((conv=>whnf);first|refine Bnd.eq w4 ?_|refine Br.t ?_|refine zT ?_|refine zB ?_|refine Req.mk hd ?_|refine zC k1 ?_|refine zC k2 ?_|refine zC m1 ?_|refine zC m2 ?_|refine zC m3 ?_|refine Get.mk _ rfl ?_|refine Leaves.of ?_|refine Vw.int ?_)
 all_goals first|rfl|(exfalso;omega)
theorem Qml {a:Int} {i n:Nat} (ha:0≤a∧a≤1000) (hi:i<12) (hn:n<2304):(0≤(a+1)*((i:Int)+3)∧(a+1)*((i:Int)+3)≤1001*14)∧(0≤(a+1)*((i:Int)+3)*((n:Int)+7)∧(a+1)*((i:Int)+3)*((n:Int)+7)≤1001*14*2310)∧(0≤((n:Int)+5)*((n:Int)+5)∧((n:Int)+5)*((n:Int)+5)≤2308*2308):=by
 have p1:0≤(a+1)*((i:Int)+3)∧(a+1)*((i:Int)+3)≤1001*14:=⟨Int.mul_nonneg (by omega) (by omega),Int.mul_le_mul (by omega) (by omega) (by omega) (by omega)⟩
 exact ⟨p1,⟨Int.mul_nonneg p1.1 (by omega),Int.mul_le_mul p1.2 (by omega) (by omega) (by omega)⟩,⟨Int.mul_nonneg (by omega) (by omega),Int.mul_le_mul (by omega) (by omega) (by omega) (by omega)⟩⟩
theorem Qu6 {a b:Int} {i n:Nat} (ha:0≤a∧a≤1000) (hb:0≤b∧b≤40) (hi:i<12) (hn:n<2304):0≤grT a b i n∧grT a b i n≤2*b:=by
 obtain ⟨p1,p2,p3⟩:=Qml (i:=i) (n:=n) ha hi hn
 have h0:0≤grH a i n:=by unfold grH;omega
 have h1:0≤(grH a i n).tmod 65521:=Int.tmod_nonneg _ h0
 have h2:0≤grT a b i n:=Int.tmod_nonneg _ h1
 have h3:grT a b i n<2*b+1:=Int.tmod_lt_of_pos _ (by omega)
 omega
theorem Qpv {s:Sp} {c:Bool} {l:List Fm} {i x y n v:Nat} (ha:0≤s.a∧s.a≤1000) (hb:0≤s.b∧s.b≤40) (hi:i<12) (hn:n<2304) (hv:v<256):Fun FB md 125 [.rp (wkC s c l i x y n) 0,.int .i64 (v:Nat)] (.int .i64 (lvZ (v+grT s.a s.b i n-s.b))):=by
 obtain ⟨p1,p2,p3⟩:=Qml (i:=i) (n:=n) ha hi hn
 have t1:=Qu6 (i:=i) (n:=n) ha hb hi hn
 have k1:=Qrl (n:=v+grT s.a s.b i n-s.b)
 have w1:IntKind.i64.wrap (v+grT s.a s.b i n)=v+grT s.a s.b i n:=wrap_i64 (by omega) (by omega)
 have w2:IntKind.i64.wrap (v+grT s.a s.b i n-s.b)=v+grT s.a s.b i n-s.b:=wrap_i64 (by omega) (by omega)
 unfold grT grH at *
 have hd:(65521:Int)≠0:=by decide
 have hd2:2*s.b+1≠0:=by omega
 have a1:IntKind.i64.wrap ((s.a+1)*((i:Int)+3))=(s.a+1)*((i:Int)+3):=wrap_i64 (by omega) (by omega)
 have a2:IntKind.i64.wrap ((s.a+1)*((i:Int)+3)*((n:Int)+7))=(s.a+1)*((i:Int)+3)*((n:Int)+7):=wrap_i64 (by omega) (by omega)
 have a3:IntKind.i64.wrap ((s.a+1)*((i:Int)+3)*((n:Int)+7)*7919)=(s.a+1)*((i:Int)+3)*((n:Int)+7)*7919:=wrap_i64 (by omega) (by omega)
 have a4:IntKind.i64.wrap (((n:Int)+5)*((n:Int)+5))=((n:Int)+5)*((n:Int)+5):=wrap_i64 (by omega) (by omega)
 have a5:IntKind.i64.wrap (((n:Int)+5)*((n:Int)+5)*104729)=((n:Int)+5)*((n:Int)+5)*104729:=wrap_i64 (by omega) (by omega)
 have a6:IntKind.i64.wrap ((s.a+1)*((i:Int)+3)*((n:Int)+7)*7919+((n:Int)+5)*((n:Int)+5)*104729)=(s.a+1)*((i:Int)+3)*((n:Int)+7)*7919+((n:Int)+5)*((n:Int)+5)*104729:=wrap_i64 (by omega) (by omega)
 refine Q04 rfl rfl ?_
 repeat' ((conv=>whnf);first|refine Bnd.eq w1 ?_|refine Bnd.eq w2 ?_|refine Bnd.eq a1 ?_|refine Bnd.eq a2 ?_|refine Bnd.eq a3 ?_|refine Bnd.eq a4 ?_|refine Bnd.eq a5 ?_|refine Bnd.eq a6 ?_|refine zB ?_|refine Req.mk hd ?_|refine Req.mk hd2 ?_|refine zC k1 ?_|refine Bnd.any ?_|refine Get.mk _ rfl ?_|refine Leaves.of ?_|refine Vw.int ?_)
 all_goals first|rfl|(exfalso;omega)
theorem Qtq {s:Sp} {c:Bool} {l:List Fm} {i x y n v:Nat} (ha : -255≤s.a∧s.a≤255) (hv:v<256):Fun FB md 126 [.rp (wkC s c l i x y n) 0,.int .i64 (v:Nat)] (.int .i64 (lvZ (v+s.a))):=by
 have k1:=Qrl (n:=v+s.a)
 refine Q04 rfl rfl ?_
 repeat' ((conv=>whnf);first|refine zB ?_|refine zC k1 ?_|refine Get.mk _ rfl ?_|refine Leaves.of ?_|refine Vw.int ?_)
 all_goals first|rfl|(exfalso;omega)
structure SOk (s:Sp) (N W H:Nat):Prop where
 k:1≤s.k∧s.k≤6
 fr:0≤s.fr∧s.fr≤s.un
 un:s.un<(N:Int)
 kp:s.kp.length≤6
 box:∀ b∈s.kp,Q1q W H b=false
 odd:oddS W s=false
 tb:s.k=2→s.tb.length=256
theorem SOk.of {s:Sp} {N W H:Nat} (h:spE N W H s=0):SOk s N W H:=by
 unfold spE at h
 split at h
 ·exact absurd h (by decide)
 rename_i h1
 split at h
 ·exact absurd h (by decide)
 rename_i h2
 split at h
 ·exact absurd h (by decide)
 rename_i h3
 split at h
 ·exact absurd h (by decide)
 rename_i h4
 by_cases h5:(s.tb.length:Int)≠(if s.k=2 then 256 else 0)
 ·rw [if_pos h5] at h
  exact absurd h (by decide)
 have h2a:¬ outB s.un 0 ((N:Int)-1)=true:=fun e=>h2 (.inl e)
 have h2b:¬ outB s.fr 0 s.un=true:=fun e=>h2 (.inr e)
 simp only [outB,Bool.or_eq_true,jG] at h1 h2a h2b
 refine ⟨by omega,by omega,by omega,by omega,fun b hb=>?_,?_,fun e=>?_⟩
 ·cases e:Q1q W H b with
  | false=>rfl
  | true=>exact absurd (.inl (List.any_eq_true.2 ⟨b,hb,e⟩)) h4
 ·cases e:oddS W s with
  | false=>rfl
  | true=>exact absurd (.inr e) h4
 ·rw [if_pos e] at h5
  omega
theorem SOk.k1 {s:Sp} {N W H:Nat} (o:SOk s N W H) (h:s.k=1):(-47≤s.a∧s.a≤47)∧(-47≤s.b∧s.b≤47)∧(0≤s.c∧s.c≤255):=by
 have:=o.odd
 simp only [oddS,h,loK,hiK,outB,if_true,jL,jI] at this
 omega
theorem SOk.k3 {s:Sp} {N W H:Nat} (o:SOk s N W H) (h:s.k=3):(0≤s.a∧s.a≤s.b)∧s.b<W∧s.b-s.a+1≠W:=by
 have:=o.odd
 simp [oddS,h,loK,hiK,outB] at this
 omega
theorem SOk.k4 {s:Sp} {N W H:Nat} (o:SOk s N W H) (h:s.k=4):(1≤s.a∧s.a≤255)∧(0≤s.b∧s.b≤255):=by
 have:=o.odd
 simp [oddS,h,loK,hiK,outB] at this
 omega
theorem SOk.k5 {s:Sp} {N W H:Nat} (o:SOk s N W H) (h:s.k=5):(0≤s.a∧s.a≤1000)∧(0≤s.b∧s.b≤40):=by
 have:=o.odd
 simp [oddS,h,loK,hiK,outB] at this
 omega
theorem SOk.k6 {s:Sp} {N W H:Nat} (o:SOk s N W H) (h:s.k=6) : -255≤s.a∧s.a≤255:=by
 have:=o.odd
 simp [oddS,h,loK,hiK,outB] at this
 omega
theorem Qug {s:Sp} {c:Bool} {l:List Fm} {W H K i x y n v:Nat} (o:FOk l W H) (p:SOk s l.length W H) (hK:s.k=(K:Int)) (hi:i<l.length) (hx:x<W) (hy:y<H) (hn:n<W*H) (hv:v<256):Fun FB md (120+K) [.rp (wkC s c l i x y n) 0,.int .i64 (v:Nat)] (.int .i64 (newK l W H s i x y n v)):=by
 have o1:=o.n12
 have o3:=o.w
 have o4:=o.h
 have o5:=o.nn
 have hk:=p.k
 have hKs:K=1∨K=2∨K=3∨K=4∨K=5∨K=6:=by omega
 unfold newK
 rcases hKs with rfl|rfl|rfl|rfl|rfl|rfl
 ·have:=p.k1 hK
  rw [if_pos (by omega)]
  exact Qp0 o (by omega) (by omega) this.1 this.2.1
 ·rw [if_neg (by omega),if_pos (by omega)]
  exact Qss hv (p.tb hK)
 ·have:=p.k3 hK
  rw [if_neg (by omega),if_neg (by omega),if_pos (by omega)]
  exact Qig o hx hy this.1 this.2.1
 ·have:=p.k4 hK
  rw [if_neg (by omega),if_neg (by omega),if_neg (by omega),if_pos (by omega)]
  exact Que o (by omega) hv
 ·have:=p.k5 hK
  rw [if_neg (by omega),if_neg (by omega),if_neg (by omega),if_neg (by omega),if_pos (by omega)]
  exact Qpv this.1 this.2 (by omega) (by omega) hv
 ·have:=p.k6 hK
  rw [if_neg (by omega),if_neg (by omega),if_neg (by omega),if_neg (by omega),if_neg (by omega)]
  exact Qtq this hv
def newP (l:List Fm) (W H:Nat) (s:Sp) (i x y:Nat):Int:=if Q35 s i x y=true then ((pixI l i (y*W+x):Nat):Int) else newK l W H s i x y (y*W+x) (pixI l i (y*W+x))
end Go.Dr.T
