/- Chapter 08: the reference's new pixel. -/
import Derived.Test.YthihdpbgmhnloaaGreatDoorR08Gb
namespace Go.Dr.T
def insB (W H:Nat) (x y:Int):Bool := !outB x 0 ((W:Int) - 1) && !outB y 0 ((H:Int) - 1)
theorem oldB_ins {N W H i:Nat} {x y:Int} (hi:i<N):oldB N W H i x y=insB W H x y:=by
 unfold oldB insB
 have:outB (i:Int) 0 ((N:Int) - 1)=false:=by simp only [outB,Bool.or_eq_false_iff,decide_eq_false_iff_not];omega
 rw [this,Bool.false_or,Bool.not_or]
def frV (W H:Nat) (f:Fm):V:=.agg [.int .i64 (W:Nat),.int .i64 (H:Nat),.sl f.c f.p.length (ofBytes f.p)]
theorem fr_part {l:List Fm} {W H i:Nat} (o:FOk l W H) (hi:i<l.length):∃ f,l[i]?=some f∧f.p.length=W * H∧part (fmC l) (i * 3) 3=some [.int .i64 (W:Nat),.int .i64 (H:Nat),.sl f.c f.p.length (ofBytes f.p)]:=by
 obtain ⟨f,hf,h1,h2,h3⟩:=o.at hi
 have:=fmC_part hf
 rw [h1,h2] at this
 exact ⟨f,hf,h3,this⟩
set_option maxRecDepth 100000 in
set_option maxHeartbeats 20000000 in
theorem inside_ok {W H:Nat} {f:Fm} {x y:Int} (hW:W≤48) (hH:H≤48):Fun FB md 60 [frV W H f,.int .i64 x,.int .i64 y] (.bool (insB W H x y)):=by
 have q1:=in_ok (n:=x) (lo:=0) (hi:=(W:Int) - 1)
 have q2:=in_ok (n:=y) (lo:=0) (hi:=(H:Int) - 1)
 unfold insB frV
 generalize (!outB x 0 ((W:Int) - 1))=y1 at *
 generalize (!outB y 0 ((H:Int) - 1))=y2 at *
 refine fun_of rfl rfl ?_
 cases y1 <;> cases y2
 all_goals
  repeat' (first
 | (conv=>whnf)
   first
   | refine Br.t ?_
   | refine Br.f ?_
   | (refine Bnd.i64 ?_ ?_ ?_;(focus omega);(focus omega))
   | refine call_fun rfl rfl q1 (.inl rfl) ?_
   | refine call_fun rfl rfl q2 (.inl rfl) ?_
   | refine Get.mk _ rfl ?_
   | refine Leaves.of ?_
   | refine Vw.bool ?_
   | (refine Req.mk ?_ ?_;(focus first | rfl | decide | exact ⟨rfl,rfl⟩ | exact ⟨rfl,by decide⟩ | exact (fun _=>rfl) | exact (fun h=>nomatch h) | (simp;done) | omega | (simp [big];done) | exact le_big (by omega) | exact lt_big (by omega))))
  all_goals first | rfl | (exfalso;omega;done)
set_option maxRecDepth 100000 in
set_option maxHeartbeats 20000000 in
theorem at_ok {l:List Fm} {W H i:Nat} {f:Fm} {x y:Int} (o:FOk l W H) (hf:l[i]?=some f) (hp:f.p.length=W * H) (hi:i<l.length) (hB:insB W H x y=true):Fun FB md 121 [frV W H f,.int .i64 x,.int .i64 y] (.int .i64 (oldN l W H i x y)):=by
 have hB' : oldB l.length W H i x y=true:=(oldB_ins hi).trans hB
 obtain ⟨I,X,Y,hI,rfl,rfl,hI2,hX,hY⟩:=oldB_of hB'
 rw [oldN_nat hi hX hY,pixI_eq hf]
 have hm:=o.ix hX hY
 have hnn:=o.nn
 have hc:=pix_cell (p:=f.p) (n:=Y * W+X) (by omega)
 have hlt:=UInt8.toNat_lt (f.p.getD (Y * W+X) 0)
 generalize (f.p.getD (Y * W+X) 0).toNat=v at *
 have hYW:IntKind.i64.wrap ((Y:Int) * (W:Int))=((Y * W:Nat):Int):=by rw [wrap_i64] <;> rw [← Int.natCast_mul] <;> omega
 have hYX:IntKind.i64.wrap (((Y * W:Nat):Int)+(X:Int))=((Y * W+X:Nat):Int):=by rw [wrap_i64] <;> omega
 have hml:Y * W+X≤f.p.length - 1:=by omega
 have h0l:0<f.p.length:=by omega
 unfold frV
 refine fun_of rfl rfl ?_
 repeat' (first
 | (conv=>whnf)
   first
   | refine Bnd.eq hYW ?_
   | refine Bnd.eq hYX ?_
   | (refine Bnd.i64 ?_ ?_ ?_;(focus omega);(focus omega))
   | refine Get.mk _ hc ?_
   | refine Idx.nat hml ?_
   | refine Req.mk h0l ?_
   | refine Get.mk _ rfl ?_
   | refine Leaves.of ?_
   | refine Vw.int ?_
   | (refine Req.mk ?_ ?_;(focus first | rfl | decide | exact ⟨rfl,rfl⟩ | exact ⟨rfl,by decide⟩ | exact (fun _=>rfl) | exact (fun h=>nomatch h) | (simp;done) | omega | (simp [big];done) | exact le_big (by omega) | exact lt_big (by omega))))
 all_goals first | rfl | (exfalso;omega;done)
theorem levelR_ok {n:Int}:Fun FB md 124 [.int .i64 n] (.int .i64 (lvZ n)):=by
 have e:max 0 (min 255 n)=lvZ n:=by unfold lvZ;omega
 rw [← e]
 refine fun_of rfl rfl ?_
 repeat' (first
 | (conv=>whnf)
   first
   | refine Bnd.any ?_
   | refine Get.mk _ rfl ?_
   | refine Leaves.of ?_
   | refine Vw.int ?_)
 all_goals first | rfl | (exfalso;omega;done)
set_option maxRecDepth 100000 in
set_option maxHeartbeats 20000000 in
theorem keepsR_ok {s:Sp} {i x y:Int} (hl:s.kp.length≤6):Fun FB md 59 [.agg (spV s),.int .i64 i,.int .i64 x,.int .i64 y] (.bool (keepB s i x y)):=by
 have k1:=in_ok (n:=i) (lo:=s.fr) (hi:=s.un)
 unfold keepB
 generalize outB i s.fr s.un=y1 at *
 cases y1
 rotate_left
 ·refine fun_of rfl rfl ?_
  repeat' (first
 | (conv=>whnf)
   first
   | refine Br.t ?_
   | refine call_fun rfl rfl k1 (.inl rfl) ?_
   | refine Get.mk _ rfl ?_
   | refine Leaves.of ?_
   | refine Vw.bool ?_
   | (refine Req.mk ?_ ?_;(focus first | rfl | decide | exact ⟨rfl,rfl⟩ | exact ⟨rfl,by decide⟩ | exact (fun _=>rfl) | exact (fun h=>nomatch h) | (simp;done) | omega | (simp [big];done) | exact le_big (by omega) | exact lt_big (by omega))))
  all_goals first | rfl | (exfalso;omega;done)
 rw [Bool.false_or]
 refine fun_of rfl rfl ?_
 repeat' (first
 | (conv=>whnf)
   first
   | refine Br.f ?_
   | refine call_fun rfl rfl k1 (.inl rfl) ?_
   | refine Get.mk _ rfl ?_
   | (refine Req.mk ?_ ?_;(focus first | rfl | decide | exact ⟨rfl,rfl⟩ | exact ⟨rfl,by decide⟩ | exact (fun _=>rfl) | exact (fun h=>nomatch h) | (simp;done) | omega | (simp [big];done) | exact le_big (by omega) | exact lt_big (by omega))))
 all_goals try (exfalso;omega;done)
 refine LoopP.by (fun i:Nat=>i≤s.kp.length∧∀ j z,j<i→s.kp[j]?=some z→inBx x y z=false) (fun i=>[(9,.int .i64 (i:Nat))]) (fun i=>[.blk (spV s) false]) (fun i=>s.kp.length - i) 0 ⟨Nat.zero_le _,fun j v h=>absurd h (Nat.not_lt_zero _)⟩ rfl ?_
 rintro j ⟨w1,w2⟩
 dsimp only
 by_cases hi:j<s.kp.length
 ·obtain ⟨z,hx⟩:∃ z,s.kp[j]?=some z:=⟨_,List.getElem?_eq_getElem hi⟩
  have hp:=bxC_part hx
  have q1:=in_ok (n:=x) (lo:=z.l) (hi:=z.r)
  have q2:=in_ok (n:=y) (lo:=z.t) (hi:=z.b)
  have hiw:IntKind.i64.wrap ((j:Int)+1)=((j+1:Nat):Int):=by rw [wrap_i64 (by omega) (by omega)];omega
  have hil:j≤s.kp.length - 1:=by omega
  have h0l:0<s.kp.length:=by omega
  have hnx:(!outB x z.l z.r && !outB y z.t z.b)=false→∀ k u,k<j+1→s.kp[k]?=some u→inBx x y u=false:=fun q k u hj hu=>by
   by_cases e:k=j
   ·subst e;rw [hx] at hu;cases hu;exact q
   ·exact w2 k u (by omega) hu
  have hyes:(!outB x z.l z.r && !outB y z.t z.b)=true→s.kp.any (inBx x y)=true:=fun q=>List.any_eq_true.2 ⟨z,List.mem_of_getElem? hx,q⟩
  generalize (!outB x z.l z.r)=y1 at *
  generalize (!outB y z.t z.b)=y2 at *
  cases y1 <;> cases y2
  rotate_left 3
  ·rw [hyes rfl]
   repeat' (first
 | (conv=>whnf)
   first
   | refine Br.t ?_
   | (refine Br.decT ?_ ?_;(focus first | assumption | omega))
   | refine Get.mk _ hp ?_
   | refine call_fun rfl rfl q1 (.inl rfl) ?_
   | refine call_fun rfl rfl q2 (.inl rfl) ?_
   | refine Idx.nat hil ?_
   | refine Req.mk h0l ?_
   | refine Get.mk _ rfl ?_
   | refine Leaves.of ?_
   | refine Vw.bool ?_
   | (refine Req.mk ?_ ?_;(focus first | rfl | decide | exact ⟨rfl,rfl⟩ | exact ⟨rfl,by decide⟩ | exact (fun _=>rfl) | exact (fun h=>nomatch h) | (simp;done) | omega | (simp [big];done) | exact le_big (by omega) | exact lt_big (by omega))))
   all_goals first | rfl | (exfalso;omega;done)
  all_goals
   have hnx:=hnx rfl
   repeat' (first
 | (conv=>whnf)
   first
   | refine Bnd.eq hiw ?_
   | refine Br.t ?_
   | refine Br.f ?_
   | (refine Br.decT ?_ ?_;(focus first | assumption | omega))
   | refine Get.mk _ hp ?_
   | refine call_fun rfl rfl q1 (.inl rfl) ?_
   | refine call_fun rfl rfl q2 (.inl rfl) ?_
   | refine Idx.nat hil ?_
   | refine Req.mk h0l ?_
   | refine Get.mk _ rfl ?_
   | (refine Req.mk ?_ ?_;(focus first | rfl | decide | exact ⟨rfl,rfl⟩ | exact ⟨rfl,by decide⟩ | exact (fun _=>rfl) | exact (fun h=>nomatch h) | (simp;done) | omega | (simp [big];done) | exact le_big (by omega) | exact lt_big (by omega))))
   all_goals first | (exfalso;omega;done) | exact NextP.mk (j+1) ⟨hi,hnx⟩ (by omega) rfl
 obtain rfl:j=s.kp.length:=by omega
 have hE:s.kp.any (inBx x y)=false:=by
  cases e:s.kp.any (inBx x y) with
  | false=>rfl
  | true =>
   obtain ⟨z,hz,h1⟩:=List.any_eq_true.1 e
   obtain ⟨k,hk⟩:=List.getElem?_of_mem hz
   rw [w2 k z (List.getElem?_eq_some_iff.1 hk).1 hk] at h1
   cases h1
 rw [hE]
 repeat' (first
 | (conv=>whnf)
   first
   | (refine Br.decF ?_ ?_;(focus first | assumption | omega))
   | refine Get.mk _ rfl ?_
   | refine Leaves.of ?_
   | refine Vw.bool ?_
   | (refine Req.mk ?_ ?_;(focus first | rfl | decide | exact ⟨rfl,rfl⟩ | exact ⟨rfl,by decide⟩ | exact (fun _=>rfl) | exact (fun h=>nomatch h) | (simp;done) | omega | (simp [big];done) | exact le_big (by omega) | exact lt_big (by omega))))
 all_goals first | rfl | (exfalso;omega;done)
set_option maxRecDepth 100000 in
set_option maxHeartbeats 20000000 in
theorem scratchR_ok {s:Sp} {l:List Fm} {f:Fm} {W H i x y:Nat} (o:FOk l W H) (hf:l[i]?=some f) (hp:f.p.length=W * H) (hi:i<l.length) (hx:x<W) (hy:y<H) (ha:0≤s.a∧s.a≤s.b) (hb:s.b<W) (hab:s.b - s.a+1≠W):Fun FB md 122 [frV W H f,.agg (spV s),.int .i64 (x:Nat),.int .i64 (y:Nat)] (.int .i64 (scI W H l.length s i x y (pixI l i (y * W+x)) (oldN l W H i (s.a - 1) y) (oldN l W H i (s.b+1) y))):=by
 have o3:=o.w
 have o4:=o.h
 have q1:=in_ok (n:=(x:Int)) (lo:=s.a) (hi:=s.b)
 have kv:=at_ok (x:=(x:Int)) (y:=(y:Int)) o hf hp hi ((oldB_ins hi).symm.trans (oldB_nat hi hx hy))
 rw [oldN_nat hi hx hy] at kv
 have j1:=inside_ok (f:=f) (x:=s.a - 1) (y:=(y:Int)) o3.2 o4.2
 have j2:=inside_ok (f:=f) (x:=s.b+1) (y:=(y:Int)) o3.2 o4.2
 have k1:insB W H (s.a - 1) y=true→_:=at_ok (x:=s.a - 1) (y:=(y:Int)) o hf hp hi
 have k2:insB W H (s.b+1) y=true→_:=at_ok (x:=s.b+1) (y:=(y:Int)) o hf hp hi
 have r1:=oldN_rng (l:=l) (W:=W) (H:=H) (i:=i) (x:=s.a - 1) (y:=y)
 have r2:=oldN_rng (l:=l) (W:=W) (H:=H) (i:=i) (x:=s.b+1) (y:=y)
 unfold scI
 rw [oldB_ins hi,oldB_ins hi]
 cases e1:outB (x:Int) s.a s.b <;> rw [e1] at q1
 rotate_left
 ·rw [if_pos rfl]
  unfold frV at *
  refine fun_of rfl rfl ?_
  repeat' (first
 | (conv=>whnf)
   first
   | refine Br.t ?_
   | refine call_fun rfl rfl q1 (.inl rfl) ?_
   | refine call_fun rfl rfl kv (.inl rfl) ?_
   | refine Get.mk _ rfl ?_
   | refine Leaves.of ?_
   | refine Vw.int ?_
   | (refine Req.mk ?_ ?_;(focus first | rfl | decide | exact ⟨rfl,rfl⟩ | exact ⟨rfl,by decide⟩ | exact (fun _=>rfl) | exact (fun h=>nomatch h) | (simp;done) | omega | (simp [big];done) | exact le_big (by omega) | exact lt_big (by omega))))
  all_goals first | rfl | (exfalso;omega;done)
 rw [if_neg (by decide)]
 simp only [outB,Bool.or_eq_false_iff,decide_eq_false_iff_not] at e1
 have hno:insB W H (s.a - 1) y=false→insB W H (s.b+1) y=false→False:=fun h1 h2=>by
  simp only [insB,outB,Bool.and_eq_false_iff,Bool.not_eq_false', Bool.or_eq_true,decide_eq_true_eq] at h1 h2
  omega
 generalize oldN l W H i (s.a - 1) y=L at *
 generalize oldN l W H i (s.b+1) y=R at *
 generalize insB W H (s.a - 1) y=b1 at *
 generalize insB W H (s.b+1) y=b2 at *
 have hd:s.b+2 - s.a≠0:=by omega
 have hdp:0<s.b+2 - s.a:=by omega
 cases b1 <;> cases b2
 ·exact absurd (hno rfl rfl) id
 ·rw [if_pos rfl]
  have k2:=k2 rfl
  have e:R * (s.b+1 - x)+R * (x+1 - s.a)=R * (s.b+2 - s.a):=by rw [← Int.mul_add];congr 1;omega
  have hE:(R * (s.b+1 - x)+R * (x+1 - s.a)).tdiv (s.b+2 - s.a)=R:=by rw [e];exact Int.mul_tdiv_cancel _ hd
  have p1:0≤R * (s.b+1 - x)∧R * (s.b+1 - x)≤255 * 48:=⟨Int.mul_nonneg r2.1 (by omega),Int.mul_le_mul r2.2 (by omega) (by omega) (by omega)⟩
  have p2:0≤R * (x+1 - s.a)∧R * (x+1 - s.a)≤255 * 48:=⟨Int.mul_nonneg r2.1 (by omega),Int.mul_le_mul r2.2 (by omega) (by omega) (by omega)⟩
  have w1:IntKind.i64.wrap (R * (s.b+1 - x))=R * (s.b+1 - x):=wrap_i64 (by omega) (by omega)
  have w2:IntKind.i64.wrap (R * (x+1 - s.a))=R * (x+1 - s.a):=wrap_i64 (by omega) (by omega)
  have w3:IntKind.i64.wrap (R * (s.b+1 - x)+R * (x+1 - s.a))=R * (s.b+1 - x)+R * (x+1 - s.a):=wrap_i64 (by omega) (by omega)
  have w4:IntKind.i64.wrap ((R * (s.b+1 - x)+R * (x+1 - s.a)).tdiv (s.b+2 - s.a))=R:=by rw [hE];exact wrap_i64 (by omega) (by omega)
  unfold frV at *
  refine fun_of rfl rfl ?_
  repeat' (first
 | (conv=>whnf)
   first
   | refine Bnd.eq w1 ?_
   | refine Bnd.eq w2 ?_
   | refine Bnd.eq w3 ?_
   | refine Bnd.eq w4 ?_
   | refine Br.t ?_
   | refine Br.f ?_
   | (refine Bnd.i64 ?_ ?_ ?_;(focus omega);(focus omega))
   | refine Req.mk hd ?_
   | refine call_fun rfl rfl q1 (.inl rfl) ?_
   | refine call_fun rfl rfl j1 (.inl rfl) ?_
   | refine call_fun rfl rfl j2 (.inl rfl) ?_
   | refine call_fun rfl rfl k2 (.inl rfl) ?_
   | refine Get.mk _ rfl ?_
   | refine Leaves.of ?_
   | refine Vw.int ?_
   | (refine Req.mk ?_ ?_;(focus first | rfl | decide | exact ⟨rfl,rfl⟩ | exact ⟨rfl,by decide⟩ | exact (fun _=>rfl) | exact (fun h=>nomatch h) | (simp;done) | omega | (simp [big];done) | exact le_big (by omega) | exact lt_big (by omega))))
  all_goals first | rfl | (exfalso;omega;done)
 ·rw [if_neg (by decide),if_pos rfl]
  have k1:=k1 rfl
  have e:L * (s.b+1 - x)+L * (x+1 - s.a)=L * (s.b+2 - s.a):=by rw [← Int.mul_add];congr 1;omega
  have hE:(L * (s.b+1 - x)+L * (x+1 - s.a)).tdiv (s.b+2 - s.a)=L:=by rw [e];exact Int.mul_tdiv_cancel _ hd
  have p1:0≤L * (s.b+1 - x)∧L * (s.b+1 - x)≤255 * 48:=⟨Int.mul_nonneg r1.1 (by omega),Int.mul_le_mul r1.2 (by omega) (by omega) (by omega)⟩
  have p2:0≤L * (x+1 - s.a)∧L * (x+1 - s.a)≤255 * 48:=⟨Int.mul_nonneg r1.1 (by omega),Int.mul_le_mul r1.2 (by omega) (by omega) (by omega)⟩
  have w1:IntKind.i64.wrap (L * (s.b+1 - x))=L * (s.b+1 - x):=wrap_i64 (by omega) (by omega)
  have w2:IntKind.i64.wrap (L * (x+1 - s.a))=L * (x+1 - s.a):=wrap_i64 (by omega) (by omega)
  have w3:IntKind.i64.wrap (L * (s.b+1 - x)+L * (x+1 - s.a))=L * (s.b+1 - x)+L * (x+1 - s.a):=wrap_i64 (by omega) (by omega)
  have w4:IntKind.i64.wrap ((L * (s.b+1 - x)+L * (x+1 - s.a)).tdiv (s.b+2 - s.a))=L:=by rw [hE];exact wrap_i64 (by omega) (by omega)
  unfold frV at *
  refine fun_of rfl rfl ?_
  repeat' (first
 | (conv=>whnf)
   first
   | refine Bnd.eq w1 ?_
   | refine Bnd.eq w2 ?_
   | refine Bnd.eq w3 ?_
   | refine Bnd.eq w4 ?_
   | refine Br.t ?_
   | refine Br.f ?_
   | (refine Bnd.i64 ?_ ?_ ?_;(focus omega);(focus omega))
   | refine Req.mk hd ?_
   | refine call_fun rfl rfl q1 (.inl rfl) ?_
   | refine call_fun rfl rfl j1 (.inl rfl) ?_
   | refine call_fun rfl rfl j2 (.inl rfl) ?_
   | refine call_fun rfl rfl k1 (.inl rfl) ?_
   | refine Get.mk _ rfl ?_
   | refine Leaves.of ?_
   | refine Vw.int ?_
   | (refine Req.mk ?_ ?_;(focus first | rfl | decide | exact ⟨rfl,rfl⟩ | exact ⟨rfl,by decide⟩ | exact (fun _=>rfl) | exact (fun h=>nomatch h) | (simp;done) | omega | (simp [big];done) | exact le_big (by omega) | exact lt_big (by omega))))
  all_goals first | rfl | (exfalso;omega;done)
 ·rw [if_neg (by decide),if_neg (by decide)]
  have k1:=k1 rfl
  have k2:=k2 rfl
  have p1:0≤L * (s.b+1 - x)∧L * (s.b+1 - x)≤255 * 48:=⟨Int.mul_nonneg r1.1 (by omega),Int.mul_le_mul r1.2 (by omega) (by omega) (by omega)⟩
  have p2:0≤R * (x+1 - s.a)∧R * (x+1 - s.a)≤255 * 48:=⟨Int.mul_nonneg r2.1 (by omega),Int.mul_le_mul r2.2 (by omega) (by omega) (by omega)⟩
  have w1:IntKind.i64.wrap (L * (s.b+1 - x))=L * (s.b+1 - x):=wrap_i64 (by omega) (by omega)
  have w2:IntKind.i64.wrap (R * (x+1 - s.a))=R * (x+1 - s.a):=wrap_i64 (by omega) (by omega)
  have w3:IntKind.i64.wrap (L * (s.b+1 - x)+R * (x+1 - s.a))=L * (s.b+1 - x)+R * (x+1 - s.a):=wrap_i64 (by omega) (by omega)
  have w4:IntKind.i64.wrap ((L * (s.b+1 - x)+R * (x+1 - s.a)).tdiv (s.b+2 - s.a))=(L * (s.b+1 - x)+R * (x+1 - s.a)).tdiv (s.b+2 - s.a):=by
   have hz:0≤L * (s.b+1 - x)+R * (x+1 - s.a)∧L * (s.b+1 - x)+R * (x+1 - s.a)≤24480:=by omega
   generalize L * (s.b+1 - x)+R * (x+1 - s.a)=z at *
   have h0:0≤z:=hz.1
   have:0≤z.tdiv (s.b+2 - s.a):=Int.tdiv_nonneg h0 (by omega)
   have:z.tdiv (s.b+2 - s.a)≤z:=Int.tdiv_le_self _ h0
   exact wrap_i64 (by omega) (by omega)
  unfold frV at *
  refine fun_of rfl rfl ?_
  repeat' (first
 | (conv=>whnf)
   first
   | refine Bnd.eq w1 ?_
   | refine Bnd.eq w2 ?_
   | refine Bnd.eq w3 ?_
   | refine Bnd.eq w4 ?_
   | refine Br.f ?_
   | (refine Bnd.i64 ?_ ?_ ?_;(focus omega);(focus omega))
   | refine Req.mk hd ?_
   | refine call_fun rfl rfl q1 (.inl rfl) ?_
   | refine call_fun rfl rfl j1 (.inl rfl) ?_
   | refine call_fun rfl rfl j2 (.inl rfl) ?_
   | refine call_fun rfl rfl k1 (.inl rfl) ?_
   | refine call_fun rfl rfl k2 (.inl rfl) ?_
   | refine Get.mk _ rfl ?_
   | refine Leaves.of ?_
   | refine Vw.int ?_
   | (refine Req.mk ?_ ?_;(focus first | rfl | decide | exact ⟨rfl,rfl⟩ | exact ⟨rfl,by decide⟩ | exact (fun _=>rfl) | exact (fun h=>nomatch h) | (simp;done) | omega | (simp [big];done) | exact le_big (by omega) | exact lt_big (by omega))))
  all_goals first | rfl | (exfalso;omega;done)
set_option maxRecDepth 100000 in
set_option maxHeartbeats 20000000 in
theorem dustR_ok {s:Sp} {c:Bool} {l:List Fm} {W H i x y:Nat} (o:FOk l W H) (hi:i<l.length) (hx:x<W) (hy:y<H):Fun FB md 123 [.sl c l.length (fmC l),.agg (spV s),.int .i64 (i:Nat),.int .i64 (x:Nat),.int .i64 (y:Nat)] (.int .i64 (orI (duB s (oldB l.length W H (i - 1) x y) (oldB l.length W H (i+1) x y) (oldN l W H (i - 1) x y) (oldN l W H (i+1) x y) (pixI l i (y * W+x))) ((oldN l W H (i - 1) x y+oldN l W H (i+1) x y).tdiv 2) (pixI l i (y * W+x)))):=by
 have o1:=o.n12
 have hB:=(oldB_ins hi).symm.trans (oldB_nat hi hx hy)
 obtain ⟨f,hf,hfl,hpt⟩:=fr_part o hi
 have kv:=at_ok (x:=(x:Int)) (y:=(y:Int)) o hf hfl hi hB
 rw [oldN_nat hi hx hy] at kv
 have hlw:IntKind.i64.wrap ((l.length:Int) - 1)=(l.length:Int) - 1:=wrap_i64 (by omega) (by omega)
 have hil:i≤l.length - 1:=by omega
 have h0l:=o.n0
 unfold frV at *
 have hvl:=pixI_lt (l:=l) (i:=i) (n:=y * W+x)
 by_cases h0:i=0∨i=l.length - 1
 ·have hz:duB s (oldB l.length W H (i - 1) x y) (oldB l.length W H (i+1) x y) (oldN l W H (i - 1) x y) (oldN l W H (i+1) x y) (pixI l i (y * W+x))=false:=by
   unfold duB
   rcases h0 with h0 | h0
   ·have:oldB l.length W H ((i:Int) - 1) x y=false:=by
     simp only [oldB,outB,Bool.not_eq_false', Bool.or_eq_true,decide_eq_true_eq]
     omega
    rw [this];rfl
   ·have:oldB l.length W H ((i:Int)+1) x y=false:=by
     simp only [oldB,outB,Bool.not_eq_false', Bool.or_eq_true,decide_eq_true_eq]
     omega
    rw [this,Bool.and_false];rfl
  rw [hz]
  generalize pixI l i (y * W+x)=v at *
  refine fun_of rfl rfl ?_
  repeat' (first
 | (conv=>whnf)
   first
   | refine Bnd.eq hlw ?_
   | refine Br.t ?_
   | (refine Br.decT ?_ ?_;(focus first | assumption | omega))
   | (refine Br.decF ?_ ?_;(focus first | assumption | omega))
   | refine Br.dec (fun _ => ?_) (fun _ => ?_)
   | refine Get.mk _ hpt ?_
   | refine Idx.nat hil ?_
   | refine Req.mk h0l ?_
   | refine call_fun rfl rfl kv (.inl rfl) ?_
   | refine Get.mk _ rfl ?_
   | refine Leaves.of ?_
   | refine Vw.int ?_
   | (refine Req.mk ?_ ?_;(focus first | rfl | decide | exact ⟨rfl,rfl⟩ | exact ⟨rfl,by decide⟩ | exact (fun _=>rfl) | exact (fun h=>nomatch h) | (simp;done) | omega | (simp [big];done) | exact le_big (by omega) | exact lt_big (by omega))))
  all_goals first | rfl | (exfalso;omega;done)
 obtain ⟨j,rfl⟩:∃ j,i=j+1:=⟨i - 1,by omega⟩
 have hi1:j<l.length:=by omega
 have hi2:j+2<l.length:=by omega
 have e1:(((j+1:Nat):Int) - 1)=((j:Nat):Int):=by omega
 have e2:(((j+1:Nat):Int)+1)=((j+2:Nat):Int):=by omega
 rw [e1,e2,oldB_nat hi1 hx hy,oldB_nat hi2 hx hy]
 obtain ⟨f1,hf1,hfl1,hpt1⟩:=fr_part o hi1
 obtain ⟨f2,hf2,hfl2,hpt2⟩:=fr_part o hi2
 have kp:=at_ok (x:=(x:Int)) (y:=(y:Int)) o hf1 hfl1 hi1 hB
 have kq:=at_ok (x:=(x:Int)) (y:=(y:Int)) o hf2 hfl2 hi2 hB
 unfold frV at *
 have r1:=oldN_rng (l:=l) (W:=W) (H:=H) (i:=(j:Nat)) (x:=(x:Int)) (y:=y)
 have r2:=oldN_rng (l:=l) (W:=W) (H:=H) (i:=(j+2:Nat)) (x:=(x:Int)) (y:=y)
 generalize oldN l W H ((j:Nat):Int) x y=p at *
 generalize oldN l W H ((j+2:Nat):Int) x y=q at *
 generalize pixI l (j+1) (y * W+x)=v at *
 have w5:IntKind.i64.wrap (((j+1:Nat):Int) - 1)=((j:Nat):Int):=by rw [wrap_i64] <;> omega
 have w6:IntKind.i64.wrap (((j+1:Nat):Int)+1)=((j+2:Nat):Int):=by rw [wrap_i64] <;> omega
 have w4:IntKind.i64.wrap ((p+q).tdiv 2)=(p+q).tdiv 2:=by
  have:0≤(p+q).tdiv 2:=Int.tdiv_nonneg (by omega) (by omega)
  have:(p+q).tdiv 2≤p+q:=Int.tdiv_le_self _ (by omega)
  exact wrap_i64 (by omega) (by omega)
 have hd:(2:Int)≠0:=by decide
 have hi1l:j≤l.length - 1:=by omega
 have hi2l:j+2≤l.length - 1:=by omega
 unfold duB orI apI
 refine fun_of rfl rfl ?_
 by_cases h1:max (p - q) (q - p)≤s.b
 rotate_left
 ·simp only [h1,decide_true,decide_false,Bool.true_and,Bool.and_false,Bool.false_and,Bool.false_eq_true,if_false]
  repeat' (first
 | (conv=>whnf)
   first
   | refine Br.decF h1 ?_
   | refine Bnd.eq hlw ?_
   | refine Bnd.eq w5 ?_
   | refine Bnd.eq w6 ?_
   | refine Br.f ?_
   | (refine Br.decF ?_ ?_;(focus first | assumption | omega))
   | (refine Bnd.i64 ?_ ?_ ?_;(focus omega);(focus omega))
   | refine Get.mk _ hpt ?_
   | refine Get.mk _ hpt1 ?_
   | refine Get.mk _ hpt2 ?_
   | refine Idx.nat hil ?_
   | refine Idx.nat hi1l ?_
   | refine Idx.nat hi2l ?_
   | refine Req.mk h0l ?_
   | refine call_fun rfl rfl kv (.inl rfl) ?_
   | refine call_fun rfl rfl kp (.inl rfl) ?_
   | refine call_fun rfl rfl kq (.inl rfl) ?_
   | refine Bnd.any ?_
   | refine Get.mk _ rfl ?_
   | refine Leaves.of ?_
   | refine Vw.int ?_
   | (refine Req.mk ?_ ?_;(focus first | rfl | decide | exact ⟨rfl,rfl⟩ | exact ⟨rfl,by decide⟩ | exact (fun _=>rfl) | exact (fun h=>nomatch h) | (simp;done) | omega | (simp [big];done) | exact le_big (by omega) | exact lt_big (by omega))))
  all_goals first | rfl | (exfalso;omega;done)
 by_cases h2:max ((v:Int) - p) (p - v) ≥ s.a
 rotate_left
 ·simp only [h1,h2,decide_true,decide_false,Bool.true_and,Bool.and_false,Bool.false_and,Bool.false_eq_true,if_false]
  repeat' (first
 | (conv=>whnf)
   first
   | refine Br.decT h1 ?_
   | refine Br.decF h2 ?_
   | refine Bnd.eq hlw ?_
   | refine Bnd.eq w5 ?_
   | refine Bnd.eq w6 ?_
   | refine Br.f ?_
   | (refine Br.decF ?_ ?_;(focus first | assumption | omega))
   | (refine Bnd.i64 ?_ ?_ ?_;(focus omega);(focus omega))
   | refine Get.mk _ hpt ?_
   | refine Get.mk _ hpt1 ?_
   | refine Get.mk _ hpt2 ?_
   | refine Idx.nat hil ?_
   | refine Idx.nat hi1l ?_
   | refine Idx.nat hi2l ?_
   | refine Req.mk h0l ?_
   | refine call_fun rfl rfl kv (.inl rfl) ?_
   | refine call_fun rfl rfl kp (.inl rfl) ?_
   | refine call_fun rfl rfl kq (.inl rfl) ?_
   | refine Bnd.any ?_
   | refine Get.mk _ rfl ?_
   | refine Leaves.of ?_
   | refine Vw.int ?_
   | (refine Req.mk ?_ ?_;(focus first | rfl | decide | exact ⟨rfl,rfl⟩ | exact ⟨rfl,by decide⟩ | exact (fun _=>rfl) | exact (fun h=>nomatch h) | (simp;done) | omega | (simp [big];done) | exact le_big (by omega) | exact lt_big (by omega))))
  all_goals first | rfl | (exfalso;omega;done)
 by_cases h3:max ((v:Int) - q) (q - v) ≥ s.a
 rotate_left
 ·simp only [h1,h2,h3,decide_true,decide_false,Bool.true_and,Bool.and_false,Bool.false_eq_true,if_false]
  repeat' (first
 | (conv=>whnf)
   first
   | refine Br.decT h1 ?_
   | refine Br.decT h2 ?_
   | refine Br.decF h3 ?_
   | refine Bnd.eq hlw ?_
   | refine Bnd.eq w5 ?_
   | refine Bnd.eq w6 ?_
   | refine Br.f ?_
   | (refine Br.decF ?_ ?_;(focus first | assumption | omega))
   | (refine Bnd.i64 ?_ ?_ ?_;(focus omega);(focus omega))
   | refine Get.mk _ hpt ?_
   | refine Get.mk _ hpt1 ?_
   | refine Get.mk _ hpt2 ?_
   | refine Idx.nat hil ?_
   | refine Idx.nat hi1l ?_
   | refine Idx.nat hi2l ?_
   | refine Req.mk h0l ?_
   | refine call_fun rfl rfl kv (.inl rfl) ?_
   | refine call_fun rfl rfl kp (.inl rfl) ?_
   | refine call_fun rfl rfl kq (.inl rfl) ?_
   | refine Bnd.any ?_
   | refine Get.mk _ rfl ?_
   | refine Leaves.of ?_
   | refine Vw.int ?_
   | (refine Req.mk ?_ ?_;(focus first | rfl | decide | exact ⟨rfl,rfl⟩ | exact ⟨rfl,by decide⟩ | exact (fun _=>rfl) | exact (fun h=>nomatch h) | (simp;done) | omega | (simp [big];done) | exact le_big (by omega) | exact lt_big (by omega))))
  all_goals first | rfl | (exfalso;omega;done)
 simp only [h1,h2,h3,decide_true,Bool.true_and,if_true]
 repeat' (first
 | (conv=>whnf)
   first
   | refine Br.decT h1 ?_
   | refine Br.decT h2 ?_
   | refine Br.decT h3 ?_
   | refine Bnd.eq hlw ?_
   | refine Bnd.eq w4 ?_
   | refine Bnd.eq w5 ?_
   | refine Bnd.eq w6 ?_
   | refine Br.f ?_
   | (refine Br.decF ?_ ?_;(focus first | assumption | omega))
   | (refine Bnd.i64 ?_ ?_ ?_;(focus omega);(focus omega))
   | refine Get.mk _ hpt ?_
   | refine Get.mk _ hpt1 ?_
   | refine Get.mk _ hpt2 ?_
   | refine Req.mk hd ?_
   | refine Idx.nat hil ?_
   | refine Idx.nat hi1l ?_
   | refine Idx.nat hi2l ?_
   | refine Req.mk h0l ?_
   | refine call_fun rfl rfl kv (.inl rfl) ?_
   | refine call_fun rfl rfl kp (.inl rfl) ?_
   | refine call_fun rfl rfl kq (.inl rfl) ?_
   | refine Bnd.any ?_
   | refine Get.mk _ rfl ?_
   | refine Leaves.of ?_
   | refine Vw.int ?_
   | (refine Req.mk ?_ ?_;(focus first | rfl | decide | exact ⟨rfl,rfl⟩ | exact ⟨rfl,by decide⟩ | exact (fun _=>rfl) | exact (fun h=>nomatch h) | (simp;done) | omega | (simp [big];done) | exact le_big (by omega) | exact lt_big (by omega))))
 all_goals first | rfl | (exfalso;omega;done)
set_option maxRecDepth 100000 in
set_option maxHeartbeats 20000000 in
theorem grainR_ok {s:Sp} {i n:Nat} (ha:0≤s.a∧s.a≤1000) (hb:0≤s.b∧s.b≤40) (hi:i<12) (hn:n<2304):Fun FB md 125 [.agg (spV s),.int .i64 (i:Nat),.int .i64 (n:Nat)] (.int .i64 (grT s.a s.b i n - s.b)):=by
 obtain ⟨p1,p2,p3⟩:=grH_rng (i:=i) (n:=n) ha hi hn
 have t1:=grT_rng (i:=i) (n:=n) ha hb hi hn
 have w2:IntKind.i64.wrap (grT s.a s.b i n - s.b)=grT s.a s.b i n - s.b:=wrap_i64 (by omega) (by omega)
 unfold grT grH at *
 have hd:(65521:Int)≠0:=by decide
 have hd2:2 * s.b+1≠0:=by omega
 have a1:IntKind.i64.wrap ((s.a+1) * ((i:Int)+3))=(s.a+1) * ((i:Int)+3):=wrap_i64 (by omega) (by omega)
 have a2:IntKind.i64.wrap ((s.a+1) * ((i:Int)+3) * ((n:Int)+7))=(s.a+1) * ((i:Int)+3) * ((n:Int)+7):=wrap_i64 (by omega) (by omega)
 have a3:IntKind.i64.wrap ((s.a+1) * ((i:Int)+3) * ((n:Int)+7) * 7919)=(s.a+1) * ((i:Int)+3) * ((n:Int)+7) * 7919:=wrap_i64 (by omega) (by omega)
 have a4:IntKind.i64.wrap (((n:Int)+5) * ((n:Int)+5))=((n:Int)+5) * ((n:Int)+5):=wrap_i64 (by omega) (by omega)
 have a5:IntKind.i64.wrap (((n:Int)+5) * ((n:Int)+5) * 104729)=((n:Int)+5) * ((n:Int)+5) * 104729:=wrap_i64 (by omega) (by omega)
 have a6:IntKind.i64.wrap ((s.a+1) * ((i:Int)+3) * ((n:Int)+7) * 7919+((n:Int)+5) * ((n:Int)+5) * 104729)=(s.a+1) * ((i:Int)+3) * ((n:Int)+7) * 7919+((n:Int)+5) * ((n:Int)+5) * 104729:=wrap_i64 (by omega) (by omega)
 refine fun_of rfl rfl ?_
 repeat' (first
 | (conv=>whnf)
   first
   | refine Bnd.eq w2 ?_
   | refine Bnd.eq a1 ?_
   | refine Bnd.eq a2 ?_
   | refine Bnd.eq a3 ?_
   | refine Bnd.eq a4 ?_
   | refine Bnd.eq a5 ?_
   | refine Bnd.eq a6 ?_
   | (refine Bnd.i64 ?_ ?_ ?_;(focus omega);(focus omega))
   | refine Req.mk hd ?_
   | refine Req.mk hd2 ?_
   | refine Bnd.any ?_
   | refine Get.mk _ rfl ?_
   | refine Leaves.of ?_
   | refine Vw.int ?_
   | (refine Req.mk ?_ ?_;(focus first | rfl | decide | exact ⟨rfl,rfl⟩ | exact ⟨rfl,by decide⟩ | exact (fun _=>rfl) | exact (fun h=>nomatch h) | (simp;done) | omega | (simp [big];done) | exact le_big (by omega) | exact lt_big (by omega))))
 all_goals first | rfl | (exfalso;omega;done)
set_option maxRecDepth 100000 in
set_option maxHeartbeats 20000000 in
theorem value_ok {s:Sp} {c:Bool} {l:List Fm} {W H i x y:Nat} (o:FOk l W H) (p:SOk s l.length W H) (hi:i<l.length) (hx:x<W) (hy:y<H):Fun FB md 90 [.sl c l.length (fmC l),.agg (spV s),.int .i64 (i:Nat),.int .i64 (x:Nat),.int .i64 (y:Nat)] (.int .i64 (newP l W H s i x y)):=by
 have o1:=o.n12
 have o3:=o.w
 have o4:=o.h
 have o5:=o.nn
 have hk:=p.k
 have hB:=(oldB_ins hi).symm.trans (oldB_nat hi hx hy)
 obtain ⟨f,hf,hfl,hpt⟩:=fr_part o hi
 have kv:=at_ok (x:=(x:Int)) (y:=(y:Int)) o hf hfl hi hB
 rw [oldN_nat hi hx hy] at kv
 have hil:i≤l.length - 1:=by omega
 have h0l:=o.n0
 have hvl:=pixI_lt (l:=l) (i:=i) (n:=y * W+x)
 have kk:=keepsR_ok (s:=s) (i:=(i:Int)) (x:=(x:Int)) (y:=(y:Int)) p.kp
 have hm:=o.ix hx hy
 have hYW:IntKind.i64.wrap ((y:Int) * (W:Int))=((y * W:Nat):Int):=by rw [wrap_i64] <;> rw [← Int.natCast_mul] <;> omega
 have hYX:IntKind.i64.wrap (((y * W:Nat):Int)+(x:Int))=((y * W+x:Nat):Int):=by rw [wrap_i64] <;> omega
 unfold newP
 cases eK:keepB s i x y <;> rw [eK] at kk
 rotate_left
 ·rw [if_pos rfl]
  generalize pixI l i (y * W+x)=v at *
  unfold frV at *
  refine fun_of rfl rfl ?_
  repeat' (first
 | (conv=>whnf)
   first
   | refine Br.t ?_
   | refine Get.mk _ hpt ?_
   | refine Idx.nat hil ?_
   | refine Req.mk h0l ?_
   | refine call_fun rfl rfl kv (.inl rfl) ?_
   | refine call_fun rfl rfl kk (.inl rfl) ?_
   | refine Get.mk _ rfl ?_
   | refine Leaves.of ?_
   | refine Vw.int ?_
   | (refine Req.mk ?_ ?_;(focus first | rfl | decide | exact ⟨rfl,rfl⟩ | exact ⟨rfl,by decide⟩ | exact (fun _=>rfl) | exact (fun h=>nomatch h) | (simp;done) | omega | (simp [big];done) | exact le_big (by omega) | exact lt_big (by omega))))
  all_goals first | rfl | (exfalso;omega;done)
 rw [if_neg (by decide)]
 have hKs:s.k=1∨s.k=2∨s.k=3∨s.k=4∨s.k=5∨s.k=6:=by omega
 unfold newK
 rcases hKs with h | h | h | h | h | h
 ·obtain ⟨r1,r2,r3⟩:=p.k1 h
  rw [if_pos h]
  have j1:=inside_ok (f:=f) (x:=(x:Int) - s.a) (y:=(y:Int) - s.b) o3.2 o4.2
  have k1:insB W H (x - s.a) (y - s.b)=true→_:=at_ok (x:=(x:Int) - s.a) (y:=(y:Int) - s.b) o hf hfl hi
  rw [oldB_ins hi]
  generalize oldN l W H i (x - s.a) (y - s.b)=u at *
  generalize pixI l i (y * W+x)=v at *
  generalize insB W H (x - s.a) (y - s.b)=b1 at *
  unfold frV orI at *
  cases b1
  ·rw [if_neg (by decide)]
   refine fun_of rfl rfl ?_
   repeat' (first
 | (conv=>whnf)
   first
   | refine Br.t ?_
   | refine Br.f ?_
   | (refine Br.decT ?_ ?_;(focus first | assumption | omega))
   | (refine Bnd.i64 ?_ ?_ ?_;(focus omega);(focus omega))
   | refine call_fun rfl rfl j1 (.inl rfl) ?_
   | refine Get.mk _ hpt ?_
   | refine Idx.nat hil ?_
   | refine Req.mk h0l ?_
   | refine call_fun rfl rfl kv (.inl rfl) ?_
   | refine call_fun rfl rfl kk (.inl rfl) ?_
   | refine Get.mk _ rfl ?_
   | refine Leaves.of ?_
   | refine Vw.int ?_
   | (refine Req.mk ?_ ?_;(focus first | rfl | decide | exact ⟨rfl,rfl⟩ | exact ⟨rfl,by decide⟩ | exact (fun _=>rfl) | exact (fun h=>nomatch h) | (simp;done) | omega | (simp [big];done) | exact le_big (by omega) | exact lt_big (by omega))))
   all_goals first | rfl | (exfalso;omega;done)
  ·have k1:=k1 rfl
   rw [if_pos rfl]
   refine fun_of rfl rfl ?_
   repeat' (first
 | (conv=>whnf)
   first
   | refine Br.f ?_
   | (refine Br.decT ?_ ?_;(focus first | assumption | omega))
   | (refine Bnd.i64 ?_ ?_ ?_;(focus omega);(focus omega))
   | refine call_fun rfl rfl j1 (.inl rfl) ?_
   | refine call_fun rfl rfl k1 (.inl rfl) ?_
   | refine Get.mk _ hpt ?_
   | refine Idx.nat hil ?_
   | refine Req.mk h0l ?_
   | refine call_fun rfl rfl kv (.inl rfl) ?_
   | refine call_fun rfl rfl kk (.inl rfl) ?_
   | refine Get.mk _ rfl ?_
   | refine Leaves.of ?_
   | refine Vw.int ?_
   | (refine Req.mk ?_ ?_;(focus first | rfl | decide | exact ⟨rfl,rfl⟩ | exact ⟨rfl,by decide⟩ | exact (fun _=>rfl) | exact (fun h=>nomatch h) | (simp;done) | omega | (simp [big];done) | exact le_big (by omega) | exact lt_big (by omega))))
   all_goals first | rfl | (exfalso;omega;done)
 ·have ht:=p.tb h
  rw [if_neg (by omega),if_pos h]
  generalize pixI l i (y * W+x)=v at *
  have hc:=pix_cell (p:=s.tb) (n:=v) (by omega)
  have hlt:=UInt8.toNat_lt (s.tb.getD v 0)
  have hvt:v≤s.tb.length - 1:=by omega
  have h0t:0<s.tb.length:=by omega
  generalize (s.tb.getD v 0).toNat=u at *
  unfold frV at *
  refine fun_of rfl rfl ?_
  repeat' (first
 | (conv=>whnf)
   first
   | refine Br.f ?_
   | (refine Br.decT ?_ ?_;(focus first | assumption | omega))
   | (refine Br.decF ?_ ?_;(focus first | assumption | omega))
   | (refine Bnd.i64 ?_ ?_ ?_;(focus omega);(focus omega))
   | refine Get.mk _ hc ?_
   | refine Idx.nat hvt ?_
   | refine Req.mk h0t ?_
   | refine Get.mk _ hpt ?_
   | refine Idx.nat hil ?_
   | refine Req.mk h0l ?_
   | refine call_fun rfl rfl kv (.inl rfl) ?_
   | refine call_fun rfl rfl kk (.inl rfl) ?_
   | refine Get.mk _ rfl ?_
   | refine Leaves.of ?_
   | refine Vw.int ?_
   | (refine Req.mk ?_ ?_;(focus first | rfl | decide | exact ⟨rfl,rfl⟩ | exact ⟨rfl,by decide⟩ | exact (fun _=>rfl) | exact (fun h=>nomatch h) | (simp;done) | omega | (simp [big];done) | exact le_big (by omega) | exact lt_big (by omega))))
  all_goals first | rfl | (exfalso;omega;done)
 ·obtain ⟨r1,r2,r3⟩:=p.k3 h
  rw [if_neg (by omega),if_neg (by omega),if_pos h]
  have k1:=scratchR_ok (s:=s) o hf hfl hi hx hy r1 r2 r3
  generalize scI W H l.length s i x y (pixI l i (y * W+x)) (oldN l W H i (s.a - 1) y) (oldN l W H i (s.b+1) y)=u at *
  generalize pixI l i (y * W+x)=v at *
  unfold frV at *
  refine fun_of rfl rfl ?_
  repeat' (first
 | (conv=>whnf)
   first
   | refine Br.f ?_
   | (refine Br.decT ?_ ?_;(focus first | assumption | omega))
   | (refine Br.decF ?_ ?_;(focus first | assumption | omega))
   | refine call_fun rfl rfl k1 (.inl rfl) ?_
   | refine Get.mk _ hpt ?_
   | refine Idx.nat hil ?_
   | refine Req.mk h0l ?_
   | refine call_fun rfl rfl kv (.inl rfl) ?_
   | refine call_fun rfl rfl kk (.inl rfl) ?_
   | refine Get.mk _ rfl ?_
   | refine Leaves.of ?_
   | refine Vw.int ?_
   | (refine Req.mk ?_ ?_;(focus first | rfl | decide | exact ⟨rfl,rfl⟩ | exact ⟨rfl,by decide⟩ | exact (fun _=>rfl) | exact (fun h=>nomatch h) | (simp;done) | omega | (simp [big];done) | exact le_big (by omega) | exact lt_big (by omega))))
  all_goals first | rfl | (exfalso;omega;done)
 ·obtain ⟨r1,r2⟩:=p.k4 h
  rw [if_neg (by omega),if_neg (by omega),if_neg (by omega),if_pos h]
  have k1:=dustR_ok (s:=s) (c:=c) o hi hx hy
  generalize orI (duB s (oldB l.length W H (i - 1) x y) (oldB l.length W H (i+1) x y) (oldN l W H (i - 1) x y) (oldN l W H (i+1) x y) (pixI l i (y * W+x))) ((oldN l W H (i - 1) x y+oldN l W H (i+1) x y).tdiv 2) (pixI l i (y * W+x))=u at *
  generalize pixI l i (y * W+x)=v at *
  unfold frV at *
  refine fun_of rfl rfl ?_
  repeat' (first
 | (conv=>whnf)
   first
   | refine Br.f ?_
   | (refine Br.decT ?_ ?_;(focus first | assumption | omega))
   | (refine Br.decF ?_ ?_;(focus first | assumption | omega))
   | refine call_fun rfl rfl k1 (.inl rfl) ?_
   | refine Get.mk _ hpt ?_
   | refine Idx.nat hil ?_
   | refine Req.mk h0l ?_
   | refine call_fun rfl rfl kv (.inl rfl) ?_
   | refine call_fun rfl rfl kk (.inl rfl) ?_
   | refine Get.mk _ rfl ?_
   | refine Leaves.of ?_
   | refine Vw.int ?_
   | (refine Req.mk ?_ ?_;(focus first | rfl | decide | exact ⟨rfl,rfl⟩ | exact ⟨rfl,by decide⟩ | exact (fun _=>rfl) | exact (fun h=>nomatch h) | (simp;done) | omega | (simp [big];done) | exact le_big (by omega) | exact lt_big (by omega))))
  all_goals first | rfl | (exfalso;omega;done)
 ·obtain ⟨r1,r2⟩:=p.k5 h
  rw [if_neg (by omega),if_neg (by omega),if_neg (by omega),if_neg (by omega),if_pos h]
  have k1:=grainR_ok (s:=s) (i:=i) (n:=y * W+x) r1 r2 (by omega) (by omega)
  have t1:=grT_rng (i:=i) (n:=y * W+x) r1 r2 (by omega) (by omega)
  have e:((pixI l i (y * W+x):Nat):Int)+grT s.a s.b i (y * W+x) - s.b=((pixI l i (y * W+x):Nat):Int)+(grT s.a s.b i (y * W+x) - s.b):=by omega
  rw [e]
  generalize grT s.a s.b i (y * W+x) - s.b=g at *
  have hg : -40≤g∧g≤80:=by omega
  generalize pixI l i (y * W+x)=v at *
  have k2:=levelR_ok (n:=(v:Int)+g)
  unfold frV at *
  refine fun_of rfl rfl ?_
  repeat' (first
 | (conv=>whnf)
   first
   | refine Bnd.eq hYW ?_
   | refine Bnd.eq hYX ?_
   | refine Br.f ?_
   | (refine Br.decT ?_ ?_;(focus first | assumption | omega))
   | (refine Br.decF ?_ ?_;(focus first | assumption | omega))
   | (refine Bnd.i64 ?_ ?_ ?_;(focus omega);(focus omega))
   | refine call_fun rfl rfl k1 (.inl rfl) ?_
   | refine call_fun rfl rfl k2 (.inl rfl) ?_
   | refine Get.mk _ hpt ?_
   | refine Idx.nat hil ?_
   | refine Req.mk h0l ?_
   | refine call_fun rfl rfl kv (.inl rfl) ?_
   | refine call_fun rfl rfl kk (.inl rfl) ?_
   | refine Get.mk _ rfl ?_
   | refine Leaves.of ?_
   | refine Vw.int ?_
   | (refine Req.mk ?_ ?_;(focus first | rfl | decide | exact ⟨rfl,rfl⟩ | exact ⟨rfl,by decide⟩ | exact (fun _=>rfl) | exact (fun h=>nomatch h) | (simp;done) | omega | (simp [big];done) | exact le_big (by omega) | exact lt_big (by omega))))
  all_goals first | rfl | (exfalso;omega;done)
 ·have r1:=p.k6 h
  rw [if_neg (by omega),if_neg (by omega),if_neg (by omega),if_neg (by omega),if_neg (by omega)]
  generalize pixI l i (y * W+x)=v at *
  have k2:=levelR_ok (n:=(v:Int)+s.a)
  unfold frV at *
  refine fun_of rfl rfl ?_
  repeat' (first
 | (conv=>whnf)
   first
   | refine Br.f ?_
   | (refine Br.decF ?_ ?_;(focus first | assumption | omega))
   | (refine Bnd.i64 ?_ ?_ ?_;(focus omega);(focus omega))
   | refine call_fun rfl rfl k2 (.inl rfl) ?_
   | refine Get.mk _ hpt ?_
   | refine Idx.nat hil ?_
   | refine Req.mk h0l ?_
   | refine call_fun rfl rfl kv (.inl rfl) ?_
   | refine call_fun rfl rfl kk (.inl rfl) ?_
   | refine Get.mk _ rfl ?_
   | refine Leaves.of ?_
   | refine Vw.int ?_
   | (refine Req.mk ?_ ?_;(focus first | rfl | decide | exact ⟨rfl,rfl⟩ | exact ⟨rfl,by decide⟩ | exact (fun _=>rfl) | exact (fun h=>nomatch h) | (simp;done) | omega | (simp [big];done) | exact le_big (by omega) | exact lt_big (by omega))))
  all_goals first | rfl | (exfalso;omega;done)
end Go.Dr.T
