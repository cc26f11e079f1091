/- Chapter 08: law RestoreKept. -/
import Derived.Test.YthihdpbgmhnloaaGreatDoorG19
import Derived.Test.YthihdpbgmhnloaaGreatDoorG2
import Derived.Test.YthihdpbgmhnloaaGreatDoorDrE
import Derived.Test.YthihdpbgmhnloaaGreatDoorR08Fb
import Derived.Test.YthihdpbgmhnloaaGreatDoorG0
import Derived.Lib.LaidTab
namespace Go.Dr.T
set_option maxRecDepth 100000 in
set_option maxHeartbeats 20000000 in
theorem kept_ok {s:Sp} {w i n x y:Int} (hl:s.kp.length≤1000000) (hw:1≤w) (hx:n.tmod w=x) (hy:IntKind.i64.wrap (n.tdiv w)=y):Fun FB md 30 [.agg (spV s),.int .i64 w,.int .i64 i,.int .i64 n] (.bool (keepB s i x y)):=by
 unfold keepB
 have hw0:w≠0:=by omega
 by_cases h1:i<s.fr∨s.un<i
 ·have:outB i s.fr s.un=true:=by simp only [outB,Bool.or_eq_true,decide_eq_true_eq];omega
  rw [this,Bool.true_or]
  refine fun_of rfl rfl ?_
  repeat' (first
 | (conv=>whnf)
   first
   | refine Br.t ?_
   | (refine Br.decT ?_ ?_;(focus first | assumption | omega))
   | (refine Br.decF ?_ ?_;(focus first | assumption | omega))
   | refine Br.dec (fun _ => ?_) (fun _ => ?_)
   | refine Get.mk _ rfl ?_
   | refine Leaves.of ?_
   | refine Vw.bool ?_
   | (refine Req.mk ?_ ?_;(focus first | rfl | decide | exact ⟨rfl,rfl⟩ | exact ⟨rfl,by decide⟩ | exact (fun _=>rfl) | exact (fun h=>nomatch h) | (simp;done) | omega | (simp [big];done) | exact le_big (by omega) | exact lt_big (by omega))))
  all_goals first | rfl | (exfalso;omega;done)
 have:outB i s.fr s.un=false:=by simp only [outB,Bool.or_eq_false_iff,decide_eq_false_iff_not];omega
 rw [this,Bool.false_or]
 refine fun_of rfl rfl ?_
 repeat' (first
 | (conv=>whnf)
   first
   | refine Bnd.eq hx ?_
   | refine Bnd.eq hy ?_
   | (refine Br.decF ?_ ?_;(focus first | assumption | omega))
   | refine Req.mk hw0 ?_
   | refine Get.mk _ rfl ?_
   | (refine Req.mk ?_ ?_;(focus first | rfl | decide | exact ⟨rfl,rfl⟩ | exact ⟨rfl,by decide⟩ | exact (fun _=>rfl) | exact (fun h=>nomatch h) | (simp;done) | omega | (simp [big];done) | exact le_big (by omega) | exact lt_big (by omega))))
 all_goals try (exfalso;omega;done)
 refine LoopP.by (fun i:Nat=>i≤s.kp.length∧∀ j z,j<i→s.kp[j]?=some z→inBx x y z=false) (fun i=>[(11,.int .i64 (i:Nat))]) (fun i=>[.blk (spV s) false]) (fun i=>s.kp.length - i) 0 ⟨Nat.zero_le _,fun j v h=>absurd h (Nat.not_lt_zero _)⟩ rfl ?_
 rintro j ⟨w1,w2⟩
 dsimp only
 by_cases hi:j<s.kp.length
 ·obtain ⟨z,hz⟩:∃ z,s.kp[j]?=some z:=⟨_,List.getElem?_eq_getElem hi⟩
  have hp:=bxC_part hz
  have hiw:IntKind.i64.wrap ((j:Int)+1)=((j+1:Nat):Int):=by rw [wrap_i64 (by omega) (by omega)];omega
  have hil:j≤s.kp.length - 1:=by omega
  have h0l:0<s.kp.length:=by omega
  have hnx:inBx x y z=false→∀ k u,k<j+1→s.kp[k]?=some u→inBx x y u=false:=fun q k u hj hu=>by
   by_cases e:k=j
   ·subst e;rw [hz] at hu;cases hu;exact q
   ·exact w2 k u (by omega) hu
  have hyes:inBx x y z=true→s.kp.any (inBx x y)=true:=fun q=>List.any_eq_true.2 ⟨z,List.mem_of_getElem? hz,q⟩
  cases e1:inBx x y z with
  | true =>
   rw [hyes e1]
   simp only [inBx,outB,Bool.and_eq_true,Bool.not_eq_true', Bool.or_eq_false_iff,decide_eq_false_iff_not] at e1
   repeat' (first
 | (conv=>whnf)
   first
   | (refine Br.decT ?_ ?_;(focus first | assumption | omega))
   | refine Get.mk _ hp ?_
   | refine Idx.nat hil ?_
   | refine Req.mk h0l ?_
   | refine Get.mk _ rfl ?_
   | refine Leaves.of ?_
   | refine Vw.bool ?_
   | (refine Req.mk ?_ ?_;(focus first | rfl | decide | exact ⟨rfl,rfl⟩ | exact ⟨rfl,by decide⟩ | exact (fun _=>rfl) | exact (fun h=>nomatch h) | (simp;done) | omega | (simp [big];done) | exact le_big (by omega) | exact lt_big (by omega))))
   all_goals first | rfl | (exfalso;omega;done)
  | false =>
   have hnx:=hnx e1
   have e2:¬ (z.l≤x∧x≤z.r∧z.t≤y∧y≤z.b):=fun h=>by
    have:inBx x y z=true:=by
     simp only [inBx,outB,Bool.and_eq_true,Bool.not_eq_true', Bool.or_eq_false_iff,decide_eq_false_iff_not]
     omega
    rw [e1] at this
    cases this
   clear e1
   repeat' (first
 | (conv=>whnf)
   first
   | refine Bnd.eq hiw ?_
   | refine Br.f ?_
   | (refine Br.decT ?_ ?_;(focus first | assumption | omega))
   | (refine Br.decF ?_ ?_;(focus first | assumption | omega))
   | refine Br.dec (fun _ => ?_) (fun _ => ?_)
   | refine Get.mk _ hp ?_
   | refine Idx.nat hil ?_
   | refine Req.mk h0l ?_
   | refine Get.mk _ rfl ?_
   | (refine Req.mk ?_ ?_;(focus first | rfl | decide | exact ⟨rfl,rfl⟩ | exact ⟨rfl,by decide⟩ | exact (fun _=>rfl) | exact (fun h=>nomatch h) | (simp;done) | omega | (simp [big];done) | exact le_big (by omega) | exact lt_big (by omega))))
   all_goals first | (exfalso;omega;done) | exact NextP.mk (j+1) ⟨hi,hnx⟩ (by omega) rfl
 obtain rfl:j=s.kp.length:=by omega
 have hE:s.kp.any (inBx x y)=false:=by
  cases e:s.kp.any (inBx x y) with
  | false=>rfl
  | true =>
   obtain ⟨z,hz,h1⟩:=List.any_eq_true.1 e
   obtain ⟨k,hk⟩:=List.getElem?_of_mem hz
   rw [w2 k z (List.getElem?_eq_some_iff.1 hk).1 hk] at h1
   cases h1
 rw [hE]
 repeat' (first
 | (conv=>whnf)
   first
   | (refine Br.decF ?_ ?_;(focus first | assumption | omega))
   | refine Get.mk _ rfl ?_
   | refine Leaves.of ?_
   | refine Vw.bool ?_
   | (refine Req.mk ?_ ?_;(focus first | rfl | decide | exact ⟨rfl,rfl⟩ | exact ⟨rfl,by decide⟩ | exact (fun _=>rfl) | exact (fun h=>nomatch h) | (simp;done) | omega | (simp [big];done) | exact le_big (by omega) | exact lt_big (by omega))))
 all_goals first | rfl | (exfalso;omega;done)
theorem kept_nat {s:Sp} {W i m:Nat} (hl:s.kp.length≤1000000) (hW:1≤W) (hm:m≤100000):Fun FB md 30 [.agg (spV s),.int .i64 (W:Nat),.int .i64 (i:Nat),.int .i64 (m:Nat)] (.bool (keepB s i (m % W:Nat) (m / W:Nat))):=by
 refine kept_ok hl (by omega) (by rw [Int.ofNat_tmod]) ?_
 have e:(m:Int).tdiv (W:Int)=((m / W:Nat):Int):=by rw [Int.ofNat_tdiv]
 have h1:m / W≤m:=Nat.div_le_self _ _
 rw [e]
 generalize m / W=d at *
 exact wrap_i64 (by omega) (by omega)
theorem cgM_pref {NU:Nat→UInt8} {i:Nat} {p:List UInt8} {m:Nat}:∀ {k:Nat},∃ R,cgM NU i p (m+k)=cgM NU i p m++R
 | 0=>⟨[],by rw [List.append_nil];rfl⟩
 | k+1=>by
  obtain ⟨R,h⟩:=cgM_pref (NU:=NU) (i:=i) (p:=p) (m:=m) (k:=k)
  rw [← Nat.add_assoc,cgM,h]
  split
  ·exact ⟨R,rfl⟩
  ·exact ⟨R++_,by rw [List.append_assoc]⟩
theorem cgA_pref {NU:Nat→Nat→UInt8} {l:List Fm} {m:Nat}:∀ {k:Nat},∃ R,cgA NU l (m+k)=cgA NU l m++R
 | 0=>⟨[],by rw [List.append_nil];rfl⟩
 | k+1=>by
  obtain ⟨R,h⟩:=cgA_pref (NU:=NU) (l:=l) (m:=m) (k:=k)
  rw [← Nat.add_assoc,cgA,h]
  exact ⟨R++_,by rw [List.append_assoc]⟩
theorem csT_pref {NU:Nat→Nat→UInt8} {l:List Fm} {i m:Nat} {f:Fm} (hf:l[i]?=some f) (hm:m≤f.p.length):∃ R,cgA NU l l.length=csT NU l i m++R:=by
 have hi:=(List.getElem?_eq_some_iff.1 hf).1
 obtain ⟨R,h⟩:=cgA_pref (NU:=NU) (l:=l) (m:=i+1) (k:=l.length - (i+1))
 rw [show i+1+(l.length - (i+1))=l.length by omega,cgA_next hf] at h
 obtain ⟨R2,h2⟩:=cgM_pref (NU:=NU i) (i:=i) (p:=f.p) (m:=m) (k:=f.p.length - m)
 rw [show m+(f.p.length - m)=f.p.length by omega] at h2
 refine ⟨R2++R,?_⟩
 unfold csT
 rw [h,h2,pxL_at hf,List.append_assoc,List.append_assoc,List.append_assoc]
theorem csT_at {NU:Nat→Nat→UInt8} {l:List Fm} {i m:Nat} {f:Fm} (hf:l[i]?=some f) (hm:m<f.p.length) (hE:¬ NU i m=f.p.getD m 0):(cgA NU l l.length)[(csT NU l i m).length]?=some ⟨i,m,f.p.getD m 0,NU i m⟩:=by
 obtain ⟨R,h⟩:=csT_pref (NU:=NU) hf (m:=m+1) hm
 rw [csT_new hf hE] at h
 rw [h,List.append_assoc,List.getElem?_append_right (Nat.le_refl _)]
 simp
theorem mixP_get {NU:Nat→UInt8} {p:List UInt8} {m:Nat} (h:m<p.length):(mixP NU p p.length).getD m 0=NU m:=by
 unfold mixP
 rw [List.drop_length,List.append_nil,List.getD_eq_getElem?_getD,List.getElem?_map,List.getElem?_range h]
 rfl
structure KI where
 i:Nat
 k:Nat
set_option maxRecDepth 100000 in
set_option maxHeartbeats 20000000 in
theorem law_kept {c:Bool} {l:List Fm} {s:Sp}:Fun FB1 md 7 [.sl c l.length (fmC l),.agg (spV s)] (.bool true):=by
 have k9:=awake
 by_cases he:doE l s=0
 rotate_left
 ·have k1:=tabF (Do_bad (c:=c) he)
  generalize doE l s=e at *
  refine fun_of rfl rfl ?_
  repeat' (first
 | (conv=>whnf)
   first
   | refine Br.t ?_
   | (refine Br.decF ?_ ?_;(focus first | assumption | omega))
   | refine Br.not ?_
   | refine call_fun rfl rfl k1 (.inl rfl) ?_
   | refine call_fun rfl rfl k9 (.inl rfl) ?_
   | refine Get.mk _ rfl ?_
   | refine Leaves.of ?_
   | refine Vw.bool ?_
   | (refine Req.mk ?_ ?_;(focus first | rfl | decide | exact ⟨rfl,rfl⟩ | exact ⟨rfl,by decide⟩ | exact (fun _=>rfl) | exact (fun h=>nomatch h) | (simp;done) | omega | (simp [big];done) | exact le_big (by omega) | exact lt_big (by omega))))
  all_goals first | rfl | (exfalso;omega;done)
 obtain ⟨W,H,o,p⟩:=doE_zero he
 have k1:=tabF (Do_ok (c:=c) o p he)
 have hn0:=o.n0
 have hn12:=o.n12
 have hnn:=o.nn
 have o3:=o.w
 have hCl:=doC_len (s:=s) o
 unfold cgL at k1
 have hCn:(doC l W H s).length=(cgA (newU l W H s) l l.length).length:=rfl
 refine fun_of rfl rfl ?_
 repeat' (first
 | (conv=>whnf)
   first
   | refine Br.f ?_
   | (refine Br.decT ?_ ?_;(focus first | assumption | omega))
   | refine Br.not ?_
   | refine call_fun rfl rfl k1 (.inl rfl) ?_
   | refine Get.mk _ rfl ?_
   | (refine Req.mk ?_ ?_;(focus first | rfl | decide | exact ⟨rfl,rfl⟩ | exact ⟨rfl,by decide⟩ | exact (fun _=>rfl) | exact (fun h=>nomatch h) | (simp;done) | omega | (simp [big];done) | exact le_big (by omega) | exact lt_big (by omega))))
 all_goals try (exfalso;omega;done)
 refine LoopP.by (fun a:KI=>a.i≤l.length∧a.k=(cgA (newU l W H s) l a.i).length) (fun a=>[(8,.int .i64 (a.k:Nat)),(9,.int .i64 (a.i:Nat))]) (fun _=>[.blk (spV s) false]) (fun a=>l.length - a.i) ⟨0,0⟩ ⟨Nat.zero_le _,rfl⟩ rfl ?_
 rintro ⟨i,k⟩ ⟨w1,w2⟩
 dsimp only at w1 w2 ⊢
 by_cases hi:i<l.length
 rotate_left
 ·obtain rfl:i=l.length:=by omega
  have hk:k=(doC l W H s).length:=w2
  subst hk
  repeat' (first
 | (conv=>whnf)
   first
   | (refine Br.decT ?_ ?_;(focus first | assumption | omega))
   | (refine Br.decF ?_ ?_;(focus first | assumption | omega))
   | refine call_fun rfl rfl k9 (.inl rfl) ?_
   | refine Get.mk _ rfl ?_
   | refine Leaves.of ?_
   | refine Vw.bool ?_)
  all_goals first | rfl | (exfalso;omega;done)
 obtain ⟨f,hf,hfw,hfh,hfp⟩:=o.at hi
 obtain ⟨a0,a1,a2⟩:=fm_c hf
 obtain ⟨b0,b1,b2⟩:=fm_c (doF_get (W:=W) (H:=H) (s:=s) hf)
 have hml' := mixP_len (NU:=newU l W H s i) (p:=f.p) (Nat.le_refl _)
 dsimp only at b0 b1 b2
 rw [hml'] at b2
 rw [hfw] at a0 b0
 rw [hfh] at a1 b1
 have hiw:IntKind.i64.wrap ((i:Int)+1)=((i+1:Nat):Int):=by rw [wrap_i64 (by omega) (by omega)];omega
 have hil:i≤l.length - 1:=by omega
 repeat' (first
 | (conv=>whnf)
   first
   | (refine Br.decT ?_ ?_;(focus first | assumption | omega))
   | refine Br.not ?_
   | refine Get.mk _ a0 ?_
   | refine Get.mk _ a1 ?_
   | refine Get.mk _ a2 ?_
   | refine Get.mk _ b0 ?_
   | refine Get.mk _ b1 ?_
   | refine Get.mk _ b2 ?_
   | refine Idx.nat hil ?_
   | refine Req.mk hn0 ?_)
 all_goals try (exfalso;omega;done)
 refine LoopP.by (fun a:KI=>a.i≤f.p.length∧a.k=(csT (newU l W H s) l i a.i).length) (fun a=>[(8,.int .i64 (a.k:Nat)),(10,.int .i64 (a.i:Nat))]) (fun _=>[.blk (spV s) false]) (fun a=>f.p.length - a.i) ⟨0,k⟩ ⟨Nat.zero_le _,by rw [csT_0];exact w2⟩ rfl ?_
 rintro ⟨m,q⟩ ⟨v1,v2⟩
 dsimp only at v1 v2 ⊢
 by_cases hm:m<f.p.length
 rotate_left
 ·obtain rfl:m=f.p.length:=by omega
  rw [csT_next hf,csT_0] at v2
  repeat' (first
 | (conv=>whnf)
   first
   | refine Bnd.eq hiw ?_
   | (refine Br.decF ?_ ?_;(focus first | assumption | omega))
   | refine Get.mk _ a2 ?_
   | refine Idx.nat hil ?_
   | refine Req.mk hn0 ?_)
  all_goals first | (exfalso;omega;done) | exact NextP.mk ⟨i+1,q⟩ ⟨hi,v2⟩ (by dsimp only;omega) rfl
 have hmw:IntKind.i64.wrap ((m:Int)+1)=((m+1:Nat):Int):=by rw [wrap_i64 (by omega) (by omega)];omega
 have hpx:=pix_cell hm
 have hpy:=pix_cell (p:=mixP (newU l W H s i) f.p f.p.length) (n:=m) (by omega)
 rw [mixP_get hm] at hpy
 have hmt:m≤f.p.length - 1:=by omega
 have hp0:0<f.p.length:=by omega
 have hkk:=tabF (kept_nat (s:=s) (W:=W) (i:=i) (m:=m) (by have:=p.kp;omega) (by omega) (by omega))
 by_cases hE:newU l W H s i m=f.p.getD m 0
 ·have hEi:(((newU l W H s i m).toNat:Nat):Int)=(((f.p.getD m 0).toNat:Nat):Int):=by rw [hE]
  have hn:q=(csT (newU l W H s) l i (m+1)).length:=by rw [csT_same hf hE];exact v2
  repeat' (first
 | (conv=>whnf)
   first
   | refine Br.decT hEi ?_
   | refine Bnd.eq hmw ?_
   | (refine Br.decT ?_ ?_;(focus first | assumption | omega))
   | refine Get.mk _ a2 ?_
   | refine Get.mk _ b2 ?_
   | refine Get.mk _ hpx ?_
   | refine Get.mk _ hpy ?_
   | refine Idx.nat hil ?_
   | refine Idx.nat hmt ?_
   | refine Req.mk hn0 ?_
   | refine Req.mk hp0 ?_)
  all_goals first | (exfalso;omega;done) | exact NextP.mk ⟨m+1,q⟩ ⟨hm,hn⟩ (by dsimp only;omega) rfl
 have hEi:¬ (((newU l W H s i m).toNat:Nat):Int)=(((f.p.getD m 0).toNat:Nat):Int):=fun h=>hE (UInt8.toNat_inj.1 (Int.ofNat.inj h))
 have hK:keepB s i (m % W:Nat) (m / W:Nat)=false:=by
  cases e:keepB s i (m % W:Nat) (m / W:Nat) with
  | false=>rfl
  | true=>exact absurd (newU_keep hf e) hE
 rw [hK] at hkk
 have hat:=csT_at hf hm hE
 rw [← v2] at hat
 have hql:=(List.getElem?_eq_some_iff.1 hat).1
 rw [← hCn] at hql
 have hcp:=cgC_part hat
 have hqw:IntKind.i64.wrap ((q:Int)+1)=((q+1:Nat):Int):=by rw [wrap_i64 (by omega) (by omega)];omega
 have hn:q+1=(csT (newU l W H s) l i (m+1)).length:=by rw [csT_new hf hE,List.length_append, ← v2];rfl
 have hqi:q≤(doC l W H s).length - 1:=by omega
 have hq0:0<(doC l W H s).length:=by omega
 have hnlt:¬ (((doC l W H s).length:Nat):Int)≤(q:Int):=by omega
 have heq:eqc [0,0,0,0] [.int .i64 (i:Nat),.int .i64 (m:Nat),.int .u8 ((f.p.getD m 0).toNat:Nat),.int .u8 ((newU l W H s i m).toNat:Nat)] [.int .i64 (i:Nat),.int .i64 (m:Nat),.int .u8 ((f.p.getD m 0).toNat:Nat),.int .u8 ((newU l W H s i m).toNat:Nat)]=some true:=by simp [eqc,eq1]
 repeat' (first
 | (conv=>whnf)
   first
   | refine Br.decF hEi ?_
   | refine Br.decF hnlt ?_
   | refine Bnd.eq hmw ?_
   | refine Bnd.eq hqw ?_
   | refine Br.f ?_
   | (refine Br.decT ?_ ?_;(focus first | assumption | omega))
   | refine Get.mk _ a0 ?_
   | refine Get.mk _ a2 ?_
   | refine Get.mk _ b2 ?_
   | refine Get.mk _ hpx ?_
   | refine Get.mk _ hpy ?_
   | refine Get.mk _ hcp ?_
   | refine Get.mk _ heq ?_
   | refine Idx.nat hil ?_
   | refine Idx.nat hmt ?_
   | refine Idx.nat hqi ?_
   | refine Req.mk hn0 ?_
   | refine Req.mk hp0 ?_
   | refine Req.mk hq0 ?_
   | refine call_fun rfl rfl hkk (.inl rfl) ?_
   | refine Get.mk _ rfl ?_
   | (refine Req.mk ?_ ?_;(focus first | rfl | decide | exact ⟨rfl,rfl⟩ | exact ⟨rfl,by decide⟩ | exact (fun _=>rfl) | exact (fun h=>nomatch h) | (simp;done) | omega | (simp [big];done) | exact le_big (by omega) | exact lt_big (by omega))))
 all_goals first | (exfalso;omega;done) | exact NextP.mk ⟨m+1,q+1⟩ ⟨hm,hn⟩ (by dsimp only;omega) rfl
end Go.Dr.T
namespace Go.Dr.T
theorem hasInt {l:List V} (h:(Ty.int .i64).has l):∃ n:Int,l=[.int .i64 n]:=by
 simp only [Ty.has] at h
 obtain ⟨n,rfl,h1,h2⟩:=h
 exact ⟨n,rfl⟩
theorem hasStr {l:List V} (h:Ty.str.has l):∃ s,l=[.str s]:=by
 simpa only [Ty.has] using h
theorem hasBool {l:List V} (h:Ty.bool.has l):∃ b,l=[.bool b]:=by
 simpa only [Ty.has] using h
theorem int_val {v:V} (h:(Ty.int .i64).val v):∃ n,v = .int .i64 n:=by
 obtain ⟨n,e⟩:=hasInt (l:=[v]) h
 simp only [List.cons.injEq,and_true] at e
 exact ⟨n,e⟩
abbrev TyVt:Ty:=.agg [.str,.int .i64,.bool]
theorem vt_all {l:List V} (h:Ty.hasAll [.str,.int .i64,.bool] l):∃ x:Vt,l=[.str x.who,.int .i64 x.step,.bool x.yes]:=by
 simp only [Ty.hasAll] at h
 obtain ⟨a,b,rfl,ha,c,d,rfl,hc,e,f,rfl,he,rfl⟩:=h
 obtain ⟨s,rfl⟩:=hasStr ha
 obtain ⟨n,rfl⟩:=hasInt hc
 obtain ⟨y,rfl⟩:=hasBool he
 exact ⟨⟨s,n,y⟩,rfl⟩
theorem vts_cells:∀ {xs:List (List V)},(∀ x∈xs,x.length=3∧TyVt.has x)→∃ l:List Vt,xs.flatten=vtC l∧xs.length=l.length
 | [],_=>⟨[],rfl,rfl⟩
 | x :: xs,h=>by
  obtain ⟨l,h1,h2⟩:=vts_cells (xs:=xs) fun y hy=>h y (by simp [hy])
  obtain ⟨_,hx⟩:=h x (by simp)
  obtain ⟨y,rfl⟩:=vt_all (by simpa only [Ty.has] using hx)
  exact ⟨y :: l,by simp only [List.flatten_cons,h1];rfl,by simp [h2]⟩
abbrev TyVts:Ty:=.slice 3 TyVt
theorem vts_val {v:V} (h:TyVts.val v):∃ l:List Vt,v = .sl false l.length (vtC l):=by
 rw [TyVts] at h
 simp only [Ty.val] at h
 rw [Ty.has] at h
 obtain ⟨xs,e,hx⟩:=h
 simp only [List.cons.injEq,and_true] at e
 subst e
 obtain ⟨l,h1,h2⟩:=vts_cells (xs:=xs) hx
 exact ⟨l,by rw [h1,h2]⟩
theorem vts_has {l:List V} (h:TyVts.has l):∃ m:List Vt,l=[.sl false m.length (vtC m)]:=by
 rw [TyVts,Ty.has] at h
 obtain ⟨xs,e,hx⟩:=h
 obtain ⟨m,h1,h2⟩:=vts_cells (xs:=xs) hx
 exact ⟨m,by rw [e,h1,h2]⟩
theorem vt_val {v:V} (h:TyVt.val v):∃ x:Vt,v = .agg [.str x.who,.int .i64 x.step,.bool x.yes]:=by
 simp only [TyVt,Ty.val] at h
 obtain ⟨l,rfl,h⟩:=h
 obtain ⟨x,rfl⟩:=vt_all h
 exact ⟨x,rfl⟩
abbrev TyBal:Ty:=.agg [.int .i64,TyVts,.int .i64]
theorem bal_val {v:V} (h:TyBal.val v):∃ (n need:Int) (m:List Vt),v = .agg [.int .i64 n,.sl false m.length (vtC m),.int .i64 need]:=by
 simp only [TyBal,Ty.val] at h
 obtain ⟨l,rfl,h⟩:=h
 simp only [Ty.hasAll] at h
 obtain ⟨a,b,rfl,ha,c,d,rfl,hc,e,f,rfl,he,rfl⟩:=h
 obtain ⟨n,rfl⟩:=hasInt ha
 obtain ⟨m,rfl⟩:=vts_has hc
 obtain ⟨y,rfl⟩:=hasInt he
 exact ⟨n,y,m,rfl⟩
theorem u8_val {v:V} (h:(Ty.int .u8).val v):∃ n:Int,v = .int .u8 n∧0≤n∧n≤255:=by
 simp only [Ty.val,Ty.has] at h
 obtain ⟨n,e,h1,h2⟩:=h
 simp only [List.cons.injEq,and_true] at e
 exact ⟨n,e,h1,h2⟩
end Go.Dr.T
namespace Go.Dr.T
theorem bytes_cells:∀ {xs:List (List V)},(∀ x∈xs,x.length=1∧(Ty.int .u8).has x)→∃ l:List UInt8,xs.flatten=ofBytes l∧xs.length=l.length
 | [],_=>⟨[],rfl,rfl⟩
 | x :: xs,h=>by
  obtain ⟨l,h1,h2⟩:=bytes_cells (xs:=xs) fun y hy=>h y (by simp [hy])
  obtain ⟨_,hx⟩:=h x (by simp)
  simp only [Ty.has] at hx
  obtain ⟨n,rfl,h3,h4⟩:=hx
  simp only [IntKind.min,IntKind.max,IntKind.signed,IntKind.bits,Bool.false_eq_true,if_false] at h3 h4
  have h4' : n≤255:=by simpa using h4
  refine ⟨UInt8.ofNat n.toNat :: l,?_,by simp [h2]⟩
  have e:((UInt8.ofNat n.toNat).toNat:Int)=n:=by
   rw [UInt8.toNat_ofNat_of_lt' (by show n.toNat<256;omega)];omega
  simp only [List.flatten_cons,h1,ofBytes,e];rfl
theorem hasBytes {l:List V} (h:(Ty.slice 1 (.int .u8)).has l):∃ p:List UInt8,l=[.sl false p.length (ofBytes p)]:=by
 rw [Ty.has] at h
 obtain ⟨xs,rfl,hx⟩:=h
 obtain ⟨p,h1,h2⟩:=bytes_cells hx
 exact ⟨p,by rw [h1,h2]⟩
abbrev TyFm:Ty:=.agg [.int .i64,.int .i64,.slice 1 (.int .u8)]
theorem fm_all {l:List V} (h:Ty.hasAll [.int .i64,.int .i64,.slice 1 (.int .u8)] l):∃ f:Fm,l=[.int .i64 f.w,.int .i64 f.h,.sl f.c f.p.length (ofBytes f.p)]:=by
 simp only [Ty.hasAll] at h
 obtain ⟨a,b,rfl,ha,c,d,rfl,hc,e,f,rfl,he,rfl⟩:=h
 obtain ⟨w,rfl⟩:=hasInt ha
 obtain ⟨h,rfl⟩:=hasInt hc
 obtain ⟨p,rfl⟩:=hasBytes he
 exact ⟨⟨false,w,h,p⟩,rfl⟩
theorem fms_cells:∀ {xs:List (List V)},(∀ x∈xs,x.length=3∧TyFm.has x)→∃ l:List Fm,xs.flatten=fmC l∧xs.length=l.length
 | [],_=>⟨[],rfl,rfl⟩
 | x :: xs,h=>by
  obtain ⟨l,h1,h2⟩:=fms_cells (xs:=xs) fun y hy=>h y (by simp [hy])
  obtain ⟨_,hx⟩:=h x (by simp)
  obtain ⟨y,rfl⟩:=fm_all (by simpa only [Ty.has] using hx)
  exact ⟨y :: l,by simp only [List.flatten_cons,h1];rfl,by simp [h2]⟩
abbrev TyFms:Ty:=.slice 3 TyFm
theorem fms_val {v:V} (h:TyFms.val v):∃ l:List Fm,v = .sl false l.length (fmC l):=by
 rw [TyFms] at h
 simp only [Ty.val] at h
 rw [Ty.has] at h
 obtain ⟨xs,e,hx⟩:=h
 simp only [List.cons.injEq,and_true] at e
 subst e
 obtain ⟨l,h1,h2⟩:=fms_cells (xs:=xs) hx
 exact ⟨l,by rw [h1,h2]⟩
abbrev TyBx:Ty:=.agg [.int .i64,.int .i64,.int .i64,.int .i64]
theorem bx_all {l:List V} (h:Ty.hasAll [.int .i64,.int .i64,.int .i64,.int .i64] l):∃ x:Bx,l=bxV x:=by
 simp only [Ty.hasAll] at h
 obtain ⟨a,b,rfl,ha,c,d,rfl,hc,e,f,rfl,he,g,i,rfl,hg,rfl⟩:=h
 obtain ⟨w,rfl⟩:=hasInt ha
 obtain ⟨h,rfl⟩:=hasInt hc
 obtain ⟨p,rfl⟩:=hasInt he
 obtain ⟨q,rfl⟩:=hasInt hg
 exact ⟨⟨w,h,p,q⟩,rfl⟩
theorem bxs_cells:∀ {xs:List (List V)},(∀ x∈xs,x.length=4∧TyBx.has x)→∃ l:List Bx,xs.flatten=bxC l∧xs.length=l.length
 | [],_=>⟨[],rfl,rfl⟩
 | x :: xs,h=>by
  obtain ⟨l,h1,h2⟩:=bxs_cells (xs:=xs) fun y hy=>h y (by simp [hy])
  obtain ⟨_,hx⟩:=h x (by simp)
  obtain ⟨y,rfl⟩:=bx_all (by simpa only [Ty.has] using hx)
  exact ⟨y :: l,by simp only [List.flatten_cons,h1];rfl,by simp [h2]⟩
theorem hasBxs {l:List V} (h:(Ty.slice 4 TyBx).has l):∃ p:List Bx,l=[.sl false p.length (bxC p)]:=by
 rw [Ty.has] at h
 obtain ⟨xs,rfl,hx⟩:=h
 obtain ⟨p,h1,h2⟩:=bxs_cells hx
 exact ⟨p,by rw [h1,h2]⟩
abbrev TySp:Ty:=.agg [.int .i64,.int .i64,.int .i64,.slice 4 TyBx,.int .i64,.int .i64,.int .i64,.slice 1 (.int .u8)]
theorem sp_all {l:List V} (h:Ty.hasAll [.int .i64,.int .i64,.int .i64,.slice 4 TyBx,.int .i64,.int .i64,.int .i64,.slice 1 (.int .u8)] l):∃ s:Sp,l=spV s:=by
 simp only [Ty.hasAll] at h
 obtain ⟨a1,b1,rfl,h1,a2,b2,rfl,h2,a3,b3,rfl,h3,a4,b4,rfl,h4,a5,b5,rfl,h5,a6,b6,rfl,h6,a7,b7,rfl,h7,a8,b8,rfl,h8,rfl⟩:=h
 obtain ⟨n1,rfl⟩:=hasInt h1
 obtain ⟨n2,rfl⟩:=hasInt h2
 obtain ⟨n3,rfl⟩:=hasInt h3
 obtain ⟨n4,rfl⟩:=hasBxs h4
 obtain ⟨n5,rfl⟩:=hasInt h5
 obtain ⟨n6,rfl⟩:=hasInt h6
 obtain ⟨n7,rfl⟩:=hasInt h7
 obtain ⟨n8,rfl⟩:=hasBytes h8
 exact ⟨⟨n1,n2,n3,false,n4,n5,n6,n7,false,n8⟩,rfl⟩
theorem sp_val {v:V} (h:TySp.val v):∃ s:Sp,v = .agg (spV s):=by
 rw [TySp] at h
 simp only [Ty.val] at h
 obtain ⟨l,rfl,h⟩:=h
 obtain ⟨s,rfl⟩:=sp_all h
 exact ⟨s,rfl⟩
end Go.Dr.T
namespace Go.Dr.T
theorem tab_mono {P:Program} {name:String} {kk:IntKind} {zs:List Int} {g:Nat} (hg:P.globalNamed name=some g) {w w' : World} (h:Go.RowKit.Below (g+1) w w') (t:Lib.TabIs P w name kk zs):Lib.TabIs P w' name kk zs:=by
 unfold Lib.TabIs World.var? at t ⊢
 rw [hg] at t ⊢
 simp only [Option.bind_some] at t ⊢
 rw [h.block g (Nat.lt_succ_self g)]
 exact t
theorem tab_size {P:Program} {name:String} {kk:IntKind} {zs:List Int} {g:Nat} (hg:P.globalNamed name=some g) {w:World} (t:Lib.TabIs P w name kk zs):g+1≤w.heap.size:=by
 unfold Lib.TabIs World.var? at t
 rw [hg] at t
 simp only [Option.bind_some] at t
 split at t
 ·rename_i h
  exact (Array.getElem?_eq_some_iff.1 h).1
 ·cases t
theorem tab_in {P:Program} {W:World} {name:String} {kk:IntKind} {zs:List Int} {g t e n:Nat}
  (hg:P.globalNamed name=some g) (hty:(P.globals[g]?).map (·.type)=some t) (ht:P.underlying t=some (.array n e)) (he:P.underlying e=some (.int kk)) (hce:P.cellsOf e=1) (hct:P.cellsOf t=n) :
  ∀ {l:List (String × DataW Unit)} {ps:List MemPlace},DataW.LaidVars P W l ps→(name,Lib.tabData kk zs)∈l→Lib.TabIs P W name kk zs
 | [],_,_,hm=>by cases hm
 | (n', d) :: l,ps,h,hm=>by
  obtain ⟨g', t', cs,fuel,p,q,hg', ht', hvar,hd,hr,_⟩:=h
  rcases List.mem_cons.1 hm with e0 | hm
  ·cases e0
   obtain rfl:=Option.some.inj (hg.symm.trans hg')
   obtain rfl:=Option.some.inj (hty.symm.trans ht')
   unfold Lib.TabIs
   rw [hvar, ← Lib.cells_of_tab ht he hce hct hd]
  ·exact tab_in hg hty ht he hce hct hr hm
end Go.Dr.T
