/- Cuts of the bench: how many frames are left, walked. -/
import Derived.Test.YtcjhgcjmomildaaGreatDoorG1
import Derived.Test.YtcjhgcjmomildaaGreatDoorDrJ
namespace Go.Dr.T
theorem bout_ok {n lo hi:Int}:Fun FB md 20 [.int .i64 n,.int .i64 lo,.int .i64 hi] (.bool (outB n lo hi)):=by
 refine fun_of rfl rfl ?_
 by_cases h1:n<lo <;> by_cases h2:n > hi
 all_goals
  repeat' (first
 | (conv=>whnf)
   first
   | (refine Br.decT ?_ ?_;(focus first | assumption | omega))
   | (refine Br.decF ?_ ?_;(focus first | assumption | omega))
   | refine Get.mk _ rfl ?_
   | refine Leaves.of ?_
   | refine Vw.bool ?_)
  all_goals simp [outB,h1,h2]
def lngC (c:Int × Int):Int:=c.2 - c.1+1
set_option maxRecDepth 100000 in
theorem long_ok {c:Int × Int} (h:0≤c.1∧c.1≤200000∧0≤c.2∧c.2≤200000):Fun FB md 22 [.agg [.int .i64 c.1,.int .i64 c.2]] (.int .i64 (lngC c)):=by
 obtain ⟨a,b⟩:=c
 dsimp only at h
 unfold lngC
 refine fun_of rfl rfl ?_
 repeat' (first
 | (conv=>whnf)
   first
   | (refine Bnd.i64 ?_ ?_ ?_;(focus omega);(focus omega))
   | refine Get.mk _ rfl ?_
   | refine Leaves.of ?_
   | refine Vw.int ?_
   | (refine Req.mk ?_ ?_;(focus first | rfl | decide | exact ⟨rfl,rfl⟩ | exact ⟨rfl,by decide⟩ | exact (fun _=>rfl) | exact (fun h=>nomatch h) | (simp;done) | omega | (simp [big];done) | exact le_big (by omega) | exact lt_big (by omega))))
 all_goals first | rfl | (exfalso;omega;done)
def mdF:Int→List (Int × Int)→Int × Int
 | f,[]=>(f,0)
 | f,c :: l=>if outB c.1 0 (f - 1)=true∨outB c.2 0 (f - 1)=true then (0,7) else if c.2<c.1 then (0,2) else mdF (f - lngC c) l
def madeP (f:Int) (l:List (Int × Int)):Int × Int:=if outB f 1 200000=true then (0,7) else if 30<l.length then (0,3) else mdF f l
structure MA where
 i:Nat
 f:Int
set_option maxRecDepth 100000 in
set_option maxHeartbeats 20000000 in
theorem made_ok {f:Int} {c:Bool} {l:List (Int × Int)}:Fun FB md 19 [.int .i64 f,.sl c l.length (shC l)] (.tup [.int .i64 (madeP f l).1,.int .i64 (madeP f l).2]):=by
 have h1:=bout_ok (n:=f) (lo:=1) (hi:=200000)
 unfold madeP
 cases ho:outB f 1 200000 with
 | true =>
  rw [ho] at h1
  rw [if_pos rfl]
  refine fun_of rfl rfl ?_
  repeat' (first
 | (conv=>whnf)
   first
   | refine Br.t ?_
   | refine call_fun rfl rfl h1 (.inl rfl) ?_
   | refine Get.mk _ rfl ?_
   | refine Leaves.of ?_
   | refine Vw.int ?_
   | refine Vw.tup ?_
   | refine VwL.cons ?_ ?_
   | refine VwL.nil)
  all_goals first | rfl | (exfalso;omega;done)
 | false =>
 rw [ho] at h1
 rw [if_neg (by simp)]
 have hf:1≤f∧f≤200000:=by simp only [outB,Bool.or_eq_false_iff,decide_eq_false_iff_not] at ho;omega
 by_cases hl:30<l.length
 ·rw [if_pos hl]
  refine fun_of rfl rfl ?_
  repeat' (first
 | (conv=>whnf)
   first
   | refine Br.f ?_
   | (refine Br.decT ?_ ?_;(focus first | assumption | omega))
   | refine call_fun rfl rfl h1 (.inl rfl) ?_
   | refine Get.mk _ rfl ?_
   | refine Leaves.of ?_
   | refine Vw.int ?_
   | refine Vw.tup ?_
   | refine VwL.cons ?_ ?_
   | refine VwL.nil)
  all_goals first | rfl | (exfalso;omega;done)
 rw [if_neg hl]
 refine fun_of rfl rfl ?_
 repeat' (first
 | (conv=>whnf)
   first
   | refine Br.f ?_
   | (refine Br.decF ?_ ?_;(focus first | assumption | omega))
   | refine call_fun rfl rfl h1 (.inl rfl) ?_)
 all_goals try (exfalso;omega;done)
 refine LoopP.by (fun a:MA=>a.i≤l.length∧0≤a.f∧a.f≤200000∧mdF a.f (l.drop a.i)=mdF f l) (fun a=>[(0,.int .i64 a.f),(17,.int .i64 (a.i:Nat))]) (fun _=>[]) (fun a=>l.length - a.i) ⟨0,f⟩ ⟨Nat.zero_le _,by (try dsimp only);omega,by (try dsimp only);omega,rfl⟩ rfl ?_
 rintro ⟨i,g⟩ ⟨w1,w2,w3,w4⟩
 dsimp only at w1 w2 w3 w4 ⊢
 by_cases hi:i<l.length
 rotate_left
 ·rw [List.drop_eq_nil_of_le (by omega)] at w4
  rw [← w4]
  repeat' (first
 | (conv=>whnf)
   first
   | (refine Br.decF ?_ ?_;(focus first | assumption | omega))
   | refine Get.mk _ rfl ?_
   | refine Leaves.of ?_
   | refine Vw.int ?_
   | refine Vw.tup ?_
   | refine VwL.cons ?_ ?_
   | refine VwL.nil)
  all_goals first | rfl | (exfalso;omega;done)
 obtain ⟨p,hp⟩:∃ p,l[i]?=some p:=⟨_,List.getElem?_eq_getElem hi⟩
 have hpart:=shC_part hp
 have hd:l.drop i=p :: l.drop (i+1):=by
  obtain ⟨h1,h2⟩:=List.getElem?_eq_some_iff.1 hp
  rw [List.drop_eq_getElem_cons h1,h2]
 rw [hd,mdF] at w4
 have h2:=bout_ok (n:=p.1) (lo:=0) (hi:=g - 1)
 have h3:=bout_ok (n:=p.2) (lo:=0) (hi:=g - 1)
 by_cases ha:outB p.1 0 (g - 1)=true
 ·rw [if_pos (.inl ha)] at w4
  rw [ha] at h2
  rw [← w4]
  repeat' (first
 | (conv=>whnf)
   first
   | refine Br.t ?_
   | (refine Br.decT ?_ ?_;(focus first | assumption | omega))
   | (refine Bnd.i64 ?_ ?_ ?_;(focus omega);(focus omega))
   | refine Get.mk _ hpart ?_
   | refine call_fun rfl rfl h2 (.inl rfl) ?_
   | (refine Idx.nat ?_ ?_;(focus omega))
   | refine Get.mk _ rfl ?_
   | refine Leaves.of ?_
   | refine Vw.int ?_
   | refine Vw.tup ?_
   | refine VwL.cons ?_ ?_
   | refine VwL.nil
   | (refine Req.mk ?_ ?_;(focus first | rfl | decide | exact ⟨rfl,rfl⟩ | exact ⟨rfl,by decide⟩ | exact (fun _=>rfl) | exact (fun h=>nomatch h) | (simp;done) | omega | (simp [big];done) | exact le_big (by omega) | exact lt_big (by omega))))
  all_goals first | rfl | (exfalso;omega;done)
 have ha' : outB p.1 0 (g - 1)=false:=by simpa using ha
 by_cases hb:outB p.2 0 (g - 1)=true
 ·rw [if_pos (.inr hb)] at w4
  rw [ha'] at h2
  rw [hb] at h3
  rw [← w4]
  repeat' (first
 | (conv=>whnf)
   first
   | refine Br.t ?_
   | refine Br.f ?_
   | (refine Br.decT ?_ ?_;(focus first | assumption | omega))
   | (refine Bnd.i64 ?_ ?_ ?_;(focus omega);(focus omega))
   | refine Get.mk _ hpart ?_
   | refine call_fun rfl rfl h2 (.inl rfl) ?_
   | refine call_fun rfl rfl h3 (.inl rfl) ?_
   | (refine Idx.nat ?_ ?_;(focus omega))
   | refine Get.mk _ rfl ?_
   | refine Leaves.of ?_
   | refine Vw.int ?_
   | refine Vw.tup ?_
   | refine VwL.cons ?_ ?_
   | refine VwL.nil
   | (refine Req.mk ?_ ?_;(focus first | rfl | decide | exact ⟨rfl,rfl⟩ | exact ⟨rfl,by decide⟩ | exact (fun _=>rfl) | exact (fun h=>nomatch h) | (simp;done) | omega | (simp [big];done) | exact le_big (by omega) | exact lt_big (by omega))))
  all_goals first | rfl | (exfalso;omega;done)
 have hb' : outB p.2 0 (g - 1)=false:=by simpa using hb
 rw [if_neg (fun h=>h.elim ha hb)] at w4
 rw [ha'] at h2
 rw [hb'] at h3
 simp only [outB,Bool.or_eq_false_iff,decide_eq_false_iff_not] at ha' hb'
 by_cases hc:p.2<p.1
 ·rw [if_pos hc] at w4
  rw [← w4]
  repeat' (first
 | (conv=>whnf)
   first
   | refine Br.f ?_
   | (refine Br.decT ?_ ?_;(focus first | assumption | omega))
   | (refine Bnd.i64 ?_ ?_ ?_;(focus omega);(focus omega))
   | refine Get.mk _ hpart ?_
   | refine call_fun rfl rfl h2 (.inl rfl) ?_
   | refine call_fun rfl rfl h3 (.inl rfl) ?_
   | (refine Idx.nat ?_ ?_;(focus omega))
   | refine Get.mk _ rfl ?_
   | refine Leaves.of ?_
   | refine Vw.int ?_
   | refine Vw.tup ?_
   | refine VwL.cons ?_ ?_
   | refine VwL.nil
   | (refine Req.mk ?_ ?_;(focus first | rfl | decide | exact ⟨rfl,rfl⟩ | exact ⟨rfl,by decide⟩ | exact (fun _=>rfl) | exact (fun h=>nomatch h) | (simp;done) | omega | (simp [big];done) | exact le_big (by omega) | exact lt_big (by omega))))
  all_goals first | rfl | (exfalso;omega;done)
 rw [if_neg hc] at w4
 have h4:=long_ok (c:=p) (by omega)
 have hln:lngC p=p.2 - p.1+1:=rfl
 have hwr:IntKind.i64.wrap (g - lngC p)=g - lngC p:=wrap_i64 (by omega) (by omega)
 repeat' (first
 | (conv=>whnf)
   first
   | refine Bnd.eq hwr ?_
   | refine Br.f ?_
   | (refine Br.decT ?_ ?_;(focus first | assumption | omega))
   | (refine Br.decF ?_ ?_;(focus first | assumption | omega))
   | (refine Bnd.i64 ?_ ?_ ?_;(focus omega);(focus omega))
   | refine Get.mk _ hpart ?_
   | refine call_fun rfl rfl h2 (.inl rfl) ?_
   | refine call_fun rfl rfl h3 (.inl rfl) ?_
   | refine call_fun rfl rfl h4 (.inl rfl) ?_
   | (refine Idx.nat ?_ ?_;(focus omega))
   | refine Get.mk _ rfl ?_
   | (refine Req.mk ?_ ?_;(focus first | rfl | decide | exact ⟨rfl,rfl⟩ | exact ⟨rfl,by decide⟩ | exact (fun _=>rfl) | exact (fun h=>nomatch h) | (simp;done) | omega | (simp [big];done) | exact le_big (by omega) | exact lt_big (by omega))))
 all_goals first | (exfalso;omega;done) | exact NextP.mk ⟨i+1,g - lngC p⟩ ⟨hi,by (try dsimp only);omega,by (try dsimp only);omega,w4⟩ (by (try dsimp only);omega) rfl
theorem mdF_good {f:Int}:∀ {l:List (Int × Int)},0≤f→f≤200000→(mdF f l).2=0→∀ c∈l,0≤c.1∧c.1≤c.2∧c.2<200000:=by
 intro l
 induction l generalizing f with
 | nil=>intro _ _ _ c hc;cases hc
 | cons p l ih =>
  intro h0 h1 h c hc
  rw [mdF] at h
  split at h
  ·cases h
  ·rename_i hn
   split at h
   ·cases h
   ·rename_i hlt
    have hp:¬ outB p.1 0 (f - 1)=true∧¬ outB p.2 0 (f - 1)=true:=⟨fun e=>hn (.inl e),fun e=>hn (.inr e)⟩
    simp only [outB,Bool.or_eq_true,decide_eq_true_eq,not_or] at hp
    have hln:lngC p=p.2 - p.1+1:=rfl
    rcases List.mem_cons.1 hc with hc | hc
    ·subst hc;omega
    ·exact ih (by omega) (by omega) h c hc
end Go.Dr.T
namespace Go.Dr.T
theorem in_ok {n lo hi:Int}:Fun FB md 12 [.int .i64 n,.int .i64 lo,.int .i64 hi] (.bool (!outB n lo hi)):=by
 refine fun_of rfl rfl ?_
 by_cases h1:n ≥ lo <;> by_cases h2:n≤hi
 all_goals
  repeat' (first
 | (conv=>whnf)
   first
   | (refine Br.decT ?_ ?_;(focus first | assumption | omega))
   | (refine Br.decF ?_ ?_;(focus first | assumption | omega))
   | refine Get.mk _ rfl ?_
   | refine Leaves.of ?_
   | refine Vw.bool ?_)
  all_goals first | (simp [outB,h1,h2];done) | (simp [outB,h1,h2];omega)
theorem cellAt_drop:∀ {c:List V} {n:Nat} {v:V} {r:List V},c.drop n=v :: r→cellAt c n=some v
 | [],n,v,r,h=>by simp at h
 | x :: c,0,v,r,h=>by
  simp only [List.drop_zero,List.cons.injEq] at h
  obtain ⟨rfl,_⟩:=h;rfl
 | x :: c,n+1,v,r,h=>by
  have:=cellAt_drop (c:=c) (n:=n) (by simpa using h)
  simpa only [cellAt] using this
theorem shC_cell {l:List (Int × Int)} {i:Nat} {p:Int × Int} (h:l[i]?=some p):cellAt (shC l) (i * 2)=some (.int .i64 p.1):=cellAt_drop (shC_drop h)
set_option maxRecDepth 100000 in
set_option maxHeartbeats 20000000 in
theorem refCheck_ok {nm:List UInt8} {c:Bool} {l:List (Int × Int)} {g:Int}:Fun FB md 4 [elV nm c l g] (.tup [.int .i64 (ckE nm l g).1,.int .i64 (ckE nm l g).2]):=by
 have h1:=refName_ok (s:=nm)
 unfold ckE
 cases hn:nmOk nm <;> rw [hn] at h1
 ·rw [if_pos rfl]
  refine fun_of rfl rfl ?_
  repeat' (first
 | (conv=>whnf)
   first
   | refine Br.t ?_
   | refine call_fun rfl rfl h1 (.inl rfl) ?_
   | refine Get.mk _ rfl ?_
   | refine Leaves.of ?_
   | refine Vw.int ?_
   | refine Vw.tup ?_
   | refine VwL.cons ?_ ?_
   | refine VwL.nil
   | (refine Req.mk ?_ ?_;(focus first | rfl | decide | exact ⟨rfl,rfl⟩ | exact ⟨rfl,by decide⟩ | exact (fun _=>rfl) | exact (fun h=>nomatch h) | (simp;done) | omega | (simp [big];done) | exact le_big (by omega) | exact lt_big (by omega))))
  all_goals rfl
 rw [if_neg (by simp)]
 have h2:=in_ok (n:=g) (lo:=0) (hi:=9)
 cases hg:outB g 0 9 <;> rw [hg] at h2
 rotate_left
 ·rw [if_pos rfl]
  refine fun_of rfl rfl ?_
  repeat' (first
 | (conv=>whnf)
   first
   | refine Br.t ?_
   | refine Br.f ?_
   | refine call_fun rfl rfl h1 (.inl rfl) ?_
   | refine call_fun rfl rfl h2 (.inl rfl) ?_
   | refine Get.mk _ rfl ?_
   | refine Leaves.of ?_
   | refine Vw.int ?_
   | refine Vw.tup ?_
   | refine VwL.cons ?_ ?_
   | refine VwL.nil
   | (refine Req.mk ?_ ?_;(focus first | rfl | decide | exact ⟨rfl,rfl⟩ | exact ⟨rfl,by decide⟩ | exact (fun _=>rfl) | exact (fun h=>nomatch h) | (simp;done) | omega | (simp [big];done) | exact le_big (by omega) | exact lt_big (by omega))))
  all_goals rfl
 rw [if_neg (by simp)]
 by_cases h3:40<l.length
 ·rw [if_pos h3]
  refine fun_of rfl rfl ?_
  repeat' (first
 | (conv=>whnf)
   first
   | refine Br.f ?_
   | (refine Br.decT ?_ ?_;(focus first | assumption | omega))
   | refine call_fun rfl rfl h1 (.inl rfl) ?_
   | refine call_fun rfl rfl h2 (.inl rfl) ?_
   | refine Get.mk _ rfl ?_
   | refine Leaves.of ?_
   | refine Vw.int ?_
   | refine Vw.tup ?_
   | refine VwL.cons ?_ ?_
   | refine VwL.nil
   | (refine Req.mk ?_ ?_;(focus first | rfl | decide | exact ⟨rfl,rfl⟩ | exact ⟨rfl,by decide⟩ | exact (fun _=>rfl) | exact (fun h=>nomatch h) | (simp;done) | omega | (simp [big];done) | exact le_big (by omega) | exact lt_big (by omega))))
  all_goals first | rfl | (exfalso;omega)
 rw [if_neg h3]
 refine fun_of rfl rfl ?_
 repeat' (first
 | (conv=>whnf)
   first
   | refine Br.f ?_
   | (refine Br.decF ?_ ?_;(focus first | assumption | omega))
   | refine call_fun rfl rfl h1 (.inl rfl) ?_
   | refine call_fun rfl rfl h2 (.inl rfl) ?_
   | refine Get.mk _ rfl ?_
   | (refine Req.mk ?_ ?_;(focus first | rfl | decide | exact ⟨rfl,rfl⟩ | exact ⟨rfl,by decide⟩ | exact (fun _=>rfl) | exact (fun h=>nomatch h) | (simp;done) | omega | (simp [big];done) | exact le_big (by omega) | exact lt_big (by omega))))
 refine LoopP.by (fun i:Nat=>i≤l.length∧ckF l 0 l.length=ckF l i (l.length - i)) (fun i=>[(4,.int .i64 (i:Nat))])
  (fun _=>[.blk [.str nm,.sl c l.length (shC l),.int .i64 g] false]) (fun i=>l.length - i) 0 ⟨Nat.zero_le _,rfl⟩ rfl ?_
 rintro i ⟨q1,q3⟩
 dsimp only
 by_cases hi:i<l.length
 rotate_left
 ·have hres:ckF l 0 l.length=(0,0):=by rw [q3,show l.length - i=0 by omega,ckF]
  repeat' (first
 | (conv=>whnf)
   first
   | (refine Br.decF ?_ ?_;(focus first | assumption | omega))
   | refine Get.mk _ rfl ?_
   | refine Leaves.of ?_
   | refine Vw.int ?_
   | refine Vw.tup ?_
   | refine VwL.cons ?_ ?_
   | refine VwL.nil
   | (refine Req.mk ?_ ?_;(focus first | rfl | decide | exact ⟨rfl,rfl⟩ | exact ⟨rfl,by decide⟩ | exact (fun _=>rfl) | exact (fun h=>nomatch h) | (simp;done) | omega | (simp [big];done) | exact le_big (by omega) | exact lt_big (by omega))))
  ·exact congrArg Prod.fst hres.symm
  ·exact congrArg Prod.snd hres.symm
 obtain ⟨p,hp⟩:∃ p,l[i]?=some p:=⟨_,List.getElem?_eq_getElem hi⟩
 have hpart:=shC_part hp
 have hE:eF l i=if outB p.1 0 999 || outB p.2 1 200000 then 7 else if 0<p.1∧p.1∈(l.take i).map (·.1) then 5 else 0:=by simp only [eF,hp]
 obtain ⟨m,f⟩:=p
 simp only at hpart hE
 have h4:=in_ok (n:=m) (lo:=0) (hi:=999)
 have h5:=in_ok (n:=f) (lo:=1) (hi:=200000)
 have err:∀ e:Int,e≠0→eF l i=e→ckF l 0 l.length=((i:Int),e):=fun e h0 he=>by rw [q3,ckF_err hi (by rw [he];exact h0),he]
 cases hb4:outB m 0 999 <;> rw [hb4] at h4
 rotate_left
 ·have hres:=err 7 (by decide) (by rw [hE,hb4];rfl)
  repeat' (first
 | (conv=>whnf)
   first
   | refine Br.t ?_
   | (refine Br.decT ?_ ?_;(focus first | assumption | omega))
   | refine Get.mk _ hpart ?_
   | refine call_fun rfl rfl h4 (.inl rfl) ?_
   | (refine Idx.nat ?_ ?_;(focus omega))
   | refine Get.mk _ rfl ?_
   | refine Leaves.of ?_
   | refine Vw.int ?_
   | refine Vw.tup ?_
   | refine VwL.cons ?_ ?_
   | refine VwL.nil
   | (refine Req.mk ?_ ?_;(focus first | rfl | decide | exact ⟨rfl,rfl⟩ | exact ⟨rfl,by decide⟩ | exact (fun _=>rfl) | exact (fun h=>nomatch h) | (simp;done) | omega | (simp [big];done) | exact le_big (by omega) | exact lt_big (by omega))))
  ·exact congrArg Prod.fst hres.symm
  ·exact congrArg Prod.snd hres.symm
 cases hb5:outB f 1 200000 <;> rw [hb5] at h5
 rotate_left
 ·have hres:=err 7 (by decide) (by rw [hE,hb4,hb5];rfl)
  repeat' (first
 | (conv=>whnf)
   first
   | refine Br.t ?_
   | refine Br.f ?_
   | (refine Br.decT ?_ ?_;(focus first | assumption | omega))
   | refine Get.mk _ hpart ?_
   | refine call_fun rfl rfl h4 (.inl rfl) ?_
   | refine call_fun rfl rfl h5 (.inl rfl) ?_
   | (refine Idx.nat ?_ ?_;(focus omega))
   | refine Get.mk _ rfl ?_
   | refine Leaves.of ?_
   | refine Vw.int ?_
   | refine Vw.tup ?_
   | refine VwL.cons ?_ ?_
   | refine VwL.nil
   | (refine Req.mk ?_ ?_;(focus first | rfl | decide | exact ⟨rfl,rfl⟩ | exact ⟨rfl,by decide⟩ | exact (fun _=>rfl) | exact (fun h=>nomatch h) | (simp;done) | omega | (simp [big];done) | exact le_big (by omega) | exact lt_big (by omega))))
  ·exact congrArg Prod.fst hres.symm
  ·exact congrArg Prod.snd hres.symm
 rw [hb4,hb5,if_neg (by simp)] at hE
 repeat' (first
 | (conv=>whnf)
   first
   | refine Br.f ?_
   | (refine Br.decT ?_ ?_;(focus first | assumption | omega))
   | refine Get.mk _ hpart ?_
   | refine call_fun rfl rfl h4 (.inl rfl) ?_
   | refine call_fun rfl rfl h5 (.inl rfl) ?_
   | (refine Idx.nat ?_ ?_;(focus omega))
   | refine Get.mk _ rfl ?_
   | (refine Req.mk ?_ ?_;(focus first | rfl | decide | exact ⟨rfl,rfl⟩ | exact ⟨rfl,by decide⟩ | exact (fun _=>rfl) | exact (fun h=>nomatch h) | (simp;done) | omega | (simp [big];done) | exact le_big (by omega) | exact lt_big (by omega))))
 refine LoopP.by (fun k:Nat=>k≤i∧∀ j q,j<k→l[j]?=some q→¬ (0<m∧q.1=m)) (fun k=>[(6,.int .i64 (k:Nat))])
  (fun _=>[.blk [.str nm,.sl c l.length (shC l),.int .i64 g] false,.blk [.int .i64 m,.int .i64 f] false]) (fun k=>i - k) 0 ⟨Nat.zero_le _,fun j q h=>absurd h (Nat.not_lt_zero _)⟩ rfl ?_
 rintro k ⟨k1,k2⟩
 dsimp only
 by_cases hk:k<i
 rotate_left
 ·have hz:eF l i=0:=by
   rw [hE,if_neg]
   rintro ⟨h,hm⟩
   obtain ⟨q,hq,rfl⟩:=List.mem_map.1 hm
   obtain ⟨j,hj⟩:=List.getElem?_of_mem hq
   rw [List.getElem?_take] at hj
   split at hj
   ·exact k2 j q (by omega) hj ⟨h,rfl⟩
   ·cases hj
  repeat' (first
 | (conv=>whnf)
   first
   | (refine Br.decF ?_ ?_;(focus first | assumption | omega))
   | (refine Bnd.i64 ?_ ?_ ?_;(focus omega);(focus omega)))
  refine NextP.mk (i+1) ⟨hi,by rw [q3,ckF_next hi hz]⟩ (by omega) rfl
 obtain ⟨q,hq⟩:∃ q,l[k]?=some q:=⟨_,List.getElem?_eq_getElem (by omega)⟩
 have hcell:cellAt (shC l) (k * 2+0)=some (.int .i64 q.1):=shC_cell hq
 by_cases hm:0<m∧q.1=m
 ·have hmem:m∈(l.take i).map (·.1):=List.mem_map.2 ⟨q,List.mem_of_getElem? (i:=k) (by rw [List.getElem?_take,if_pos hk,hq]),hm.2⟩
  have hres:=err 5 (by decide) (by rw [hE,if_pos ⟨hm.1,hmem⟩])
  obtain ⟨hm1,hm2⟩:=hm
  repeat' (first
 | (conv=>whnf)
   first
   | (refine Br.decT ?_ ?_;(focus first | assumption | omega))
   | refine Get.mk _ hcell ?_
   | (refine Idx.nat ?_ ?_;(focus omega))
   | refine Get.mk _ rfl ?_
   | refine Leaves.of ?_
   | refine Vw.int ?_
   | refine Vw.tup ?_
   | refine VwL.cons ?_ ?_
   | refine VwL.nil
   | (refine Req.mk ?_ ?_;(focus first | rfl | decide | exact ⟨rfl,rfl⟩ | exact ⟨rfl,by decide⟩ | exact (fun _=>rfl) | exact (fun h=>nomatch h) | (simp;done) | omega | (simp [big];done) | exact le_big (by omega) | exact lt_big (by omega))))
  all_goals first | exact congrArg Prod.fst hres.symm | exact congrArg Prod.snd hres.symm
 ·have hn:k+1≤i∧∀ j q,j<k+1→l[j]?=some q→¬ (0<m∧q.1=m):=by
   refine ⟨hk,fun j q' hj hq' => ?_⟩
   by_cases h:j<k
   ·exact k2 j q' h hq'
   ·obtain rfl:j=k:=by omega
    rw [hq] at hq'; cases hq'; exact hm
  by_cases hm1:0<m
  ·have hm2:q.1≠m:=fun h=>hm ⟨hm1,h⟩
   repeat' (first
 | (conv=>whnf)
   first
   | (refine Br.decT ?_ ?_;(focus first | assumption | omega))
   | (refine Br.decF ?_ ?_;(focus first | assumption | omega))
   | (refine Bnd.i64 ?_ ?_ ?_;(focus omega);(focus omega))
   | refine Get.mk _ hcell ?_
   | (refine Idx.nat ?_ ?_;(focus omega))
   | refine Get.mk _ rfl ?_
   | (refine Req.mk ?_ ?_;(focus first | rfl | decide | exact ⟨rfl,rfl⟩ | exact ⟨rfl,by decide⟩ | exact (fun _=>rfl) | exact (fun h=>nomatch h) | (simp;done) | omega | (simp [big];done) | exact le_big (by omega) | exact lt_big (by omega))))
   all_goals exact NextP.mk (k+1) hn (by omega) rfl
  ·repeat' (first
 | (conv=>whnf)
   first
   | refine Br.f ?_
   | (refine Br.decT ?_ ?_;(focus first | assumption | omega))
   | (refine Br.decF ?_ ?_;(focus first | assumption | omega))
   | (refine Bnd.i64 ?_ ?_ ?_;(focus omega);(focus omega))
   | refine Get.mk _ rfl ?_
   | (refine Req.mk ?_ ?_;(focus first | rfl | decide | exact ⟨rfl,rfl⟩ | exact ⟨rfl,by decide⟩ | exact (fun _=>rfl) | exact (fun h=>nomatch h) | (simp;done) | omega | (simp [big];done) | exact le_big (by omega) | exact lt_big (by omega))))
   all_goals exact NextP.mk (k+1) hn (by omega) rfl
end Go.Dr.T
namespace Go.Dr.T
structure El where
 nm:List UInt8
 c:Bool
 l:List (Int × Int)
 g:Int
def El.v (e:El):List V:=[.str e.nm,.sl e.c e.l.length (shC e.l),.int .i64 e.g]
def elC:List El→List V
 | []=>[]
 | e :: r=>.str e.nm :: .sl e.c e.l.length (shC e.l) :: .int .i64 e.g :: elC r
theorem elC_length:∀ l,(elC l).length=l.length * 3
 | []=>rfl
 | _ :: l=>by simp only [elC,List.length_cons,elC_length l];omega
def El.e (x:El):Int:=(ckE x.nm x.l x.g).2
def ckd:List El→Int
 | []=>0
 | x :: l=>if x.e≠0 then x.e else ckd l
theorem drop'_eq:∀ (n:Nat) (c:List V),drop' n c=c.drop n
 | 0,c=>by cases c <;> rfl
 | n+1,[]=>rfl
 | n+1,x :: c=>by simpa only [drop', List.drop_succ_cons] using drop'_eq n c
theorem part3 {c:List V} {n:Nat} {x y z:V} {r:List V} (h:c.drop n=x :: y :: z :: r):part c n 3=some [x,y,z]:=by
 unfold part
 rw [drop'_eq,h];rfl
theorem elC_drop:∀ {l:List El} {i:Nat} {p:El},l[i]?=some p→(elC l).drop (i * 3) = .str p.nm :: .sl p.c p.l.length (shC p.l) :: .int .i64 p.g :: (elC l).drop (i * 3+3)
 | x :: l,0,p,h=>by
  simp only [List.getElem?_cons_zero,Option.some.injEq] at h
  subst h;rfl
 | x :: l,i+1,p,h=>by
  have:=elC_drop (l:=l) (i:=i) (p:=p) (by simpa using h)
  rw [show (i+1) * 3=i * 3+1+1+1 by omega]
  simpa only [elC,List.drop_succ_cons] using this
theorem elC_part {l:List El} {i:Nat} {p:El} (h:l[i]?=some p):part (elC l) (i * 3) 3=some [.str p.nm,.sl p.c p.l.length (shC p.l),.int .i64 p.g]:=part3 (elC_drop h)
theorem ckd_drop {l:List El} {i:Nat} {p:El} (h:l[i]?=some p):ckd (l.drop i)=if p.e≠0 then p.e else ckd (l.drop (i+1)):=by
 obtain ⟨hi,rfl⟩:=List.getElem?_eq_some_iff.1 h
 rw [List.drop_eq_getElem_cons hi];rfl
abbrev elsV (c:Bool) (l:List El):V:=.sl c l.length (elC l)
set_option maxRecDepth 100000 in
set_option maxHeartbeats 20000000 in
theorem checked_ok {c:Bool} {l:List El} (hl:l.length≤140737488355328):Fun FB md 45 [elsV c l] (.int .i64 (ckd l)):=by
 refine fun_of rfl rfl ?_
 skip
 refine LoopP.by (fun i:Nat=>i≤l.length∧ckd l=ckd (l.drop i)) (fun i=>[(9,.int .i64 (i:Nat))]) (fun _=>[]) (fun i=>l.length - i) 0 ⟨Nat.zero_le _,rfl⟩ rfl ?_
 rintro i ⟨q1,q2⟩
 dsimp only
 by_cases hi:i<l.length
 rotate_left
 ·have hres:ckd l=0:=by rw [q2,show i=l.length by omega,List.drop_length];rfl
  repeat' (first
 | (conv=>whnf)
   first
   | (refine Br.decF ?_ ?_;(focus first | assumption | omega))
   | refine Get.mk _ rfl ?_
   | refine Leaves.of ?_
   | refine Vw.int ?_)
  exact hres.symm
 obtain ⟨p,hp⟩:∃ p,l[i]?=some p:=⟨_,List.getElem?_eq_getElem hi⟩
 have hpart:=elC_part hp
 have hq:=ckd_drop hp
 have hc:=check_ok (nm:=p.nm) (c:=p.c) (l:=p.l) (g:=p.g)
 by_cases he:p.e=0
 ·rw [if_neg (by simp [he])] at hq
  rw [show (ckE p.nm p.l p.g).2=0 from he] at hc
  repeat' (first
 | (conv=>whnf)
   first
   | refine Br.f ?_
   | (refine Br.decT ?_ ?_;(focus first | assumption | omega))
   | (refine Bnd.i64 ?_ ?_ ?_;(focus omega);(focus omega))
   | refine Get.mk _ hpart ?_
   | refine call_fun rfl rfl hc (.inl rfl) ?_
   | (refine Idx.nat ?_ ?_;(focus omega))
   | refine Get.mk _ rfl ?_
   | (refine Req.mk ?_ ?_;(focus first | rfl | decide | exact ⟨rfl,rfl⟩ | exact ⟨rfl,by decide⟩ | exact (fun _=>rfl) | exact (fun h=>nomatch h) | (simp;done) | omega | (simp [big];done) | exact le_big (by omega) | exact lt_big (by omega))))
  exact NextP.mk (i+1) ⟨hi,by rw [q2,hq]⟩ (by omega) rfl
 ·rw [if_pos he] at hq
  have he' : (ckE p.nm p.l p.g).2≠0:=he
  repeat' (first
 | (conv=>whnf)
   first
   | (refine Br.decT ?_ ?_;(focus first | assumption | omega))
   | (refine Br.decF ?_ ?_;(focus first | assumption | omega))
   | refine Br.not ?_
   | refine Get.mk _ hpart ?_
   | refine call_fun rfl rfl hc (.inl rfl) ?_
   | (refine Idx.nat ?_ ?_;(focus omega))
   | refine Get.mk _ rfl ?_
   | refine Leaves.of ?_
   | refine Vw.int ?_
   | (refine Req.mk ?_ ?_;(focus first | rfl | decide | exact ⟨rfl,rfl⟩ | exact ⟨rfl,by decide⟩ | exact (fun _=>rfl) | exact (fun h=>nomatch h) | (simp;done) | omega | (simp [big];done) | exact le_big (by omega) | exact lt_big (by omega))))
  exact (q2.trans hq).symm
end Go.Dr.T
