/- Chapter 06: what two shots share, and two elements' error, of the document. -/
import Derived.Test.YtfhphjloaelgoaaGreatDoorG13
import Derived.Test.YtfhphjloaelgoaaGreatDoorG11
namespace Go.Dr.T
abbrev elB (x:El):B:=.blk [.str x.nm,.sl x.c x.l.length (shC x.l),.int .i64 x.g] false
set_option maxRecDepth 100000 in
theorem refShare_ok {s:Int} {x y:Int × Int} (hs:0≤s∧s≤200000) (hx:0≤x.1∧x.1≤999∧1≤x.2∧x.2≤200000) (hy:0≤y.1∧y.1≤999∧1≤y.2∧y.2≤200000):Fun FB md 64 [.agg [.int .i64 x.1,.int .i64 x.2],.agg [.int .i64 y.1,.int .i64 y.2],.int .i64 s] (.int .i64 (shr s x y)):=by
 obtain ⟨m,n⟩:=x
 obtain ⟨m', n'⟩:=y
 dsimp only at *
 have hw:IntKind.i64.wrap ((min n n').tdiv 2)=min n n' / 2:=by rw [Int.tdiv_eq_ediv_of_nonneg (by omega)];exact wrap_i64 (by omega) (by omega)
 refine fun_of rfl rfl ?_
 repeat' (first
 | (conv=>whnf)
   first
   | refine Br.t ?_
   | refine Br.f ?_
   | (refine Br.decT ?_ ?_;(focus first | assumption | omega))
   | (refine Br.decF ?_ ?_;(focus first | assumption | omega))
   | refine Br.dec (fun _ => ?_) (fun _ => ?_)
   | refine Br.not ?_
   | (refine Bnd.i64 ?_ ?_ ?_;(focus omega);(focus omega))
   | refine Bnd.any ?_
   | refine Get.mk _ rfl ?_
   | refine Leaves.of ?_
   | refine Vw.int ?_
   | (refine Req.mk ?_ ?_;(focus first | rfl | decide | exact ⟨rfl,rfl⟩ | exact ⟨rfl,by decide⟩ | exact (fun _=>rfl) | exact (fun h=>nomatch h) | (simp;done) | omega | (simp [big];done) | exact le_big (by omega) | exact lt_big (by omega))))
 all_goals rw [shr_case]
 all_goals (try rw [hw])
 all_goals first
  | (rw [if_pos (by omega)];done)
  | (rw [if_neg (by omega),if_pos (by omega)];omega)
  | (rw [if_neg (by omega),if_neg (by omega),if_pos (by omega)];done)
  | (rw [if_neg (by omega),if_neg (by omega),if_neg (by omega)];done)
  | (exfalso;omega)
theorem openE_1 {x y:El} {s:Int} (h:x.e≠0):openE x y s=x.e:=by simp [openE,ckd,h]
theorem openE_2 {x y:El} {s:Int} (h:x.e=0) (h2:y.e≠0):openE x y s=y.e:=by simp [openE,ckd,h,h2]
theorem openE_3 {x y:El} {s:Int} (h:x.e=0) (h2:y.e=0):openE x y s=if outB s 0 200000=true then 7 else 0:=by simp [openE,ckd,h,h2]
set_option maxRecDepth 100000 in
theorem two_ok {x y:El} {s:Int}:Fun FB md 55 [elA' x,elA' y,.int .i64 s] (.int .i64 (openE x y s)):=by
 have h1:Fun FB md 19 [elA' x] (.tup [.int .i64 (ckE x.nm x.l x.g).1,.int .i64 x.e]):=refCheck_ok (nm:=x.nm) (c:=x.c) (l:=x.l) (g:=x.g)
 have h2:Fun FB md 19 [elA' y] (.tup [.int .i64 (ckE y.nm y.l y.g).1,.int .i64 y.e]):=refCheck_ok (nm:=y.nm) (c:=y.c) (l:=y.l) (g:=y.g)
 have h3:=in_ok (n:=s) (lo:=0) (hi:=200000)
 generalize (ckE x.nm x.l x.g).1=ax at *
 generalize (ckE y.nm y.l y.g).1=ay at *
 by_cases hex:x.e=0
 ·by_cases hey:y.e=0
  ·rw [openE_3 hex hey]
   rw [hex] at h1
   rw [hey] at h2
   cases hs:outB s 0 200000 <;> rw [hs] at h3
   all_goals refine fun_of rfl rfl ?_
   all_goals
    repeat' (first
 | (conv=>whnf)
   first
   | refine Br.t ?_
   | refine Br.f ?_
   | refine call_fun rfl rfl h1 (.inl rfl) ?_
   | refine call_fun rfl rfl h2 (.inl rfl) ?_
   | refine call_fun rfl rfl h3 (.inl rfl) ?_
   | refine Get.mk _ rfl ?_
   | refine Leaves.of ?_
   | refine Vw.int ?_
   | (refine Req.mk ?_ ?_;(focus first | rfl | decide | exact ⟨rfl,rfl⟩ | exact ⟨rfl,by decide⟩ | exact (fun _=>rfl) | exact (fun h=>nomatch h) | (simp;done) | omega | (simp [big];done) | exact le_big (by omega) | exact lt_big (by omega))))
   all_goals first | rfl | (exfalso;omega)
  ·rw [openE_2 hex hey]
   rw [hex] at h1
   generalize y.e=ey at *
   refine fun_of rfl rfl ?_
   repeat' (first
 | (conv=>whnf)
   first
   | refine Br.t ?_
   | refine Br.f ?_
   | (refine Br.decF ?_ ?_;(focus first | assumption | omega))
   | refine call_fun rfl rfl h1 (.inl rfl) ?_
   | refine call_fun rfl rfl h2 (.inl rfl) ?_
   | refine Get.mk _ rfl ?_
   | refine Leaves.of ?_
   | refine Vw.int ?_
   | (refine Req.mk ?_ ?_;(focus first | rfl | decide | exact ⟨rfl,rfl⟩ | exact ⟨rfl,by decide⟩ | exact (fun _=>rfl) | exact (fun h=>nomatch h) | (simp;done) | omega | (simp [big];done) | exact le_big (by omega) | exact lt_big (by omega))))
   all_goals first | rfl | (exfalso;omega)
 ·rw [openE_1 hex]
  generalize x.e=ex at *
  refine fun_of rfl rfl ?_
  repeat' (first
 | (conv=>whnf)
   first
   | refine Br.f ?_
   | (refine Br.decF ?_ ?_;(focus first | assumption | omega))
   | refine call_fun rfl rfl h1 (.inl rfl) ?_
   | refine Get.mk _ rfl ?_
   | refine Leaves.of ?_
   | refine Vw.int ?_
   | (refine Req.mk ?_ ?_;(focus first | rfl | decide | exact ⟨rfl,rfl⟩ | exact ⟨rfl,by decide⟩ | exact (fun _=>rfl) | exact (fun h=>nomatch h) | (simp;done) | omega | (simp [big];done) | exact le_big (by omega) | exact lt_big (by omega))))
  all_goals first | rfl | (exfalso;omega)
end Go.Dr.T
namespace Go.Dr.T
def knP (l:List (Int × Int)):List Int:=(l.map (·.1)).filter fun m=>decide (0<m)
theorem knP_known {l:List (Int × Int)} (h:∀ p∈l,0≤p.1):knP l=known l:=by
 unfold knP known
 apply List.filter_congr
 intro m hm
 obtain ⟨p,hp,rfl⟩:=List.mem_map.1 hm
 have:=h p hp
 rw [decide_eq_decide]
 omega
theorem knP_snoc {l:List (Int × Int)} {i:Nat} {p:Int × Int} (h:l[i]?=some p):knP (l.take (i+1))=knP (l.take i)++(if 0<p.1 then [p.1] else []):=by
 have:l.take (i+1)=l.take i++[p]:=by rw [List.take_add_one,h];rfl
 rw [this]
 unfold knP
 by_cases hp:0<p.1
 ·simp [hp]
 ·simp [hp]
theorem knP_len {l:List (Int × Int)}:(knP l).length≤l.length:=by
 unfold knP
 have:=List.length_filter_le (fun m=>decide (0<m)) (l.map (·.1))
 rwa [List.length_map] at this
set_option maxRecDepth 100000 in
set_option maxHeartbeats 20000000 in
theorem known_ok {x:El} (hl:x.l.length≤1000000):Fun FB md 102 [elA' x] (lw false (knP x.l)):=by
 refine fun_of rfl rfl ?_
 repeat' (first
 | (conv=>whnf)
   first
   | refine Get.mk _ rfl ?_
   | (refine Req.mk ?_ ?_;(focus first | rfl | decide | exact ⟨rfl,rfl⟩ | exact ⟨rfl,by decide⟩ | exact (fun _=>rfl) | exact (fun h=>nomatch h) | (simp;done) | omega | (simp [big];done) | exact le_big (by omega) | exact lt_big (by omega))))
 refine LoopP.by (fun i:Nat=>i≤x.l.length) (fun i=>[(3,lv 0 false (knP (x.l.take i))),(4,.int .i64 (i:Nat))]) (fun i=>elB x :: acB (knP (x.l.take i))) (fun i=>x.l.length - i) 0 (Nat.zero_le _) rfl ?_
 rintro i hi'
 dsimp only
 have hln:(knP (x.l.take i)).length≤1000000:=by
  have:=knP_len (l:=x.l.take i)
  rw [List.length_take] at this
  omega
 by_cases hi:i<x.l.length
 rotate_left
 ·obtain rfl:i=x.l.length:=by omega
  rw [List.take_length] at hln ⊢
  have hvw:Vw (elB x :: acB (knP x.l)) depth (lv 0 false (knP x.l)) (lw false (knP x.l)):=⟨view_lv (d:=62) (fun hn=>by rw [acB_ne hn];rfl)⟩
  cases hL:knP x.l with
  | nil =>
   rw [hL] at hvw
   repeat' (first
 | (conv=>whnf)
   first
   | (refine Br.decF ?_ ?_;(focus first | assumption | omega))
   | exact hvw
   | refine Get.mk _ rfl ?_
   | refine Leaves.of ?_
   | (refine Req.mk ?_ ?_;(focus first | rfl | decide | exact ⟨rfl,rfl⟩ | exact ⟨rfl,by decide⟩ | exact (fun _=>rfl) | exact (fun h=>nomatch h) | (simp;done) | omega | (simp [big];done) | exact le_big (by omega) | exact lt_big (by omega))))
   all_goals first | rfl | (exfalso;omega;done)
  | cons y r =>
   rw [hL] at hvw
   repeat' (first
 | (conv=>whnf)
   first
   | (refine Br.decF ?_ ?_;(focus first | assumption | omega))
   | exact hvw
   | refine Get.mk _ rfl ?_
   | refine Leaves.of ?_
   | (refine Req.mk ?_ ?_;(focus first | rfl | decide | exact ⟨rfl,rfl⟩ | exact ⟨rfl,by decide⟩ | exact (fun _=>rfl) | exact (fun h=>nomatch h) | (simp;done) | omega | (simp [big];done) | exact le_big (by omega) | exact lt_big (by omega))))
   all_goals first | rfl | (exfalso;omega;done)
 obtain ⟨p,hp⟩:∃ p,x.l[i]?=some p:=⟨_,List.getElem?_eq_getElem hi⟩
 have hc:=shC_cell hp
 have hs:=knP_snoc hp
 by_cases hm:0<p.1
 ·rw [if_pos hm] at hs
  cases hL:knP (x.l.take i) with
  | nil =>
   repeat' (first
 | (conv=>whnf)
   first
   | (refine Br.decT ?_ ?_;(focus first | assumption | omega))
   | (refine Bnd.i64 ?_ ?_ ?_;(focus omega);(focus omega))
   | refine Get.mk _ hc ?_
   | (refine Idx.nat ?_ ?_;(focus omega))
   | (refine Ifz.pos ?_ ?_;(focus omega))
   | refine Get.mk _ rfl ?_
   | (refine Req.mk ?_ ?_;(focus first | rfl | decide | exact ⟨rfl,rfl⟩ | exact ⟨rfl,by decide⟩ | exact (fun _=>rfl) | exact (fun h=>nomatch h) | (simp;done) | omega | (simp [big];done) | exact le_big (by omega) | exact lt_big (by omega))))
   all_goals first | (exfalso;omega;done) | skip
   refine NextP.mk (i+1) hi (by omega) ?_
   rw [hs,hL]
   rfl
  | cons y r =>
   rw [hL] at hln
   simp only [List.length_cons] at hln
   have hol:(ofInts (y :: r)).length=r.length+1:=by simp [ofInts]
   repeat' (first
 | (conv=>whnf)
   first
   | (refine Br.decT ?_ ?_;(focus first | assumption | omega))
   | (refine Bnd.i64 ?_ ?_ ?_;(focus omega);(focus omega))
   | refine Get.mk _ hc ?_
   | refine Req.mk hol ?_
   | refine Req.mk ⟨by omega,by rw [hol];exact lt_big (by simp;omega)⟩ ?_
   | (refine Idx.nat ?_ ?_;(focus omega))
   | (refine Ifz.pos ?_ ?_;(focus omega))
   | refine Get.mk _ rfl ?_
   | (refine Req.mk ?_ ?_;(focus first | rfl | decide | exact ⟨rfl,rfl⟩ | exact ⟨rfl,by decide⟩ | exact (fun _=>rfl) | exact (fun h=>nomatch h) | (simp;done) | omega | (simp [big];done) | exact le_big (by omega) | exact lt_big (by omega))))
   all_goals first | (exfalso;omega;done) | skip
   refine NextP.mk (i+1) hi (by omega) ?_
   rw [hs,hL]
   have e1:ofInts (y :: r)++[V.int .i64 p.1]=ofInts (y :: (r++[p.1])):=by simp [ofInts]
   have e2:(r++[p.1]).length=r.length+1:=by simp
   rw [List.cons_append,e1]
   simp only [lv,e2,acB]
   rfl
 ·rw [if_neg hm,List.append_nil] at hs
  cases hL:knP (x.l.take i) with
  | nil =>
   repeat' (first
 | (conv=>whnf)
   first
   | (refine Br.decT ?_ ?_;(focus first | assumption | omega))
   | (refine Br.decF ?_ ?_;(focus first | assumption | omega))
   | (refine Bnd.i64 ?_ ?_ ?_;(focus omega);(focus omega))
   | refine Get.mk _ hc ?_
   | (refine Idx.nat ?_ ?_;(focus omega))
   | refine Get.mk _ rfl ?_
   | (refine Req.mk ?_ ?_;(focus first | rfl | decide | exact ⟨rfl,rfl⟩ | exact ⟨rfl,by decide⟩ | exact (fun _=>rfl) | exact (fun h=>nomatch h) | (simp;done) | omega | (simp [big];done) | exact le_big (by omega) | exact lt_big (by omega))))
   all_goals first | (exfalso;omega;done) | skip
   refine NextP.mk (i+1) hi (by omega) ?_
   rw [hs,hL]
   rfl
  | cons y r =>
   repeat' (first
 | (conv=>whnf)
   first
   | (refine Br.decT ?_ ?_;(focus first | assumption | omega))
   | (refine Br.decF ?_ ?_;(focus first | assumption | omega))
   | (refine Bnd.i64 ?_ ?_ ?_;(focus omega);(focus omega))
   | refine Get.mk _ hc ?_
   | (refine Idx.nat ?_ ?_;(focus omega))
   | refine Get.mk _ rfl ?_
   | (refine Req.mk ?_ ?_;(focus first | rfl | decide | exact ⟨rfl,rfl⟩ | exact ⟨rfl,by decide⟩ | exact (fun _=>rfl) | exact (fun h=>nomatch h) | (simp;done) | omega | (simp [big];done) | exact le_big (by omega) | exact lt_big (by omega))))
   all_goals first | (exfalso;omega;done) | skip
   refine NextP.mk (i+1) hi (by omega) ?_
   rw [hs,hL]
   rfl
set_option maxRecDepth 100000 in
set_option maxHeartbeats 20000000 in
theorem intsE_ok {c d:Bool} {l:List Int} (hl:l.length≤1000000):Fun FB md 35 [.sl c l.length (ofInts l),.sl d l.length (ofInts l)] (.bool true):=by
 refine fun_of rfl rfl ?_
 repeat' (first
 | (conv=>whnf)
   first
   | (refine Br.decT ?_ ?_;(focus first | assumption | omega))
   | refine Br.not ?_)
 all_goals try (exfalso;omega;done)
 refine LoopP.by (fun i:Nat=>i≤l.length) (fun i=>[(5,.int .i64 (i:Nat))]) (fun _=>[]) (fun i=>l.length - i) 0 (Nat.zero_le _) rfl ?_
 rintro i hi'
 dsimp only
 by_cases hi:i<l.length
 rotate_left
 ·repeat' (first
 | (conv=>whnf)
   first
   | (refine Br.decF ?_ ?_;(focus first | assumption | omega))
   | refine Get.mk _ rfl ?_
   | refine Leaves.of ?_
   | refine Vw.bool ?_)
  all_goals first | rfl | (exfalso;omega)
 obtain ⟨p,hp,hpp⟩:=ofInts_cell hi
 repeat' (first
 | (conv=>whnf)
   first
   | (refine Br.decT ?_ ?_;(focus first | assumption | omega))
   | refine Br.not ?_
   | (refine Bnd.i64 ?_ ?_ ?_;(focus omega);(focus omega))
   | refine Get.mk _ hpp ?_
   | (refine Idx.nat ?_ ?_;(focus omega))
   | (refine Req.mk ?_ ?_;(focus first | rfl | decide | exact ⟨rfl,rfl⟩ | exact ⟨rfl,by decide⟩ | exact (fun _=>rfl) | exact (fun h=>nomatch h) | (simp;done) | omega | (simp [big];done) | exact le_big (by omega) | exact lt_big (by omega))))
 all_goals first | (exfalso;omega;done) | exact NextP.mk (i+1) hi (by omega) rfl
theorem ckd_take {l:List El} {i:Nat} {x:El} (h:l[i]?=some x) (h0:∀ y∈l.take i,y.e=0) (hx:x.e≠0):ckd l=x.e:=by
 induction l generalizing i with
 | nil=>cases h
 | cons a l ih =>
  unfold ckd
  cases i with
  | zero =>
   rw [List.getElem?_cons_zero,Option.some.injEq] at h
   subst h
   rw [if_pos hx]
  | succ i =>
   rw [List.getElem?_cons_succ] at h
   rw [if_neg (fun h1=>h1 (h0 a (by simp)))]
   exact ih h (fun y hy=>h0 y (by rw [List.take_succ_cons];exact List.mem_cons_of_mem _ hy))
theorem ckd_zero {l:List El} (h:∀ y∈l,y.e=0):ckd l=0:=by
 induction l with
 | nil=>rfl
 | cons a l ih =>
  unfold ckd
  rw [if_neg (fun h1=>h1 (h a (by simp)))]
  exact ih fun y hy=>h y (by simp [hy])
theorem dup_app {x:El}:∀ {l pre:List El},dupF pre (l++[x])=(dupF pre l || nmE x.nm (pre++l))
 | [],pre=>by simp [dupF]
 | y :: l,pre=>by
  rw [List.cons_append,dupF,dup_app,dupF,List.append_assoc,Bool.or_assoc]
  rfl
theorem dup_more {l:List El}:∀ {r pre:List El},dupF pre l=true→dupF pre (l++r)=true:=by
 induction l with
 | nil=>intro r pre h;cases h
 | cons x l ih =>
  intro r pre h
  rw [List.cons_append,dupF,Bool.or_eq_true] at *
  rcases h with h | h
  ·exact .inl h
  ·exact .inr (ih h)
theorem elC_nm:∀ {l:List El} {i:Nat} {x:El},l[i]?=some x→cellAt (elC l) (i * 3)=some (.str x.nm)
 | y :: l,0,x,h=>by
  rw [List.getElem?_cons_zero,Option.some.injEq] at h
  subst h
  rfl
 | y :: l,i+1,x,h=>by
  rw [List.getElem?_cons_succ] at h
  have:=elC_nm h
  rw [show (i+1) * 3=i * 3+1+1+1 by omega]
  exact this
theorem nm_take {nm:List UInt8} {l:List El} {k:Nat} {y:El} (h:l[k]?=some y):nmE nm (l.take (k+1))=(nmE nm (l.take k) || (y.nm == nm)):=by
 have:l.take (k+1)=l.take k++[y]:=by rw [List.take_add_one,h];rfl
 rw [this]
 simp [nmE]
set_option maxRecDepth 100000 in
set_option maxHeartbeats 20000000 in
theorem valid_ok {c:Bool} {l:List El}:Fun FB md 70 [elsV c l] (.int .i64 (vldE l)):=by
 unfold vldE
 by_cases h8:8<l.length
 ·rw [if_pos h8]
  refine fun_of rfl rfl ?_
  repeat' (first
 | (conv=>whnf)
   first
   | (refine Br.decT ?_ ?_;(focus first | assumption | omega))
   | refine Get.mk _ rfl ?_
   | refine Leaves.of ?_
   | refine Vw.int ?_)
  all_goals first | rfl | (exfalso;omega)
 rw [if_neg h8]
 refine fun_of rfl rfl ?_
 repeat' (first
 | (conv=>whnf)
   first
   | (refine Br.decF ?_ ?_;(focus first | assumption | omega)))
 all_goals try (exfalso;omega;done)
 refine LoopP.by (fun i:Nat=>i≤l.length∧∀ y∈l.take i,y.e=0) (fun i=>[(3,.int .i64 (i:Nat))]) (fun _=>[]) (fun i=>l.length - i) 0 ⟨Nat.zero_le _,by simp⟩ rfl ?_
 rintro i ⟨q1,q2⟩
 dsimp only
 by_cases hi:i<l.length
 ·obtain ⟨x,hx⟩:∃ p,l[i]?=some p:=⟨_,List.getElem?_eq_getElem hi⟩
  have hpart:=elC_part hx
  have h1:Fun FB md 19 [elA' x] (.tup [.int .i64 (ckE x.nm x.l x.g).1,.int .i64 x.e]):=refCheck_ok (nm:=x.nm) (c:=x.c) (l:=x.l) (g:=x.g)
  by_cases hxe:x.e=0
  ·rw [hxe] at h1
   repeat' (first
 | (conv=>whnf)
   first
   | refine Br.f ?_
   | (refine Br.decT ?_ ?_;(focus first | assumption | omega))
   | (refine Bnd.i64 ?_ ?_ ?_;(focus omega);(focus omega))
   | refine Get.mk _ hpart ?_
   | refine call_fun rfl rfl h1 (.inl rfl) ?_
   | (refine Idx.nat ?_ ?_;(focus omega))
   | refine Get.mk _ rfl ?_
   | (refine Req.mk ?_ ?_;(focus first | rfl | decide | exact ⟨rfl,rfl⟩ | exact ⟨rfl,by decide⟩ | exact (fun _=>rfl) | exact (fun h=>nomatch h) | (simp;done) | omega | (simp [big];done) | exact le_big (by omega) | exact lt_big (by omega))))
   all_goals first | (exfalso;omega;done) | skip
   refine NextP.mk (i+1) ⟨hi,fun y hy => ?_⟩ (by omega) rfl
   rw [List.take_add_one,hx,List.mem_append] at hy
   rcases hy with hy | hy
   ·exact q2 y hy
   ·simp at hy;subst hy;exact hxe
  ·have hck:=ckd_take hx q2 hxe
   generalize x.e=e at *
   repeat' (first
 | (conv=>whnf)
   first
   | (refine Br.decT ?_ ?_;(focus first | assumption | omega))
   | (refine Br.decF ?_ ?_;(focus first | assumption | omega))
   | refine Br.not ?_
   | refine Get.mk _ hpart ?_
   | refine call_fun rfl rfl h1 (.inl rfl) ?_
   | (refine Idx.nat ?_ ?_;(focus omega))
   | refine Get.mk _ rfl ?_
   | refine Leaves.of ?_
   | refine Vw.int ?_
   | (refine Req.mk ?_ ?_;(focus first | rfl | decide | exact ⟨rfl,rfl⟩ | exact ⟨rfl,by decide⟩ | exact (fun _=>rfl) | exact (fun h=>nomatch h) | (simp;done) | omega | (simp [big];done) | exact le_big (by omega) | exact lt_big (by omega))))
   all_goals first | (exfalso;omega;done) | skip
   rw [hck,if_pos hxe]
 have hck:ckd l=0:=ckd_zero (by rw [List.take_of_length_le (by omega)] at q2;exact q2)
 rw [hck,if_neg (fun h=>h rfl)]
 repeat' (first
 | (conv=>whnf)
   first
   | (refine Br.decF ?_ ?_;(focus first | assumption | omega)))
 all_goals try (exfalso;omega;done)
 refine LoopP.by (fun i:Nat=>i≤l.length∧dupF [] (l.take i)=false) (fun i=>[(6,.int .i64 (i:Nat))]) (fun _=>[]) (fun i=>l.length - i) 0 ⟨Nat.zero_le _,rfl⟩ rfl ?_
 clear q1 q2 hi
 rintro i ⟨q1,q2⟩
 dsimp only
 by_cases hi:i<l.length
 rotate_left
 ·have hd:dupF [] l=false:=by rw [List.take_of_length_le (by omega)] at q2;exact q2
  rw [hd]
  repeat' (first
 | (conv=>whnf)
   first
   | (refine Br.decF ?_ ?_;(focus first | assumption | omega))
   | refine Get.mk _ rfl ?_
   | refine Leaves.of ?_
   | refine Vw.int ?_)
  all_goals first | rfl | (exfalso;omega)
 obtain ⟨x,hx⟩:∃ p,l[i]?=some p:=⟨_,List.getElem?_eq_getElem hi⟩
 have hpart:=elC_nm hx
 have htk:l.take (i+1)=l.take i++[x]:=by rw [List.take_add_one,hx];rfl
 repeat' (first
 | (conv=>whnf)
   first
   | (refine Br.decT ?_ ?_;(focus first | assumption | omega)))
 all_goals try (exfalso;omega;done)
 refine LoopP.by (fun k:Nat=>k≤i∧nmE x.nm (l.take k)=false) (fun i=>[(7,.int .i64 (i:Nat))]) (fun _=>[]) (fun k=>i - k) 0 ⟨Nat.zero_le _,rfl⟩ rfl ?_
 rintro k ⟨z1,z2⟩
 dsimp only
 by_cases hk:k<i
 rotate_left
 ·have e:k=i:=by omega
  subst e
  repeat' (first
 | (conv=>whnf)
   first
   | (refine Br.decF ?_ ?_;(focus first | assumption | omega))
   | (refine Bnd.i64 ?_ ?_ ?_;(focus omega);(focus omega)))
  all_goals try (exfalso;omega;done)
  refine NextP.mk (k+1) ⟨hi,?_⟩ (by omega) rfl
  rw [htk,dup_app,q2,List.nil_append,z2]
  rfl
 obtain ⟨y,hy⟩:∃ p,l[k]?=some p:=⟨_,List.getElem?_eq_getElem (show k<l.length by omega)⟩
 have hparty:=elC_nm hy
 have hn:=nm_take (nm:=x.nm) hy
 by_cases he:y.nm=x.nm
 ·have hd:dupF [] l=true:=by
   have h1:dupF [] (l.take (i+1))=true:=by
    rw [htk,dup_app,List.nil_append,Bool.or_eq_true]
    refine .inr (List.any_eq_true.2 ⟨y,?_,by simp [he]⟩)
    rw [List.mem_iff_getElem?]
    exact ⟨k,by rw [List.getElem?_take_of_lt hk];exact hy⟩
   have:=dup_more (r:=l.drop (i+1)) h1
   rwa [List.take_append_drop] at this
  rw [hd]
  have hye:(y.nm == x.nm)=true:=by simpa using he
  repeat' (first
 | (conv=>whnf)
   first
   | (refine Br.decT ?_ ?_;(focus first | assumption | omega))
   | refine Get.mk _ hpart ?_
   | refine Get.mk _ hparty ?_
   | refine Br.yes hye ?_
   | (refine Idx.nat ?_ ?_;(focus omega))
   | refine Get.mk _ rfl ?_
   | refine Leaves.of ?_
   | refine Vw.int ?_
   | (refine Req.mk ?_ ?_;(focus first | rfl | decide | exact ⟨rfl,rfl⟩ | exact ⟨rfl,by decide⟩ | exact (fun _=>rfl) | exact (fun h=>nomatch h) | (simp;done) | omega | (simp [big];done) | exact le_big (by omega) | exact lt_big (by omega))))
  all_goals first | (exfalso;omega;done) | rfl
 ·rw [z2,Bool.false_or] at hn
  have hne:(y.nm == x.nm)=false:=by simpa using he
  repeat' (first
 | (conv=>whnf)
   first
   | (refine Br.decT ?_ ?_;(focus first | assumption | omega))
   | (refine Bnd.i64 ?_ ?_ ?_;(focus omega);(focus omega))
   | refine Get.mk _ hpart ?_
   | refine Get.mk _ hparty ?_
   | refine Br.no hne ?_
   | (refine Idx.nat ?_ ?_;(focus omega))
   | refine Get.mk _ rfl ?_
   | (refine Req.mk ?_ ?_;(focus first | rfl | decide | exact ⟨rfl,rfl⟩ | exact ⟨rfl,by decide⟩ | exact (fun _=>rfl) | exact (fun h=>nomatch h) | (simp;done) | omega | (simp [big];done) | exact le_big (by omega) | exact lt_big (by omega))))
  all_goals first | (exfalso;omega;done) | exact NextP.mk (k+1) ⟨hk,by rw [hn,hne]⟩ (by omega) rfl
end Go.Dr.T
namespace Go.Dr.T
def bgR (S W:Nat→Nat→Int) (m:Nat) (v:Int) (l k:Nat):List (Nat × Nat):=((List.range' l (m - l)).filter fun l=>decide (0<S k l∧S k l+W (k+1) (l+1)=v)).map fun l=>(k,l)
def bgF (S W:Nat→Nat→Int) (n m:Nat) (v:Int) (j k:Nat):List (Nat × Nat):=((List.range' k (n - k)).takeWhile fun k=>decide (W k j=v)).flatMap (bgR S W m v j)
def bgs (S W:Nat→Nat→Int) (n m i j:Nat):List (Nat × Nat):=bgF S W n m (W i j) j i
def bgA (S W:Nat→Nat→Int) (n m i j:Nat):List (Nat × Nat):=(List.range' i (n - i)).flatMap (bgR S W m (W i j) j)
theorem bgR_end {S W:Nat→Nat→Int} {m:Nat} {v:Int} {l k:Nat} (h:m≤l):bgR S W m v l k=[]:=by
 unfold bgR;rw [show m - l=0 by omega];rfl
theorem bgR_step {S W:Nat→Nat→Int} {m:Nat} {v:Int} {l k:Nat} (h:l<m):bgR S W m v l k=if 0<S k l∧S k l+W (k+1) (l+1)=v then (k,l) :: bgR S W m v (l+1) k else bgR S W m v (l+1) k:=by
 unfold bgR
 rw [show m - l=(m - (l+1))+1 by omega,List.range'_succ,List.filter_cons]
 by_cases hc:0<S k l∧S k l+W (k+1) (l+1)=v
 ·simp only [hc,and_self,decide_true,if_true,List.map_cons]
 ·simp only [hc,decide_false,if_false,Bool.false_eq_true]
theorem bgF_end {S W:Nat→Nat→Int} {n m:Nat} {v:Int} {j k:Nat} (h:¬ (k<n∧W k j=v)):bgF S W n m v j k=[]:=by
 unfold bgF
 by_cases hk:k<n
 ·rw [show n - k=(n - (k+1))+1 by omega,List.range'_succ,List.takeWhile_cons_of_neg (by simpa using fun h2=>h ⟨hk,h2⟩)];rfl
 ·rw [show n - k=0 by omega];rfl
theorem bgF_step {S W:Nat→Nat→Int} {n m:Nat} {v:Int} {j k:Nat} (h:k<n∧W k j=v):bgF S W n m v j k=bgR S W m v j k++bgF S W n m v j (k+1):=by
 unfold bgF
 rw [show n - k=(n - (k+1))+1 by omega,List.range'_succ,List.takeWhile_cons_of_pos (by simpa using h.2),List.flatMap_cons]
theorem takeWhile_flatMap {α β:Type} {p:α→Bool} {g:α→List β}:∀ {l:List α},(l.Pairwise fun a b=>p a=false→p b=false)→(∀ a∈l,p a=false→g a=[])→(l.takeWhile p).flatMap g=l.flatMap g
 | [],_,_=>rfl
 | a :: l,hp,hg=>by
  obtain ⟨h1,h2⟩:=List.pairwise_cons.1 hp
  cases h:p a with
  | true=>rw [List.takeWhile_cons_of_pos h,List.flatMap_cons,List.flatMap_cons,takeWhile_flatMap h2 fun b hb=>hg b (by simp [hb])]
  | false =>
   rw [List.takeWhile_cons_of_neg (by simp [h]),List.flatMap_nil,List.flatMap_cons,hg a (by simp) h,List.nil_append]
   symm
   rw [List.flatMap_eq_nil_iff]
   intro b hb
   exact hg b (by simp [hb]) (h1 b hb h)
theorem bgs_eq {S W:Nat→Nat→Int} {n m i j:Nat} (hmono:∀ k k', k≤k' → W k' j≤W k j) (hle:∀ k l,k<n→j≤l→l<m→0<S k l→S k l+W (k+1) (l+1)≤W k j):bgs S W n m i j=bgA S W n m i j:=by
 unfold bgs bgA bgF
 refine takeWhile_flatMap ?_ ?_
 ·refine List.Pairwise.imp_of_mem ?_ (List.pairwise_lt_range' (s:=i) (n:=n - i))
  intro a b ha hb hlt h
  have hia:i≤a:=(List.mem_range'_1.1 ha).1
  simp only [decide_eq_false_iff_not] at h ⊢
  have:=hmono i a hia
  have:=hmono a b (by omega)
  omega
 ·intro k hk h
  obtain ⟨hik,hkn⟩:=List.mem_range'_1.1 hk
  simp only [decide_eq_false_iff_not] at h
  unfold bgR
  rw [List.map_eq_nil_iff,List.filter_eq_nil_iff]
  intro l hl
  obtain ⟨h1,hlm⟩:=List.mem_range'_1.1 hl
  simp only [decide_eq_true_eq]
  rintro ⟨h2,h3⟩
  have:=hle k l (by omega) h1 (by omega) h2
  have:=hmono i k hik
  omega
set_option maxRecDepth 100000 in
theorem begins_ok {a b:Sh} {s i j:Int} {f:Nat→Nat→Int}:Fun FB md 54 [.rp (pC a b s f) 0,.int .i64 i,.int .i64 j] (.fn 90 [.rp [.int .i64 i] 0,.rp [.rp (pC a b s f) 0] 0,.rp [.int .i64 j] 0]):=by
 have hvw:∀ h,bget h 0=some (.blk [.rp (pC a b s f) 0] false)→bget h 1=some (.blk [.int .i64 i] false)→bget h 2=some (.blk [.int .i64 j] false)→Vw h depth (.fn 90 [.ref 1 1 0,.ref 0 1 0,.ref 2 1 0]) (.fn 90 [.rp [.int .i64 i] 0,.rp [.rp (pC a b s f) 0] 0,.rp [.int .i64 j] 0]):=fun h h0 h1 h2 =>
  Vw.fn (d:=63) (VwL.cons (Vw.ref (d:=62) h1 rfl rfl (VwL.cons (d:=62) (Vw.int rfl) VwL.nil)) (VwL.cons (Vw.ref (d:=62) h0 rfl rfl (VwL.cons (d:=62) ⟨rfl⟩ VwL.nil)) (VwL.cons (Vw.ref (d:=62) h2 rfl rfl (VwL.cons (d:=62) (Vw.int rfl) VwL.nil)) VwL.nil)))
 refine fun_of rfl rfl ?_
 repeat' (first
 | (conv=>whnf)
   first
   | refine hvw _ rfl rfl rfl
   | refine Get.mk _ rfl ?_
   | refine Leaves.of ?_
   | (refine Req.mk ?_ ?_;(focus first | rfl | decide | exact ⟨rfl,rfl⟩ | exact ⟨rfl,by decide⟩ | exact (fun _=>rfl) | exact (fun h=>nomatch h) | (simp;done) | omega | (simp [big];done) | exact le_big (by omega) | exact lt_big (by omega))))
end Go.Dr.T
