/- Chapter 06: the document's marks of an element; lists of numbers compared; its error of a list of elements. -/
import Derived.Test.YtfhphjloaelgoaaGreatDoorG10
import Derived.Test.YtfhphjloaelgoaaGreatDoorG11
namespace Go.Dr.T
abbrev elK (x:El):B:=.blk [.str x.nm,.sl x.c x.l.length (shC x.l),.int .i64 x.g] false
def knP (l:List (Int × Int)):List Int:=(l.map (·.1)).filter fun m=>decide (0<m)
theorem knP_known {l:List (Int × Int)} (h:∀ p∈l,0≤p.1):knP l=known l:=by
 unfold knP known
 apply List.filter_congr
 intro m hm
 obtain ⟨p,hp,rfl⟩:=List.mem_map.1 hm
 have:=h p hp
 rw [decide_eq_decide]
 omega
theorem knP_snoc {l:List (Int × Int)} {i:Nat} {p:Int × Int} (h:l[i]?=some p):knP (l.take (i+1))=knP (l.take i)++(if 0<p.1 then [p.1] else []):=by
 have:l.take (i+1)=l.take i++[p]:=by rw [List.take_add_one,h];rfl
 rw [this]
 unfold knP
 by_cases hp:0<p.1
 ·simp [hp]
 ·simp [hp]
theorem knP_len {l:List (Int × Int)}:(knP l).length≤l.length:=by
 unfold knP
 have:=List.length_filter_le (fun m=>decide (0<m)) (l.map (·.1))
 rwa [List.length_map] at this
set_option maxRecDepth 100000 in
set_option maxHeartbeats 20000000 in
theorem known_ok {x:El} (hl:x.l.length≤1000000):Fun FB md 102 [elA x] (lw false (knP x.l)):=by
 refine fun_of rfl rfl ?_
 repeat' (first
 | (conv=>whnf)
   first
   | refine Get.mk _ rfl ?_
   | (refine Req.mk ?_ ?_;(focus first | rfl | decide | exact ⟨rfl,rfl⟩ | exact ⟨rfl,by decide⟩ | exact (fun _=>rfl) | exact (fun h=>nomatch h) | (simp;done) | omega | (simp [big];done) | exact le_big (by omega) | exact lt_big (by omega))))
 refine LoopP.by (fun i:Nat=>i≤x.l.length) (fun i=>[(3,lv 0 false (knP (x.l.take i))),(4,.int .i64 (i:Nat))]) (fun i=>elK x :: acB (knP (x.l.take i))) (fun i=>x.l.length - i) 0 (Nat.zero_le _) rfl ?_
 rintro i hi'
 dsimp only
 have hln:(knP (x.l.take i)).length≤1000000:=by
  have:=knP_len (l:=x.l.take i)
  rw [List.length_take] at this
  omega
 by_cases hi:i<x.l.length
 rotate_left
 ·obtain rfl:i=x.l.length:=by omega
  rw [List.take_length] at hln ⊢
  have hvw:Vw (elK x :: acB (knP x.l)) depth (lv 0 false (knP x.l)) (lw false (knP x.l)):=⟨view_lv (d:=62) (fun hn=>by rw [acB_ne hn];rfl)⟩
  cases hL:knP x.l with
  | nil =>
   rw [hL] at hvw
   repeat' (first
 | (conv=>whnf)
   first
   | (refine Br.decF ?_ ?_;(focus first | assumption | omega))
   | exact hvw
   | refine Get.mk _ rfl ?_
   | refine Leaves.of ?_
   | (refine Req.mk ?_ ?_;(focus first | rfl | decide | exact ⟨rfl,rfl⟩ | exact ⟨rfl,by decide⟩ | exact (fun _=>rfl) | exact (fun h=>nomatch h) | (simp;done) | omega | (simp [big];done) | exact le_big (by omega) | exact lt_big (by omega))))
   all_goals first | rfl | (exfalso;omega;done)
  | cons y r =>
   rw [hL] at hvw
   repeat' (first
 | (conv=>whnf)
   first
   | (refine Br.decF ?_ ?_;(focus first | assumption | omega))
   | exact hvw
   | refine Get.mk _ rfl ?_
   | refine Leaves.of ?_
   | (refine Req.mk ?_ ?_;(focus first | rfl | decide | exact ⟨rfl,rfl⟩ | exact ⟨rfl,by decide⟩ | exact (fun _=>rfl) | exact (fun h=>nomatch h) | (simp;done) | omega | (simp [big];done) | exact le_big (by omega) | exact lt_big (by omega))))
   all_goals first | rfl | (exfalso;omega;done)
 obtain ⟨p,hp⟩:∃ p,x.l[i]?=some p:=⟨_,List.getElem?_eq_getElem hi⟩
 have hc:=shC_cell hp
 have hs:=knP_snoc hp
 by_cases hm:0<p.1
 ·rw [if_pos hm] at hs
  cases hL:knP (x.l.take i) with
  | nil =>
   repeat' (first
 | (conv=>whnf)
   first
   | (refine Br.decT ?_ ?_;(focus first | assumption | omega))
   | (refine Bnd.i64 ?_ ?_ ?_;(focus omega);(focus omega))
   | refine Get.mk _ hc ?_
   | (refine Idx.nat ?_ ?_;(focus omega))
   | (refine Ifz.pos ?_ ?_;(focus omega))
   | refine Get.mk _ rfl ?_
   | (refine Req.mk ?_ ?_;(focus first | rfl | decide | exact ⟨rfl,rfl⟩ | exact ⟨rfl,by decide⟩ | exact (fun _=>rfl) | exact (fun h=>nomatch h) | (simp;done) | omega | (simp [big];done) | exact le_big (by omega) | exact lt_big (by omega))))
   all_goals first | (exfalso;omega;done) | skip
   refine NextP.mk (i+1) hi (by omega) ?_
   rw [hs,hL]
   rfl
  | cons y r =>
   rw [hL] at hln
   simp only [List.length_cons] at hln
   have hol:(ofInts (y :: r)).length=r.length+1:=by simp [ofInts]
   repeat' (first
 | (conv=>whnf)
   first
   | (refine Br.decT ?_ ?_;(focus first | assumption | omega))
   | (refine Bnd.i64 ?_ ?_ ?_;(focus omega);(focus omega))
   | refine Get.mk _ hc ?_
   | refine Req.mk hol ?_
   | refine Req.mk ⟨by omega,by rw [hol];exact lt_big (by simp;omega)⟩ ?_
   | (refine Idx.nat ?_ ?_;(focus omega))
   | (refine Ifz.pos ?_ ?_;(focus omega))
   | refine Get.mk _ rfl ?_
   | (refine Req.mk ?_ ?_;(focus first | rfl | decide | exact ⟨rfl,rfl⟩ | exact ⟨rfl,by decide⟩ | exact (fun _=>rfl) | exact (fun h=>nomatch h) | (simp;done) | omega | (simp [big];done) | exact le_big (by omega) | exact lt_big (by omega))))
   all_goals first | (exfalso;omega;done) | skip
   refine NextP.mk (i+1) hi (by omega) ?_
   rw [hs,hL]
   have e1:ofInts (y :: r)++[V.int .i64 p.1]=ofInts (y :: (r++[p.1])):=by simp [ofInts]
   have e2:(r++[p.1]).length=r.length+1:=by simp
   rw [List.cons_append,e1]
   simp only [lv,e2,acB]
   rfl
 ·rw [if_neg hm,List.append_nil] at hs
  cases hL:knP (x.l.take i) with
  | nil =>
   repeat' (first
 | (conv=>whnf)
   first
   | (refine Br.decT ?_ ?_;(focus first | assumption | omega))
   | (refine Br.decF ?_ ?_;(focus first | assumption | omega))
   | (refine Bnd.i64 ?_ ?_ ?_;(focus omega);(focus omega))
   | refine Get.mk _ hc ?_
   | (refine Idx.nat ?_ ?_;(focus omega))
   | refine Get.mk _ rfl ?_
   | (refine Req.mk ?_ ?_;(focus first | rfl | decide | exact ⟨rfl,rfl⟩ | exact ⟨rfl,by decide⟩ | exact (fun _=>rfl) | exact (fun h=>nomatch h) | (simp;done) | omega | (simp [big];done) | exact le_big (by omega) | exact lt_big (by omega))))
   all_goals first | (exfalso;omega;done) | skip
   refine NextP.mk (i+1) hi (by omega) ?_
   rw [hs,hL]
   rfl
  | cons y r =>
   repeat' (first
 | (conv=>whnf)
   first
   | (refine Br.decT ?_ ?_;(focus first | assumption | omega))
   | (refine Br.decF ?_ ?_;(focus first | assumption | omega))
   | (refine Bnd.i64 ?_ ?_ ?_;(focus omega);(focus omega))
   | refine Get.mk _ hc ?_
   | (refine Idx.nat ?_ ?_;(focus omega))
   | refine Get.mk _ rfl ?_
   | (refine Req.mk ?_ ?_;(focus first | rfl | decide | exact ⟨rfl,rfl⟩ | exact ⟨rfl,by decide⟩ | exact (fun _=>rfl) | exact (fun h=>nomatch h) | (simp;done) | omega | (simp [big];done) | exact le_big (by omega) | exact lt_big (by omega))))
   all_goals first | (exfalso;omega;done) | skip
   refine NextP.mk (i+1) hi (by omega) ?_
   rw [hs,hL]
   rfl
set_option maxRecDepth 100000 in
set_option maxHeartbeats 20000000 in
theorem intsE_ok {c d:Bool} {l:List Int} (hl:l.length≤1000000):Fun FB md 35 [.sl c l.length (ofInts l),.sl d l.length (ofInts l)] (.bool true):=by
 refine fun_of rfl rfl ?_
 repeat' (first
 | (conv=>whnf)
   first
   | (refine Br.decT ?_ ?_;(focus first | assumption | omega))
   | refine Br.not ?_)
 all_goals try (exfalso;omega;done)
 refine LoopP.by (fun i:Nat=>i≤l.length) (fun i=>[(5,.int .i64 (i:Nat))]) (fun _=>[]) (fun i=>l.length - i) 0 (Nat.zero_le _) rfl ?_
 rintro i hi'
 dsimp only
 by_cases hi:i<l.length
 rotate_left
 ·repeat' (first
 | (conv=>whnf)
   first
   | (refine Br.decF ?_ ?_;(focus first | assumption | omega))
   | refine Get.mk _ rfl ?_
   | refine Leaves.of ?_
   | refine Vw.bool ?_)
  all_goals first | rfl | (exfalso;omega)
 obtain ⟨p,hp,hpp⟩:=ofInts_cell hi
 repeat' (first
 | (conv=>whnf)
   first
   | (refine Br.decT ?_ ?_;(focus first | assumption | omega))
   | refine Br.not ?_
   | (refine Bnd.i64 ?_ ?_ ?_;(focus omega);(focus omega))
   | refine Get.mk _ hpp ?_
   | (refine Idx.nat ?_ ?_;(focus omega))
   | (refine Req.mk ?_ ?_;(focus first | rfl | decide | exact ⟨rfl,rfl⟩ | exact ⟨rfl,by decide⟩ | exact (fun _=>rfl) | exact (fun h=>nomatch h) | (simp;done) | omega | (simp [big];done) | exact le_big (by omega) | exact lt_big (by omega))))
 all_goals first | (exfalso;omega;done) | exact NextP.mk (i+1) hi (by omega) rfl
theorem ckd_take {l:List El} {i:Nat} {x:El} (h:l[i]?=some x) (h0:∀ y∈l.take i,y.e=0) (hx:x.e≠0):ckd l=x.e:=by
 induction l generalizing i with
 | nil=>cases h
 | cons a l ih =>
  unfold ckd
  cases i with
  | zero =>
   rw [List.getElem?_cons_zero,Option.some.injEq] at h
   subst h
   rw [if_pos hx]
  | succ i =>
   rw [List.getElem?_cons_succ] at h
   rw [if_neg (fun h1=>h1 (h0 a (by simp)))]
   exact ih h (fun y hy=>h0 y (by rw [List.take_succ_cons];exact List.mem_cons_of_mem _ hy))
theorem ckd_zero {l:List El} (h:∀ y∈l,y.e=0):ckd l=0:=by
 induction l with
 | nil=>rfl
 | cons a l ih =>
  unfold ckd
  rw [if_neg (fun h1=>h1 (h a (by simp)))]
  exact ih fun y hy=>h y (by simp [hy])
theorem dup_app {x:El}:∀ {l pre:List El},dupF pre (l++[x])=(dupF pre l || nmE x.nm (pre++l))
 | [],pre=>by simp [dupF]
 | y :: l,pre=>by
  rw [List.cons_append,dupF,dup_app,dupF,List.append_assoc,Bool.or_assoc]
  rfl
theorem dup_more {l:List El}:∀ {r pre:List El},dupF pre l=true→dupF pre (l++r)=true:=by
 induction l with
 | nil=>intro r pre h;cases h
 | cons x l ih =>
  intro r pre h
  rw [List.cons_append,dupF,Bool.or_eq_true] at *
  rcases h with h | h
  ·exact .inl h
  ·exact .inr (ih h)
theorem elC_nm:∀ {l:List El} {i:Nat} {x:El},l[i]?=some x→cellAt (elC l) (i * 3)=some (.str x.nm)
 | y :: l,0,x,h=>by
  rw [List.getElem?_cons_zero,Option.some.injEq] at h
  subst h
  rfl
 | y :: l,i+1,x,h=>by
  rw [List.getElem?_cons_succ] at h
  have:=elC_nm h
  rw [show (i+1) * 3=i * 3+1+1+1 by omega]
  exact this
theorem nm_take {nm:List UInt8} {l:List El} {k:Nat} {y:El} (h:l[k]?=some y):nmE nm (l.take (k+1))=(nmE nm (l.take k) || (y.nm == nm)):=by
 have:l.take (k+1)=l.take k++[y]:=by rw [List.take_add_one,h];rfl
 rw [this]
 simp [nmE]
set_option maxRecDepth 100000 in
set_option maxHeartbeats 20000000 in
theorem valid_ok {c:Bool} {l:List El}:Fun FB md 70 [elsV c l] (.int .i64 (vldE l)):=by
 unfold vldE
 by_cases h8:8<l.length
 ·rw [if_pos h8]
  refine fun_of rfl rfl ?_
  repeat' (first
 | (conv=>whnf)
   first
   | (refine Br.decT ?_ ?_;(focus first | assumption | omega))
   | refine Get.mk _ rfl ?_
   | refine Leaves.of ?_
   | refine Vw.int ?_)
  all_goals first | rfl | (exfalso;omega)
 rw [if_neg h8]
 refine fun_of rfl rfl ?_
 repeat' (first
 | (conv=>whnf)
   first
   | (refine Br.decF ?_ ?_;(focus first | assumption | omega)))
 all_goals try (exfalso;omega;done)
 refine LoopP.by (fun i:Nat=>i≤l.length∧∀ y∈l.take i,y.e=0) (fun i=>[(3,.int .i64 (i:Nat))]) (fun _=>[]) (fun i=>l.length - i) 0 ⟨Nat.zero_le _,by simp⟩ rfl ?_
 rintro i ⟨q1,q2⟩
 dsimp only
 by_cases hi:i<l.length
 ·obtain ⟨x,hx⟩:∃ p,l[i]?=some p:=⟨_,List.getElem?_eq_getElem hi⟩
  have hpart:=elC_part hx
  have h1:Fun FB md 19 [elA x] (.tup [.int .i64 (ckE x.nm x.l x.g).1,.int .i64 x.e]):=refCheck_ok (nm:=x.nm) (c:=x.c) (l:=x.l) (g:=x.g)
  by_cases hxe:x.e=0
  ·rw [hxe] at h1
   repeat' (first
 | (conv=>whnf)
   first
   | refine Br.f ?_
   | (refine Br.decT ?_ ?_;(focus first | assumption | omega))
   | (refine Bnd.i64 ?_ ?_ ?_;(focus omega);(focus omega))
   | refine Get.mk _ hpart ?_
   | refine call_fun rfl rfl h1 (.inl rfl) ?_
   | (refine Idx.nat ?_ ?_;(focus omega))
   | refine Get.mk _ rfl ?_
   | (refine Req.mk ?_ ?_;(focus first | rfl | decide | exact ⟨rfl,rfl⟩ | exact ⟨rfl,by decide⟩ | exact (fun _=>rfl) | exact (fun h=>nomatch h) | (simp;done) | omega | (simp [big];done) | exact le_big (by omega) | exact lt_big (by omega))))
   all_goals first | (exfalso;omega;done) | skip
   refine NextP.mk (i+1) ⟨hi,fun y hy => ?_⟩ (by omega) rfl
   rw [List.take_add_one,hx,List.mem_append] at hy
   rcases hy with hy | hy
   ·exact q2 y hy
   ·simp at hy;subst hy;exact hxe
  ·have hck:=ckd_take hx q2 hxe
   generalize x.e=e at *
   repeat' (first
 | (conv=>whnf)
   first
   | (refine Br.decT ?_ ?_;(focus first | assumption | omega))
   | (refine Br.decF ?_ ?_;(focus first | assumption | omega))
   | refine Br.not ?_
   | refine Get.mk _ hpart ?_
   | refine call_fun rfl rfl h1 (.inl rfl) ?_
   | (refine Idx.nat ?_ ?_;(focus omega))
   | refine Get.mk _ rfl ?_
   | refine Leaves.of ?_
   | refine Vw.int ?_
   | (refine Req.mk ?_ ?_;(focus first | rfl | decide | exact ⟨rfl,rfl⟩ | exact ⟨rfl,by decide⟩ | exact (fun _=>rfl) | exact (fun h=>nomatch h) | (simp;done) | omega | (simp [big];done) | exact le_big (by omega) | exact lt_big (by omega))))
   all_goals first | (exfalso;omega;done) | skip
   rw [hck,if_pos hxe]
 have hck:ckd l=0:=ckd_zero (by rw [List.take_of_length_le (by omega)] at q2;exact q2)
 rw [hck,if_neg (fun h=>h rfl)]
 repeat' (first
 | (conv=>whnf)
   first
   | (refine Br.decF ?_ ?_;(focus first | assumption | omega)))
 all_goals try (exfalso;omega;done)
 refine LoopP.by (fun i:Nat=>i≤l.length∧dupF [] (l.take i)=false) (fun i=>[(6,.int .i64 (i:Nat))]) (fun _=>[]) (fun i=>l.length - i) 0 ⟨Nat.zero_le _,rfl⟩ rfl ?_
 clear q1 q2 hi
 rintro i ⟨q1,q2⟩
 dsimp only
 by_cases hi:i<l.length
 rotate_left
 ·have hd:dupF [] l=false:=by rw [List.take_of_length_le (by omega)] at q2;exact q2
  rw [hd]
  repeat' (first
 | (conv=>whnf)
   first
   | (refine Br.decF ?_ ?_;(focus first | assumption | omega))
   | refine Get.mk _ rfl ?_
   | refine Leaves.of ?_
   | refine Vw.int ?_)
  all_goals first | rfl | (exfalso;omega)
 obtain ⟨x,hx⟩:∃ p,l[i]?=some p:=⟨_,List.getElem?_eq_getElem hi⟩
 have hpart:=elC_nm hx
 have htk:l.take (i+1)=l.take i++[x]:=by rw [List.take_add_one,hx];rfl
 repeat' (first
 | (conv=>whnf)
   first
   | (refine Br.decT ?_ ?_;(focus first | assumption | omega)))
 all_goals try (exfalso;omega;done)
 refine LoopP.by (fun k:Nat=>k≤i∧nmE x.nm (l.take k)=false) (fun i=>[(7,.int .i64 (i:Nat))]) (fun _=>[]) (fun k=>i - k) 0 ⟨Nat.zero_le _,rfl⟩ rfl ?_
 rintro k ⟨z1,z2⟩
 dsimp only
 by_cases hk:k<i
 rotate_left
 ·have e:k=i:=by omega
  subst e
  repeat' (first
 | (conv=>whnf)
   first
   | (refine Br.decF ?_ ?_;(focus first | assumption | omega))
   | (refine Bnd.i64 ?_ ?_ ?_;(focus omega);(focus omega)))
  all_goals try (exfalso;omega;done)
  refine NextP.mk (k+1) ⟨hi,?_⟩ (by omega) rfl
  rw [htk,dup_app,q2,List.nil_append,z2]
  rfl
 obtain ⟨y,hy⟩:∃ p,l[k]?=some p:=⟨_,List.getElem?_eq_getElem (show k<l.length by omega)⟩
 have hparty:=elC_nm hy
 have hn:=nm_take (nm:=x.nm) hy
 by_cases he:y.nm=x.nm
 ·have hd:dupF [] l=true:=by
   have h1:dupF [] (l.take (i+1))=true:=by
    rw [htk,dup_app,List.nil_append,Bool.or_eq_true]
    refine .inr (List.any_eq_true.2 ⟨y,?_,by simp [he]⟩)
    rw [List.mem_iff_getElem?]
    exact ⟨k,by rw [List.getElem?_take_of_lt hk];exact hy⟩
   have:=dup_more (r:=l.drop (i+1)) h1
   rwa [List.take_append_drop] at this
  rw [hd]
  have hye:(y.nm == x.nm)=true:=by simpa using he
  repeat' (first
 | (conv=>whnf)
   first
   | (refine Br.decT ?_ ?_;(focus first | assumption | omega))
   | refine Get.mk _ hpart ?_
   | refine Get.mk _ hparty ?_
   | refine Br.yes hye ?_
   | (refine Idx.nat ?_ ?_;(focus omega))
   | refine Get.mk _ rfl ?_
   | refine Leaves.of ?_
   | refine Vw.int ?_
   | (refine Req.mk ?_ ?_;(focus first | rfl | decide | exact ⟨rfl,rfl⟩ | exact ⟨rfl,by decide⟩ | exact (fun _=>rfl) | exact (fun h=>nomatch h) | (simp;done) | omega | (simp [big];done) | exact le_big (by omega) | exact lt_big (by omega))))
  all_goals first | (exfalso;omega;done) | rfl
 ·rw [z2,Bool.false_or] at hn
  have hne:(y.nm == x.nm)=false:=by simpa using he
  repeat' (first
 | (conv=>whnf)
   first
   | (refine Br.decT ?_ ?_;(focus first | assumption | omega))
   | (refine Bnd.i64 ?_ ?_ ?_;(focus omega);(focus omega))
   | refine Get.mk _ hpart ?_
   | refine Get.mk _ hparty ?_
   | refine Br.no hne ?_
   | (refine Idx.nat ?_ ?_;(focus omega))
   | refine Get.mk _ rfl ?_
   | (refine Req.mk ?_ ?_;(focus first | rfl | decide | exact ⟨rfl,rfl⟩ | exact ⟨rfl,by decide⟩ | exact (fun _=>rfl) | exact (fun h=>nomatch h) | (simp;done) | omega | (simp [big];done) | exact le_big (by omega) | exact lt_big (by omega))))
  all_goals first | (exfalso;omega;done) | exact NextP.mk (k+1) ⟨hk,by rw [hn,hne]⟩ (by omega) rfl
end Go.Dr.T
namespace Go.Dr.T
theorem cellAt_eq:∀ {l:List V} {n:Nat},cellAt l n=l[n]?
 | [],n=>by cases n <;> rfl
 | _ :: l,0=>rfl
 | _ :: l,n+1=>by simpa [cellAt] using cellAt_eq (l:=l) (n:=n)
def outC (n m:Nat) (rid:Nat→Nat) (hv:Nat→Bool):List V:=(List.range (n+1)).map fun i=>if hv i=true then .ms 1 (rid i) ((m+1) * 1) 0 (m+1) true else .nilsl
theorem outC_len {n m:Nat} {rid:Nat→Nat} {hv:Nat→Bool}:(outC n m rid hv).length=n+1:=by simp [outC]
theorem over_one:∀ {l:List V} {i:Nat} {v:V},over l i [v]=l.set i v
 | [],i,v=>by cases i <;> rfl
 | _ :: l,0,v=>by cases l <;> rfl
 | _ :: l,i+1,v=>by simp only [over,List.set_cons_succ,over_one (l:=l)]
theorem outC_get {n m i:Nat} {rid:Nat→Nat} {hv:Nat→Bool} (h:i≤n) (hi:hv i=true):cellAt (outC n m rid hv) (0+i * 1)=some (.ms 1 (rid i) ((m+1) * 1) 0 (m+1) true):=by
 rw [Nat.zero_add,Nat.mul_one i,cellAt_eq]
 simp [outC,show i<n+1 by omega,hi]
theorem outC_set {n m i:Nat} {rid:Nat→Nat} {hv:Nat→Bool} (h:i≤n):over (outC n m rid hv) (0+i * 1) [.ms 1 (rid i) ((m+1) * 1) 0 (m+1) true]=outC n m rid (fun k=>decide (k=i) || hv k):=by
 unfold outC
 rw [Nat.zero_add,Nat.mul_one i,over_one]
 apply List.ext_getElem?
 intro k
 rw [List.getElem?_set]
 by_cases hk:i=k
 ·subst hk
  simp [show i<n+1 by omega]
 ·rw [if_neg hk]
  by_cases hk2:k<n+1
  ·simp [hk2,show ¬ k=i from fun e=>hk e.symm]
  ·rw [List.getElem?_eq_none (by simp;omega),List.getElem?_eq_none (by simp;omega)]
theorem outC_none {n m:Nat} {rid:Nat→Nat}:reps (n+1) [.nilsl]=outC n m rid (fun _=>false):=by
 have key:∀ k,reps k [V.nilsl]=List.replicate k .nilsl:=by
  intro k
  induction k with
  | zero=>rfl
  | succ k ih=>rw [reps,ih];rfl
 unfold outC
 rw [key]
 simp only [Bool.false_eq_true,if_false]
 rw [List.map_const']
 simp
theorem outC_ext {n m:Nat} {rid:Nat→Nat} {hv hv' : Nat→Bool} (h:∀ k,k≤n→hv k=hv' k):outC n m rid hv=outC n m rid hv' := by
 unfold outC
 apply List.map_congr_left
 intro k hk
 rw [h k (by simp at hk;omega)]
theorem blos_mem {k:Nat}:∀ {l:List V} {v:V},blos k l=true→v∈l→v.blo k=true
 | x :: l,v,h,hm=>by
  simp only [blos,Bool.and_eq_true] at h
  rcases List.mem_cons.1 hm with e | e
  ·subst e;exact h.1
  ·exact blos_mem h.2 e
theorem outC_blo {n m i k:Nat} {rid:Nat→Nat} {hv:Nat→Bool} (h:(B.blk (outC n m rid hv) false).blo k=true) (hi:i≤n) (hh:hv i=true):rid i<k:=by
 simp only [B.blo,Bool.false_or] at h
 have:=blos_mem (v:=.ms 1 (rid i) ((m+1) * 1) 0 (m+1) true) h (by unfold outC;exact List.mem_map.2 ⟨i,by simp;omega,by rw [if_pos hh]⟩)
 simpa [V.blo] using this
theorem blos_of:∀ {k:Nat} {l:List V},(∀ v∈l,v.blo k=true)→blos k l=true
 | k,[],_=>rfl
 | k,x :: l,h=>by simp only [blos,Bool.and_eq_true];exact ⟨h x (by simp),blos_of fun v hv=>h v (by simp [hv])⟩
theorem outC_ok {n m k:Nat} {rid:Nat→Nat} {hv:Nat→Bool} (h:∀ i,i≤n→hv i=true→rid i<k):(B.blk (outC n m rid hv) false).blo k=true:=by
 simp only [B.blo,Bool.false_or]
 refine blos_of fun v hv' => ?_
 unfold outC at hv'
 obtain ⟨i,hi,rfl⟩:=List.mem_map.1 hv'
 split
 ·rename_i hh
  simpa [V.blo] using h i (by simp at hi;omega) hh
 ·rfl
theorem norm_all {mk:List Bool} {n o r:Nat} {tm:List V} {h:List B} {b:B} (hr:h.length=r+1) (hn:n≤r) (ho:o<n) (hb:bget h o=some b) (hv:∀ k,b.blo k=true→r<k):norm mk n ⟨tm,h⟩=⟨masked mk tm,h⟩:=by
 unfold norm trunc
 dsimp only
 obtain ⟨d,hd⟩:∃ d,h.length - n=d+1:=⟨h.length - n - 1,by omega⟩
 rw [hd]
 unfold strip
 rw [show n+d=r by omega]
 have:hbelow r (h.take r)=false:=by
  cases hc:hbelow r (h.take r) with
  | false=>rfl
  | true =>
   have h1:bget (h.take r) o=some b:=by rw [bget_take (by omega)];exact hb
   have hm:b∈h.take r:=by
    have key:∀ {l:List B} {i:Nat} {b:B},bget l i=some b→b∈l:=by
     intro l
     induction l with
     | nil=>intro i b e;cases e
     | cons x l ih =>
      intro i b e
      cases i with
      | zero=>simp only [bget,Option.some.injEq] at e;subst e;simp
      | succ i=>exact List.mem_cons_of_mem _ (ih e)
    exact key h1
   exact absurd (hv r (blo_of_hbelow hc hm)) (Nat.lt_irrefl r)
 rw [this,Bool.and_false]
 rfl
theorem VwLF.ints {h:List B} {d:Nat}:∀ l:List Int,VwLF h (d+1) (ofInts l) (ofInts l)
 | []=>VwLF.nil
 | _ :: l=>VwLF.cons (VwF.int rfl) (VwLF.ints l)
theorem VwLF.map {h:List B} {d:Nat} {α:Type} {f g:α→V}:∀ {l:List α},(∀ x∈l,VwF h d (f x) (g x))→VwLF h d (l.map f) (l.map g)
 | [],_=>VwLF.nil
 | x :: l,h=>VwLF.cons (h x (by simp)) (VwLF.map fun y hy=>h y (by simp [hy]))
def hasc:Nat→List B→Prop
 | _,[]=>True
 | n,b :: l=>b.blo n=true∧hasc (n+1) l
theorem cl_asc:∀ {A H:List B},Cl H→hasc H.length A→Cl (H++A)
 | [],H,c,_=>by rw [List.append_nil];exact c
 | b :: A,H,c,h=>by
  have:=cl_asc (A:=A) (H:=H++[b]) (c.app h.1) (by rw [List.length_append];exact h.2)
  rwa [List.append_assoc] at this
theorem mem_bget:∀ {l:List B} {i:Nat} {b:B},bget l i=some b→b∈l
 | [],_,_,e=>nomatch e
 | x :: l,0,b,e=>by simp only [bget,Option.some.injEq] at e;subst e;simp
 | x :: l,i+1,b,e=>List.mem_cons_of_mem _ (mem_bget e)
theorem norm_with {m:List Bool} {n q r:Nat} {s:St} {b b' : B} (hn:n≤s.h.length) (c:Cl s.h) (hq:bget (norm m n s).h q=some b) (hv:∀ k,b.blo k=true→r<k) (hr:bget s.h r=some b'):bget (norm m n s).h r=some b' := by
 have c' := norm_cl (m:=m) hn c
 have hb:=blo_of_hbelow c' (mem_bget hq)
 have hlt:=hv _ hb
 have e:∃ j,(norm m n s).h=s.h.take j:=by
  obtain ⟨j,_,h2,_⟩:=strip_spec (n:=n) (tm:=masked m s.tm) (k:=s.h.length - n) (h:=s.h) (by omega)
  exact ⟨j,h2⟩
 obtain ⟨j,e⟩:=e
 rw [e] at hlt ⊢
 rw [List.length_take] at hlt
 rw [bget_take (by omega)]
 exact hr
end Go.Dr.T
