/- Chapter 06: Judge. -/
import Derived.Test.YtfhphjloaelgoaaGreatDoorG5
import Derived.Test.YtfhphjloaelgoaaGreatDoorG7
namespace Go.Dr.T
def prC:List (Int × Int)→List V:=shC
def badQ (n m:Int) (p:Int × Int):Bool:=outB p.1 0 (n - 1) || outB p.2 0 (m - 1)
def bixOf (n m:Int):List (Int × Int)→Int
 | [] => -1
 | p :: l=>if badQ n m p=true then 0 else if bixOf n m l<0 then -1 else bixOf n m l+1
theorem bix_cases (n m:Int):∀ l,(l.any (badQ n m)=true∧0≤bixOf n m l)∨(l.any (badQ n m)=false∧bixOf n m l = -1)
 | []=>.inr ⟨rfl,rfl⟩
 | p :: l=>by
  unfold bixOf
  cases h:badQ n m p with
  | true=>rw [if_pos rfl];exact .inl ⟨by simp [h],by omega⟩
  | false =>
   rw [if_neg (by simp)]
   rcases bix_cases n m l with ⟨h1,h2⟩ | ⟨h1,h2⟩
   ·rw [if_neg (by omega)];exact .inl ⟨by simp only [List.any_cons,h1,Bool.or_true],by omega⟩
   ·rw [if_pos (by omega)];exact .inr ⟨by simp only [List.any_cons,h1,h,Bool.or_false],rfl⟩
theorem bix_drop {n m:Int} {p:Int × Int} {l:List (Int × Int)} {i:Nat} (h:l[i]?=some p):bixOf n m (l.drop i)=if badQ n m p=true then 0 else if bixOf n m (l.drop (i+1))<0 then -1 else bixOf n m (l.drop (i+1))+1:=by
 obtain ⟨hi,rfl⟩:=List.getElem?_eq_some_iff.1 h
 rw [List.drop_eq_getElem_cons hi];rfl
set_option maxRecDepth 100000 in
set_option maxHeartbeats 20000000 in
theorem bad_call {x y:El} {p:Int × Int} {K:V→List B→Prop} (hx:x.l.length≤40) (hy:y.l.length≤40) (hk:K (.bool (badQ x.l.length y.l.length p)) [elB x,elB y]):CallP FB md 0 (.fn 62 [.ref 0 3 0,.ref 1 3 0]) [.agg [.int .i64 p.1,.int .i64 p.2]] [elB x,elB y] K:=by
 have h1:=out_ok (n:=p.1) (lo:=0) (hi:=(x.l.length:Int) - 1)
 have h2:=out_ok (n:=p.2) (lo:=0) (hi:=(y.l.length:Int) - 1)
 unfold badQ at hk
 refine call_one rfl rfl rfl ?_
 cases ho:outB p.1 0 ((x.l.length:Int) - 1) <;> rw [ho] at h1 hk
 ·cases ho2:outB p.2 0 ((y.l.length:Int) - 1) <;> rw [ho2] at h2 hk
  all_goals
   repeat' (first
 | (conv=>whnf)
   first
   | refine Br.f ?_
   | (refine Bnd.i64 ?_ ?_ ?_;(focus omega);(focus omega))
   | refine call_fun rfl rfl h1 (.inl rfl) ?_
   | refine call_fun rfl rfl h2 (.inl rfl) ?_
   | refine Get.mk _ rfl ?_
   | refine Ends.of ?_
   | (refine Req.mk ?_ ?_;(focus first | rfl | decide | exact ⟨rfl,rfl⟩ | exact ⟨rfl,by decide⟩ | exact (fun _=>rfl) | exact (fun h=>nomatch h) | (simp;done) | omega | (simp [big];done) | exact le_big (by omega) | exact lt_big (by omega))))
  all_goals exact hk
 ·repeat' (first
 | (conv=>whnf)
   first
   | refine Br.t ?_
   | (refine Bnd.i64 ?_ ?_ ?_;(focus omega);(focus omega))
   | refine call_fun rfl rfl h1 (.inl rfl) ?_
   | refine Get.mk _ rfl ?_
   | refine Ends.of ?_
   | (refine Req.mk ?_ ?_;(focus first | rfl | decide | exact ⟨rfl,rfl⟩ | exact ⟨rfl,by decide⟩ | exact (fun _=>rfl) | exact (fun h=>nomatch h) | (simp;done) | omega | (simp [big];done) | exact le_big (by omega) | exact lt_big (by omega))))
  all_goals exact hk
set_option maxRecDepth 100000 in
set_option maxHeartbeats 20000000 in
theorem bix_call {c:Bool} {x y:El} {l:List (Int × Int)} {K:V→List B→Prop} (hx:x.l.length≤40) (hy:y.l.length≤40) (hl:l.length≤9223372036854775807) (hk:K (.int .i64 (bixOf x.l.length y.l.length l)) [elB x,elB y]):CallP FB md 0 (.fn 94 []) [.sl c l.length (shC l),.fn 62 [.ref 0 3 0,.ref 1 3 0]] [elB x,elB y] K:=by
 refine call_one rfl rfl rfl ?_
 skip
 refine LoopP.by (fun i:Nat=>i≤l.length∧bixOf x.l.length y.l.length l=if bixOf x.l.length y.l.length (l.drop i)<0 then -1 else bixOf x.l.length y.l.length (l.drop i)+i) (fun i=>[(4,.int .i64 0),(8,.int .i64 (i:Nat))]) (fun _=>[elB x,elB y]) (fun i=>l.length - i) 0 ⟨Nat.zero_le _,by rcases bix_cases x.l.length y.l.length l with ⟨_,h⟩ | ⟨_,h⟩ <;> rw [List.drop_zero] <;> first | (rw [h];rfl) | (rw [if_neg (by omega)];simp)⟩ rfl ?_
 rintro i ⟨q1,q2⟩
 dsimp only
 by_cases hi:i<l.length
 rotate_left
 ·have hres:bixOf x.l.length y.l.length l = -1:=by rw [q2,show i=l.length by omega,List.drop_length];rfl
  rw [hres] at hk
  repeat' (first
 | (conv=>whnf)
   first
   | (refine Br.decF ?_ ?_;(focus first | assumption | omega))
   | refine Get.mk _ rfl ?_
   | refine Ends.of ?_)
  all_goals first | exact hk | (exfalso;omega)
 obtain ⟨p,hp⟩:∃ p,l[i]?=some p:=⟨_,List.getElem?_eq_getElem hi⟩
 have hpart:=shC_part hp
 have hq:=bix_drop (n:=x.l.length) (m:=y.l.length) hp
 have hbc:∀ {K:V→List B→Prop},K (.bool (badQ x.l.length y.l.length p)) [elB x,elB y]→CallP FB md 0 (.fn 62 [.ref 0 3 0,.ref 1 3 0]) [.agg [.int .i64 p.1,.int .i64 p.2]] [elB x,elB y] K:=fun h=>bad_call hx hy h
 cases hb:badQ x.l.length y.l.length p <;> rw [hb] at hq hbc
 ·rw [if_neg (by simp)] at hq
  repeat' (first
 | (conv=>whnf)
   first
   | refine Br.f ?_
   | (refine Br.decT ?_ ?_;(focus first | assumption | omega))
   | (refine Bnd.i64 ?_ ?_ ?_;(focus omega);(focus omega))
   | refine Get.mk _ hpart ?_
   | refine hbc ?_
   | (refine Idx.nat ?_ ?_;(focus omega))
   | (refine Req.mk ?_ ?_;(focus first | rfl | decide | exact ⟨rfl,rfl⟩ | exact ⟨rfl,by decide⟩ | exact (fun _=>rfl) | exact (fun h=>nomatch h) | (simp;done) | omega | (simp [big];done) | exact le_big (by omega) | exact lt_big (by omega))))
  all_goals try (exfalso;omega)
  refine NextP.mk (i+1) ⟨hi,?_⟩ (by omega) rfl
  rw [q2,hq]
  rcases bix_cases x.l.length y.l.length (l.drop (i+1)) with ⟨_,h⟩ | ⟨_,h⟩
  ·rw [if_neg (show ¬ bixOf x.l.length y.l.length (l.drop (i+1))<0 by omega),if_neg (by omega)];omega
  ·rw [h];rfl
 ·rw [if_pos rfl] at hq
  have hres:bixOf x.l.length y.l.length l=i:=by rw [q2,hq];simp
  rw [hres] at hk
  repeat' (first
 | (conv=>whnf)
   first
   | refine Br.t ?_
   | (refine Br.decT ?_ ?_;(focus first | assumption | omega))
   | refine Get.mk _ hpart ?_
   | refine hbc ?_
   | (refine Idx.nat ?_ ?_;(focus omega))
   | refine Get.mk _ rfl ?_
   | refine Ends.of ?_
   | (refine Req.mk ?_ ?_;(focus first | rfl | decide | exact ⟨rfl,rfl⟩ | exact ⟨rfl,by decide⟩ | exact (fun _=>rfl) | exact (fun h=>nomatch h) | (simp;done) | omega | (simp [big];done) | exact le_big (by omega) | exact lt_big (by omega))))
  all_goals first | exact hk | (exfalso;omega)
set_option maxRecDepth 100000 in
theorem bads_call {c:Bool} {x y:El} {l:List (Int × Int)} {K:V→List B→Prop} (hx:x.l.length≤40) (hy:y.l.length≤40) (hl:l.length≤9223372036854775807) (hk:K (.bool (l.any (badQ x.l.length y.l.length))) [elB x,elB y]):CallP FB md 0 (.fn 61 []) [.sl c l.length (shC l),.fn 62 [.ref 0 3 0,.ref 1 3 0]] [elB x,elB y] K:=by
 have h1:∀ {K:V→List B→Prop},K (.int .i64 (bixOf x.l.length y.l.length l)) [elB x,elB y]→CallP FB md 0 (.fn 94 []) [.sl c l.length (shC l),.fn 62 [.ref 0 3 0,.ref 1 3 0]] [elB x,elB y] K:=fun h=>bix_call hx hy hl h
 refine call_one rfl rfl rfl ?_
 rcases bix_cases x.l.length y.l.length l with ⟨h,h2⟩ | ⟨h,h2⟩
 all_goals rw [h] at hk
 all_goals generalize bixOf x.l.length y.l.length l=e at *
 all_goals
  repeat' (first
 | (conv=>whnf)
   first
   | refine h1 ?_
   | refine Get.mk _ rfl ?_
   | refine Ends.of ?_)
 ·have hd:decide (0≤e)=true:=decide_eq_true (by omega)
  refine fW.mk ?_
  refine fB.mk ?_
  show K (.bool (decide (0≤e))) [elB x,elB y]
  rw [hd];exact hk
 ·have hd:decide (0≤e)=false:=decide_eq_false (by omega)
  refine fW.mk ?_
  refine fB.mk ?_
  show K (.bool (decide (0≤e))) [elB x,elB y]
  rw [hd];exact hk
end Go.Dr.T
namespace Go.Dr.T
def sAt (x y:El) (s:Int) (p:Int × Int):Int:=shA x.l y.l s p.1.toNat p.2.toNat
def jgF (x y:El) (s:Int):List (Int × Int)→Int→Int→Int→Int × Int
 | [],_,_,w=>(w,0)
 | p :: l,bi,bj,w=>if sAt x y s p=0∨p.1≤bi∨p.2≤bj then (0,160) else jgF x y s l p.1 p.2 (w+sAt x y s p)
def jgV (x y:El) (s:Int) (l:List (Int × Int)):V :=
 if openE x y s≠0 then .tup [.int .i64 0,.int .i64 (openE x y s)] else
 if l.any (badQ x.l.length y.l.length)=true then .tup [.int .i64 0,.int .i64 2] else .tup [.int .i64 (jgF x y s l (-1) (-1) 0).1,.int .i64 (jgF x y s l (-1) (-1) 0).2]
theorem jg_drop {x y:El} {s:Int} {l:List (Int × Int)} {i:Nat} {p:Int × Int} {bi bj w:Int} (h:l[i]?=some p):jgF x y s (l.drop i) bi bj w=if sAt x y s p=0∨p.1≤bi∨p.2≤bj then (0,160) else jgF x y s (l.drop (i+1)) p.1 p.2 (w+sAt x y s p):=by
 obtain ⟨hi,rfl⟩:=List.getElem?_eq_some_iff.1 h
 rw [List.drop_eq_getElem_cons hi];rfl
theorem good_at {n m:Nat} {l:List (Int × Int)} (hb:l.any (badQ n m)=false) {i:Nat} {p:Int × Int} (h:l[i]?=some p):0≤p.1∧p.1<n∧0≤p.2∧p.2<m:=by
 rw [List.any_eq_false] at hb
 have:=hb p (List.mem_of_getElem? h)
 simp only [badQ,outB,Bool.or_eq_true,decide_eq_true_eq,not_or] at this
 omega
structure JS where
 i:Nat
 bi:Int
 bj:Int
 w:Int
structure JOk (x y:El) (s:Int) (l:List (Int × Int)) (a:JS):Prop where
 le:a.i≤l.length
 eq:jgF x y s l (-1) (-1) 0=jgF x y s (l.drop a.i) a.bi a.bj a.w
 b1 : -1≤a.bi∧a.bi<40
 w0:0≤a.w∧a.w≤200000 * (a.bi+1)
set_option maxRecDepth 100000 in
set_option maxHeartbeats 20000000 in
theorem judge_ok {c:Bool} {x y:El} {s:Int} {l:List (Int × Int)} (hl:l.length≤9223372036854775807):Fun FB md 26 [elA' x,elA' y,.int .i64 s,.sl c l.length (shC l)] (jgV x y s l):=by
 have ho:=open_ok (x:=x) (y:=y) (s:=s)
 unfold openV at ho
 unfold jgV
 by_cases he:openE x y s=0
 rotate_left
 ·rw [if_pos he] at ho ⊢
  generalize openE x y s=e at *
  refine fun_of rfl rfl ?_
  repeat' (first
 | (conv=>whnf)
   first
   | (refine Br.decF ?_ ?_;(focus first | assumption | omega))
   | refine Br.not ?_
   | refine call_fun rfl rfl ho (.inl rfl) ?_
   | refine Get.mk _ rfl ?_
   | refine Leaves.of ?_
   | refine Vw.int ?_
   | refine Vw.tup ?_
   | refine VwL.cons ?_ ?_
   | refine VwL.nil
   | (refine Req.mk ?_ ?_;(focus first | rfl | decide | exact ⟨rfl,rfl⟩ | exact ⟨rfl,by decide⟩ | exact (fun _=>rfl) | exact (fun h=>nomatch h) | (simp;done) | omega | (simp [big];done) | exact le_big (by omega) | exact lt_big (by omega))))
  all_goals first | rfl | (exfalso;omega)
 obtain ⟨ha,hb,hs⟩:=open_good he
 rw [if_neg (fun h=>h he)] at ho ⊢
 have hbc:∀ {K:V→List B→Prop},K (.bool (l.any (badQ x.l.length y.l.length))) [elB x,elB y]→CallP FB md 0 (.fn 61 []) [.sl c l.length (shC l),.fn 62 [.ref 0 3 0,.ref 1 3 0]] [elB x,elB y] K:=fun h=>bads_call ha.1 hb.1 hl h
 cases hbad:l.any (badQ x.l.length y.l.length) <;> rw [hbad] at hbc
 rotate_left
 ·rw [if_pos rfl]
  refine fun_of rfl rfl ?_
  repeat' (first
 | (conv=>whnf)
   first
   | refine Br.t ?_
   | refine Br.f ?_
   | refine call_fun rfl rfl ho (.inl rfl) ?_
   | refine hbc ?_
   | refine Get.mk _ rfl ?_
   | refine Leaves.of ?_
   | refine Vw.int ?_
   | refine Vw.tup ?_
   | refine VwL.cons ?_ ?_
   | refine VwL.nil
   | (refine Req.mk ?_ ?_;(focus first | rfl | decide | exact ⟨rfl,rfl⟩ | exact ⟨rfl,by decide⟩ | exact (fun _=>rfl) | exact (fun h=>nomatch h) | (simp;done) | omega | (simp [big];done) | exact le_big (by omega) | exact lt_big (by omega))))
  all_goals first | rfl | (exfalso;omega)
 rw [if_neg (by simp)]
 refine fun_of rfl rfl ?_
 repeat' (first
 | (conv=>whnf)
   first
   | refine Br.f ?_
   | refine call_fun rfl rfl ho (.inl rfl) ?_
   | refine hbc ?_
   | refine Get.mk _ rfl ?_
   | (refine Req.mk ?_ ?_;(focus first | rfl | decide | exact ⟨rfl,rfl⟩ | exact ⟨rfl,by decide⟩ | exact (fun _=>rfl) | exact (fun h=>nomatch h) | (simp;done) | omega | (simp [big];done) | exact le_big (by omega) | exact lt_big (by omega))))
 refine LoopP.by (JOk x y s l) (fun a=>[(8,.int .i64 a.w),(9,.int .i64 0),(33,.int .i64 (a.i:Nat))]) (fun a=>[elB x,elB y,.blk [.int .i64 a.bi,.int .i64 a.bj] false]) (fun a=>l.length - a.i) ⟨0, -1, -1,0⟩ ⟨Nat.zero_le _,rfl,by decide,by decide⟩ rfl ?_
 rintro ⟨i,bi,bj,w⟩ ⟨q1,q2,q3,q4⟩
 dsimp only at q1 q2 q3 q4 ⊢
 by_cases hi:i<l.length
 rotate_left
 ·have hres:jgF x y s l (-1) (-1) 0=(w,0):=by rw [q2,show i=l.length by omega,List.drop_length];rfl
  rw [hres]
  repeat' (first
 | (conv=>whnf)
   first
   | (refine Br.decF ?_ ?_;(focus first | assumption | omega))
   | refine Get.mk _ rfl ?_
   | refine Leaves.of ?_
   | refine Vw.int ?_
   | refine Vw.tup ?_
   | refine VwL.cons ?_ ?_
   | refine VwL.nil)
  all_goals first | rfl | (exfalso;omega)
 obtain ⟨⟨p1,p2⟩,hp⟩:∃ p,l[i]?=some p:=⟨_,List.getElem?_eq_getElem hi⟩
 obtain ⟨g1,g2,g3,g4⟩:=good_at hbad hp
 dsimp only at g1 g2 g3 g4
 obtain ⟨i0,rfl⟩:∃ i0:Nat,p1=i0:=⟨p1.toNat,by omega⟩
 obtain ⟨j0,rfl⟩:∃ j0:Nat,p2=j0:=⟨p2.toNat,by omega⟩
 obtain ⟨u,hu⟩:∃ u,x.l[i0]?=some u:=⟨_,List.getElem?_eq_getElem (by omega)⟩
 obtain ⟨v,hv⟩:∃ v,y.l[j0]?=some v:=⟨_,List.getElem?_eq_getElem (by omega)⟩
 have hpart:=shC_part hp
 have hsh:=share_fun (a:=x.sh) (b:=y.sh) (s:=s) (f:=openT x y s) ha hb hs hu hv
 have hS:sAt x y s ((i0:Int),(j0:Int))=shr s u v:=by
  show shA x.l y.l s ((i0:Int)).toNat ((j0:Int)).toNat=_
  rw [Int.toNat_natCast,Int.toNat_natCast]
  unfold shA
  rw [List.getD_eq_getElem?_getD,hu,List.getD_eq_getElem?_getD,hv];rfl
 have hq:=jg_drop (x:=x) (y:=y) (s:=s) (bi:=bi) (bj:=bj) (w:=w) hp
 rw [hS] at hq
 have hum:=ha.2 u (List.mem_of_getElem? hu)
 have hvm:=hb.2 v (List.mem_of_getElem? hv)
 have rs:=shr_rng (s:=s) (x:=u) (y:=v) ⟨hum.2.2.1,hum.2.2.2⟩ ⟨hvm.2.2.1,hvm.2.2.2⟩
 have hal:=ha.1
 generalize shr s u v=S at *
 by_cases hc:S=0∨(i0:Int)≤bi∨(j0:Int)≤bj
 ·rw [if_pos hc] at hq
  rw [q2,hq]
  repeat' (first
 | (conv=>whnf)
   first
   | refine Br.t ?_
   | (refine Br.decT ?_ ?_;(focus first | assumption | omega))
   | (refine Br.decF ?_ ?_;(focus first | assumption | omega))
   | refine Br.dec (fun _ => ?_) (fun _ => ?_)
   | refine Get.mk _ hpart ?_
   | refine call_fun rfl rfl hsh (.inl rfl) ?_
   | (refine Idx.nat ?_ ?_;(focus omega))
   | refine Get.mk _ rfl ?_
   | refine Leaves.of ?_
   | refine Vw.int ?_
   | refine Vw.tup ?_
   | refine VwL.cons ?_ ?_
   | refine VwL.nil
   | (refine Req.mk ?_ ?_;(focus first | rfl | decide | exact ⟨rfl,rfl⟩ | exact ⟨rfl,by decide⟩ | exact (fun _=>rfl) | exact (fun h=>nomatch h) | (simp;done) | omega | (simp [big];done) | exact le_big (by omega) | exact lt_big (by omega))))
  all_goals first | rfl | (exfalso;omega)
 ·rw [if_neg hc] at hq
  clear hS
  repeat' (first
 | (conv=>whnf)
   first
   | (refine Br.decT ?_ ?_;(focus first | assumption | omega))
   | (refine Br.decF ?_ ?_;(focus first | assumption | omega))
   | (refine Bnd.i64 ?_ ?_ ?_;(focus omega);(focus omega))
   | refine Get.mk _ hpart ?_
   | refine call_fun rfl rfl hsh (.inl rfl) ?_
   | (refine Idx.nat ?_ ?_;(focus omega))
   | refine Get.mk _ rfl ?_
   | (refine Req.mk ?_ ?_;(focus first | rfl | decide | exact ⟨rfl,rfl⟩ | exact ⟨rfl,by decide⟩ | exact (fun _=>rfl) | exact (fun h=>nomatch h) | (simp;done) | omega | (simp [big];done) | exact le_big (by omega) | exact lt_big (by omega))))
  all_goals try (exfalso;omega)
  refine NextP.mk ⟨i+1,i0,j0,w+S⟩ ⟨hi,by rw [q2,hq],by (try dsimp only);omega,by (try dsimp only);omega⟩ (by (try dsimp only);omega) rfl
end Go.Dr.T
namespace Go.Dr.T
theorem pI_part2 {P:List (Nat × Nat)} {k:Nat} {p:Nat × Nat} (h:P[k]?=some p):part (shC (P.map pI)) (k * 2) 2=some [.int .i64 (p.1:Nat),.int .i64 (p.2:Nat)]:=by
 have:(P.map pI)[k]?=some (pI p):=by rw [List.getElem?_map,h];rfl
 exact shC_part this
theorem pI_cc {P:List (Nat × Nat)} {k:Nat} {p:Nat × Nat} (h:P[k]?=some p):cellAt (shC (P.map pI)) (k * 2+0)=some (.int .i64 (p.1:Nat))∧cellAt (shC (P.map pI)) (k * 2+1)=some (.int .i64 (p.2:Nat)):=by
 have key:∀ {l:List (Int × Int)} {k:Nat} {p:Int × Int},l[k]?=some p→(shC l)[k * 2+0]?=some (.int .i64 p.1)∧(shC l)[k * 2+1]?=some (.int .i64 p.2):=by
  intro l
  induction l with
  | nil=>intro k p h;simp at h
  | cons q l ih =>
   intro k p h
   cases k with
   | zero =>
    simp only [List.getElem?_cons_zero,Option.some.injEq] at h
    subst h
    exact ⟨rfl,rfl⟩
   | succ k =>
    have:=ih (k:=k) (p:=p) (by simpa using h)
    rw [show (k+1) * 2+0=(k * 2+0)+1+1 by omega,show (k+1) * 2+1=(k * 2+1)+1+1 by omega]
    exact this
 rw [cellAt_eq,cellAt_eq]
 exact key (p:=pI p) (by rw [List.getElem?_map,h];rfl)
set_option maxRecDepth 100000 in
set_option maxHeartbeats 20000000 in
theorem pairsB_ok {c d:Bool} {a b:List (Int × Int)} (hl:a.length≤1000000):Fun FB md 29 [.sl c a.length (shC a),.sl d b.length (shC b)] (.bool (decide (a=b))):=by
 by_cases hlen:a.length=b.length
 rotate_left
 ·rw [decide_eq_false (fun h=>hlen (by rw [h]))]
  refine fun_of rfl rfl ?_
  repeat' (first
 | (conv=>whnf)
   first
   | (refine Br.decF ?_ ?_;(focus first | assumption | omega))
   | refine Br.not ?_
   | refine Get.mk _ rfl ?_
   | refine Leaves.of ?_
   | refine Vw.bool ?_)
  all_goals first | rfl | (exfalso;omega;done)
 refine fun_of rfl rfl ?_
 repeat' (first
 | (conv=>whnf)
   first
   | (refine Br.decT ?_ ?_;(focus first | assumption | omega))
   | refine Br.not ?_)
 all_goals try (exfalso;omega;done)
 refine LoopP.by (fun i:Nat=>i≤a.length∧∀ k,k<i→a[k]?=b[k]?) (fun i=>[(5,.int .i64 (i:Nat))]) (fun _=>[]) (fun i=>a.length - i) 0 ⟨Nat.zero_le _,fun k h=>absurd h (by omega)⟩ rfl ?_
 rintro i ⟨hi', heq⟩
 dsimp only
 by_cases hi:i<a.length
 rotate_left
 ·have e:a=b:=List.ext_getElem? fun k=>by
   by_cases hk:k<i
   ·exact heq k hk
   ·rw [List.getElem?_eq_none (by omega),List.getElem?_eq_none (by omega)]
  rw [decide_eq_true e]
  repeat' (first
 | (conv=>whnf)
   first
   | (refine Br.decF ?_ ?_;(focus first | assumption | omega))
   | refine Get.mk _ rfl ?_
   | refine Leaves.of ?_
   | refine Vw.bool ?_)
  all_goals first | rfl | (exfalso;omega)
 obtain ⟨p,hp⟩:∃ p,a[i]?=some p:=⟨_,List.getElem?_eq_getElem hi⟩
 obtain ⟨q,hq⟩:∃ q,b[i]?=some q:=⟨_,List.getElem?_eq_getElem (by omega)⟩
 have hpp:=shC_part hp
 have hqq:=shC_part hq
 by_cases hpq:p=q
 ·subst hpq
  have hnx:∀ k,k<i+1→a[k]?=b[k]?:=fun k hk=>by
   by_cases e:k=i
   ·subst e;rw [hp,hq]
   ·exact heq k (by omega)
  repeat' (first
 | (conv=>whnf)
   first
   | refine Br.t ?_
   | (refine Br.decT ?_ ?_;(focus first | assumption | omega))
   | refine Br.not ?_
   | refine Br.and ?_
   | (refine Bnd.i64 ?_ ?_ ?_;(focus omega);(focus omega))
   | refine Get.mk _ hpp ?_
   | refine Get.mk _ hqq ?_
   | (refine Idx.nat ?_ ?_;(focus omega))
   | refine Get.mk _ rfl ?_
   | (refine Req.mk ?_ ?_;(focus first | rfl | decide | exact ⟨rfl,rfl⟩ | exact ⟨rfl,by decide⟩ | exact (fun _=>rfl) | exact (fun h=>nomatch h) | (simp;done) | omega | (simp [big];done) | exact le_big (by omega) | exact lt_big (by omega))))
  all_goals first | (exfalso;omega;done) | exact NextP.mk (i+1) ⟨hi,hnx⟩ (by omega) rfl
 ·have hne:¬ (p.1=q.1∧p.2=q.2):=fun h=>hpq (Prod.ext h.1 h.2)
  have hab:¬ a=b:=fun h=>hpq (by rw [h,hq] at hp;exact (Option.some.inj hp).symm)
  rw [decide_eq_false hab]
  repeat' (first
 | (conv=>whnf)
   first
   | (refine Br.decT ?_ ?_;(focus first | assumption | omega))
   | (refine Br.decF ?_ ?_;(focus first | assumption | omega))
   | refine Br.dec (fun _ => ?_) (fun _ => ?_)
   | refine Br.not ?_
   | refine Br.and ?_
   | refine Get.mk _ hpp ?_
   | refine Get.mk _ hqq ?_
   | (refine Idx.nat ?_ ?_;(focus omega))
   | refine Get.mk _ rfl ?_
   | refine Leaves.of ?_
   | refine Vw.bool ?_
   | (refine Req.mk ?_ ?_;(focus first | rfl | decide | exact ⟨rfl,rfl⟩ | exact ⟨rfl,by decide⟩ | exact (fun _=>rfl) | exact (fun h=>nomatch h) | (simp;done) | omega | (simp [big];done) | exact le_big (by omega) | exact lt_big (by omega))))
  all_goals first | rfl | (exfalso;omega;done)
set_option maxRecDepth 100000 in
set_option maxHeartbeats 20000000 in
theorem before_ok2 {c d:Bool} {a b:List (Nat × Nat)} (ha:a.length≤1000000) (hb:b.length≤1000000) (h:bfP a b):Fun FB md 28 [.sl c a.length (shC (a.map pI)),.sl d b.length (shC (b.map pI))] (.bool true):=by
 refine fun_of rfl rfl ?_
 skip
 all_goals try (exfalso;omega;done)
 refine LoopP.by (fun i:Nat=>i≤a.length∧i≤b.length∧bfP (a.drop i) (b.drop i)) (fun i=>[(5,.int .i64 (i:Nat))]) (fun _=>[]) (fun i=>a.length - i) 0 ⟨Nat.zero_le _,Nat.zero_le _,h⟩ rfl ?_
 rintro i ⟨h1,h2,h3⟩
 dsimp only
 by_cases hia:i<a.length
 rotate_left
 ·have hlt:a.length<b.length:=by
   rw [List.drop_of_length_le (show a.length≤i by omega)] at h3
   by_cases hib:i<b.length
   ·omega
   ·rw [List.drop_of_length_le (show b.length≤i by omega)] at h3
    exact h3.elim
  repeat' (first
 | (conv=>whnf)
   first
   | refine Br.f ?_
   | (refine Br.decF ?_ ?_;(focus first | assumption | omega))
   | refine Get.mk _ rfl ?_
   | refine Leaves.of ?_
   | refine Vw.bool ?_)
  all_goals first | rfl | (exfalso;omega;done) | exact decide_eq_true (by omega)
 by_cases hib:i<b.length
 rotate_left
 ·rw [List.drop_of_length_le (show b.length≤i by omega),List.drop_eq_getElem_cons hia] at h3
  exact h3.elim
 rw [List.drop_eq_getElem_cons hia,List.drop_eq_getElem_cons hib] at h3
 unfold bfP at h3
 obtain ⟨p,hp⟩:∃ p,a[i]?=some p:=⟨_,List.getElem?_eq_getElem hia⟩
 obtain ⟨q,hq⟩:∃ q,b[i]?=some q:=⟨_,List.getElem?_eq_getElem hib⟩
 have ep:a[i]=p:=(List.getElem?_eq_some_iff.1 hp).2
 have eq:b[i]=q:=(List.getElem?_eq_some_iff.1 hq).2
 rw [ep,eq] at h3
 have hpp:=pI_part2 hp
 have hqq:=pI_part2 hq
 obtain ⟨p0,p1⟩:=pI_cc hp
 obtain ⟨q0,q1⟩:=pI_cc hq
 by_cases hpq:p=q
 ·rw [if_pos hpq] at h3
  subst hpq
  repeat' (first
 | (conv=>whnf)
   first
   | refine Br.t ?_
   | (refine Br.decT ?_ ?_;(focus first | assumption | omega))
   | refine Br.not ?_
   | refine Br.and ?_
   | (refine Bnd.i64 ?_ ?_ ?_;(focus omega);(focus omega))
   | refine Get.mk _ hpp ?_
   | refine Get.mk _ hqq ?_
   | (refine Idx.nat ?_ ?_;(focus omega))
   | refine Get.mk _ rfl ?_
   | (refine Req.mk ?_ ?_;(focus first | rfl | decide | exact ⟨rfl,rfl⟩ | exact ⟨rfl,by decide⟩ | exact (fun _=>rfl) | exact (fun h=>nomatch h) | (simp;done) | omega | (simp [big];done) | exact le_big (by omega) | exact lt_big (by omega))))
  all_goals first | (exfalso;omega;done) | exact NextP.mk (i+1) ⟨hia,hib,h3⟩ (by omega) rfl
 ·rw [if_neg hpq] at h3
  have hne:¬ (p.1=q.1∧p.2=q.2):=fun h=>hpq (Prod.ext h.1 h.2)
  unfold ltP at h3
  repeat' (first
 | (conv=>whnf)
   first
   | (refine Br.decT ?_ ?_;(focus first | assumption | omega))
   | (refine Br.decF ?_ ?_;(focus first | assumption | omega))
   | refine Br.dec (fun _ => ?_) (fun _ => ?_)
   | refine Br.not ?_
   | refine Br.and ?_
   | refine Get.mk _ hpp ?_
   | refine Get.mk _ hqq ?_
   | refine Get.mk _ p0 ?_
   | refine Get.mk _ p1 ?_
   | refine Get.mk _ q0 ?_
   | refine Get.mk _ q1 ?_
   | (refine Idx.nat ?_ ?_;(focus omega))
   | refine Get.mk _ rfl ?_
   | refine Leaves.of ?_
   | refine Vw.bool ?_
   | (refine Req.mk ?_ ?_;(focus first | rfl | decide | exact ⟨rfl,rfl⟩ | exact ⟨rfl,by decide⟩ | exact (fun _=>rfl) | exact (fun h=>nomatch h) | (simp;done) | omega | (simp [big];done) | exact le_big (by omega) | exact lt_big (by omega))))
  all_goals first | rfl | (exfalso;omega;done) | exact decide_eq_true (by omega)
theorem jg_ch {x y:El} {s:Int}:∀ {l:List (Nat × Nat)} {i j:Nat} {w:Int},Ch (shA x.l y.l s) x.l.length y.l.length i j l→jgF x y s (l.map pI) ((i:Int) - 1) ((j:Int) - 1) w=(w+wo (shA x.l y.l s) l,0)
 | [],i,j,w,_=>by simp [jgF,wo]
 | p :: l,i,j,w,⟨h1,h2,h3,h4,h5,c⟩=>by
  have e:sAt x y s (pI p)=shA x.l y.l s p.1 p.2:=rfl
  rw [List.map_cons,jgF,e,if_neg (by show ¬ (shA x.l y.l s p.1 p.2=0∨(p.1:Int)≤(i:Int) - 1∨(p.2:Int)≤(j:Int) - 1);omega)]
  have:=jg_ch (w:=w+shA x.l y.l s p.1 p.2) c
  rw [show (((p.1+1:Nat):Int)) - 1=(pI p).1 from by show ((p.1+1:Nat):Int) - 1=(p.1:Int);omega,show (((p.2+1:Nat):Int)) - 1=(pI p).2 from by show ((p.2+1:Nat):Int) - 1=(p.2:Int);omega] at this
  rw [this]
  simp only [wo]
  rw [Int.add_assoc]
theorem ch_good {x y:El} {s:Int}:∀ {l:List (Nat × Nat)} {i j:Nat},Ch (shA x.l y.l s) x.l.length y.l.length i j l→(l.map pI).any (badQ x.l.length y.l.length)=false
 | [],_,_,_=>rfl
 | p :: l,i,j,⟨h1,h2,h3,h4,h5,c⟩=>by
  rw [List.map_cons,List.any_cons,ch_good c,Bool.or_false]
  unfold badQ outB pI
  simp
  omega
theorem jg_back {x y:El} {s:Int} (hx:shOk x.l) (hy:shOk y.l):∀ {l:List (Int × Int)} {i j:Nat} {w:Int},l.any (badQ x.l.length y.l.length)=false→(jgF x y s l ((i:Int) - 1) ((j:Int) - 1) w).2=0→∃ l' : List (Nat × Nat),l=l'.map pI∧Ch (shA x.l y.l s) x.l.length y.l.length i j l' ∧ (jgF x y s l ((i:Int) - 1) ((j:Int) - 1) w).1=w+wo (shA x.l y.l s) l'
 | [],i,j,w,_,_=>⟨[],rfl,trivial,by simp [jgF,wo]⟩
 | p :: l,i,j,w,hb,he=>by
  rw [List.any_cons,Bool.or_eq_false_iff] at hb
  have h1:badQ x.l.length y.l.length p=false:=hb.1
  have hp:0≤p.1∧p.1<x.l.length∧0≤p.2∧p.2<y.l.length:=by
   unfold badQ outB at h1
   simp at h1
   omega
  have rng:=shA_rng (s:=s) hx hy (i:=p.1.toNat) (j:=p.2.toNat) (by omega) (by omega)
  by_cases hc:sAt x y s p=0∨p.1≤(i:Int) - 1∨p.2≤(j:Int) - 1
  ·rw [jgF,if_pos hc] at he;exact absurd he (by decide)
  ·rw [jgF,if_neg hc] at he ⊢
   have e1:p.1=((p.1.toNat+1:Nat):Int) - 1:=by omega
   have e2:p.2=((p.2.toNat+1:Nat):Int) - 1:=by omega
   have e3:jgF x y s l p.1 p.2 (w+sAt x y s p)=jgF x y s l (((p.1.toNat+1:Nat):Int) - 1) (((p.2.toNat+1:Nat):Int) - 1) (w+sAt x y s p):=by rw [← e1, ← e2]
   rw [e3] at he ⊢
   obtain ⟨l', r1,r2,r3⟩:=jg_back hx hy hb.2 he
   have hs:sAt x y s p=shA x.l y.l s p.1.toNat p.2.toNat:=rfl
   refine ⟨(p.1.toNat,p.2.toNat) :: l', ?_,⟨?_,?_,?_,?_,?_,r2⟩,?_⟩
   ·rw [List.map_cons, ← r1]
    congr 1
    unfold pI
    exact Prod.ext (by show p.1=((p.1.toNat:Nat):Int);omega) (by show p.2=((p.2.toNat:Nat):Int);omega)
   ·show i≤p.1.toNat;omega
   ·show p.1.toNat<_;omega
   ·show j≤p.2.toNat;omega
   ·show p.2.toNat<_;omega
   ·show 0<shA x.l y.l s p.1.toNat p.2.toNat;omega
   ·rw [r3];simp only [wo];rw [← hs];omega
end Go.Dr.T
