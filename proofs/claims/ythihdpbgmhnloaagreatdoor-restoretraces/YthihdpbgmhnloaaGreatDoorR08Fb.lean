/- Chapter 08: boxes and steps: their cells; which boxes are strange. -/
import Derived.Test.YthihdpbgmhnloaaGreatDoorR08Fa
namespace Go.Dr.T
structure Bx where
 l:Int
 t:Int
 r:Int
 b:Int
def bxV (x:Bx):List V:=[.int .i64 x.l,.int .i64 x.t,.int .i64 x.r,.int .i64 x.b]
def bxC:List Bx→List V
 | []=>[]
 | x :: l=>.int .i64 x.l :: .int .i64 x.t :: .int .i64 x.r :: .int .i64 x.b :: bxC l
theorem bxC_drop:∀ {l:List Bx} {i:Nat} {x:Bx},l[i]?=some x→(bxC l).drop (i * 4) = .int .i64 x.l :: .int .i64 x.t :: .int .i64 x.r :: .int .i64 x.b :: bxC (l.drop (i+1))
 | g :: l,0,f,h=>by simp only [List.getElem?_cons_zero,Option.some.injEq] at h;subst h;rfl
 | g :: l,i+1,f,h=>by
  rw [show (i+1) * 4=i * 4+1+1+1+1 by omega]
  simp only [bxC,List.drop_succ_cons]
  exact bxC_drop (l:=l) (by simpa using h)
theorem part4 {l:List V} {n:Nat} {a b c d:V} {r:List V} (h:l.drop n=a :: b :: c :: d :: r):part l n 4=some [a,b,c,d]:=by
 unfold part
 simp only [take'_eq,drop'_eq,h]
 rfl
theorem bxC_part {l:List Bx} {i:Nat} {x:Bx} (h:l[i]?=some x):part (bxC l) (i * 4) 4=some (bxV x):=part4 (bxC_drop h)
def bxBad (w h:Int) (x:Bx):Bool:=outB x.r 0 (w - 1) || outB x.l 0 x.r || outB x.b 0 (h - 1) || outB x.t 0 x.b
set_option maxRecDepth 100000 in
set_option maxHeartbeats 20000000 in
theorem strange_ok {w h:Int} {x:Bx} (hw:1≤w∧w≤48) (hh:1≤h∧h≤48):Fun FB md 119 [.agg (bxV x),.rp [.int .i64 w] 0,.rp [.int .i64 h] 0] (.bool (bxBad w h x)):=by
 have k1:=out_ok (n:=x.r) (lo:=0) (hi:=w - 1)
 have k2:=out_ok (n:=x.l) (lo:=0) (hi:=x.r)
 have k3:=out_ok (n:=x.b) (lo:=0) (hi:=h - 1)
 have k4:=out_ok (n:=x.t) (lo:=0) (hi:=x.b)
 unfold bxBad bxV
 generalize outB x.r 0 (w - 1)=y1 at *
 generalize outB x.l 0 x.r=y2 at *
 generalize outB x.b 0 (h - 1)=y3 at *
 generalize outB x.t 0 x.b=y4 at *
 have a1:IntKind.i64.wrap (w - 1)=w - 1:=wrap_i64 (by omega) (by omega)
 have a2:IntKind.i64.wrap (h - 1)=h - 1:=wrap_i64 (by omega) (by omega)
 refine fun_of rfl rfl ?_
 cases y1 <;> cases y2 <;> cases y3 <;> cases y4
 all_goals
  repeat' (first
 | (conv=>whnf)
   first
   | refine Bnd.eq a1 ?_
   | refine Bnd.eq a2 ?_
   | refine Br.t ?_
   | refine Br.f ?_
   | refine call_fun rfl rfl k1 (.inl rfl) ?_
   | refine call_fun rfl rfl k2 (.inl rfl) ?_
   | refine call_fun rfl rfl k3 (.inl rfl) ?_
   | refine call_fun rfl rfl k4 (.inl rfl) ?_
   | refine Get.mk _ rfl ?_
   | refine Leaves.of ?_
   | refine Vw.bool ?_
   | (refine Req.mk ?_ ?_;(focus first | rfl | decide | exact ⟨rfl,rfl⟩ | exact ⟨rfl,by decide⟩ | exact (fun _=>rfl) | exact (fun h=>nomatch h) | (simp;done) | omega | (simp [big];done) | exact le_big (by omega) | exact lt_big (by omega))))
  all_goals first | rfl | (exfalso;omega;done)
def bxI (w h:Int):List Bx→Nat→Int
 | [],_ => -1
 | x :: l,i=>if bxBad w h x=true then (i:Int) else bxI w h l (i+1)
theorem bxI_drop {w h:Int}:∀ {l:List Bx} {i n:Nat},(∀ j x,j<i→l[j]?=some x→bxBad w h x=false)→bxI w h l n=bxI w h (l.drop i) (n+i)
 | l,0,n,_=>rfl
 | [],i+1,n,_=>rfl
 | f :: l,i+1,n,hh=>by
  rw [bxI,if_neg (by rw [hh 0 f (Nat.succ_pos _) rfl];decide),List.drop_succ_cons,bxI_drop (l:=l) (i:=i) (n:=n+1) fun j g hj hg=>hh (j+1) g (by omega) (by simpa using hg)]
  congr 1
  omega
theorem bxI_any {w h:Int}:∀ {l:List Bx} {n:Nat},decide (bxI w h l n ≥ 0)=l.any (bxBad w h)
 | [],n=>rfl
 | x :: l,n=>by
  rw [bxI,List.any_cons]
  cases e:bxBad w h x
  ·rw [if_neg (by decide),bxI_any (l:=l),Bool.false_or]
  ·rw [if_pos rfl,Bool.true_or]
   exact decide_eq_true (by omega)
set_option maxRecDepth 100000 in
set_option maxHeartbeats 20000000 in
theorem bxI_ok {w h:Int} {c:Bool} {l:List Bx} (hw:1≤w∧w≤48) (hh:1≤h∧h≤48) (hl:l.length≤1000000):Fun FB md 126 [.sl c l.length (bxC l),.fn 119 [.rp [.int .i64 w] 0,.rp [.int .i64 h] 0]] (.int .i64 (bxI w h l 0)):=by
 refine fun_of rfl rfl ?_
 skip
 all_goals try (exfalso;omega;done)
 refine LoopP.by (fun i:Nat=>i≤l.length∧∀ j x,j<i→l[j]?=some x→bxBad w h x=false) (fun i=>[(8,.int .i64 (i:Nat))]) (fun i=>[]) (fun i=>l.length - i) 0 ⟨Nat.zero_le _,fun j v h=>absurd h (Nat.not_lt_zero _)⟩ rfl ?_
 rintro i ⟨w1,w2⟩
 dsimp only
 by_cases hi:i<l.length
 ·obtain ⟨x,hx⟩:∃ x,l[i]?=some x:=⟨_,List.getElem?_eq_getElem hi⟩
  have hp:=bxC_part hx
  have k1:=strange_ok (x:=x) hw hh
  have hiw:IntKind.i64.wrap ((i:Int)+1)=((i+1:Nat):Int):=by rw [wrap_i64 (by omega) (by omega)];omega
  have hil:i≤l.length - 1:=by omega
  have h0l:0<l.length:=by omega
  have hnx:bxBad w h x=false→∀ j u,j<i+1→l[j]?=some u→bxBad w h u=false:=fun q j u hj hu=>by
   by_cases e:j=i
   ·subst e;rw [hx] at hu;cases hu;exact q
   ·exact w2 j u (by omega) hu
  cases e1:bxBad w h x <;> rw [e1] at k1
  ·have hnx:=hnx e1
   repeat' (first
 | (conv=>whnf)
   first
   | refine Bnd.eq hiw ?_
   | refine Br.f ?_
   | (refine Br.decT ?_ ?_;(focus first | assumption | omega))
   | refine Get.mk _ hp ?_
   | refine call_fun rfl rfl k1 (.inl rfl) ?_
   | refine Idx.nat hil ?_
   | refine Req.mk h0l ?_)
   all_goals first | (exfalso;omega;done) | exact NextP.mk (i+1) ⟨hi,hnx⟩ (by omega) rfl
  ·have hE:bxI w h l 0=(i:Int):=by
    obtain ⟨hi', hg⟩:=List.getElem?_eq_some_iff.1 hx
    rw [bxI_drop w2,List.drop_eq_getElem_cons hi', hg,bxI,if_pos e1,Nat.zero_add]
   rw [hE]
   repeat' (first
 | (conv=>whnf)
   first
   | refine Br.t ?_
   | (refine Br.decT ?_ ?_;(focus first | assumption | omega))
   | refine Get.mk _ hp ?_
   | refine call_fun rfl rfl k1 (.inl rfl) ?_
   | refine Idx.nat hil ?_
   | refine Req.mk h0l ?_
   | refine Get.mk _ rfl ?_
   | refine Leaves.of ?_
   | refine Vw.int ?_)
   all_goals first | rfl | (exfalso;omega;done)
 obtain rfl:i=l.length:=by omega
 have hE:bxI w h l 0 = -1:=by rw [bxI_drop w2,List.drop_length];rfl
 rw [hE]
 repeat' (first
 | (conv=>whnf)
   first
   | (refine Br.decF ?_ ?_;(focus first | assumption | omega))
   | refine Get.mk _ rfl ?_
   | refine Leaves.of ?_
   | refine Vw.int ?_)
 all_goals first | rfl | (exfalso;omega;done)
set_option maxRecDepth 100000 in
set_option maxHeartbeats 20000000 in
theorem bxA_ok {w h:Int} {c:Bool} {l:List Bx} (hw:1≤w∧w≤48) (hh:1≤h∧h≤48) (hl:l.length≤1000000):Fun FB md 94 [.sl c l.length (bxC l),.fn 119 [.rp [.int .i64 w] 0,.rp [.int .i64 h] 0]] (.bool (l.any (bxBad w h))):=by
 have k1:=bxI_ok (c:=c) (l:=l) hw hh hl
 have k2:=bxI_any (w:=w) (h:=h) (l:=l) (n:=0)
 generalize bxI w h l 0=z at *
 rw [← k2]
 refine fun_of rfl rfl ?_
 repeat' (first
 | (conv=>whnf)
   first
   | refine call_fun rfl rfl k1 (.inl rfl) ?_
   | refine Get.mk _ rfl ?_
   | refine Leaves.of ?_
   | refine Vw.bool ?_)
 all_goals first | rfl | (exfalso;omega;done)
structure Sp where
 k:Int
 fr:Int
 un:Int
 kc:Bool
 kp:List Bx
 a:Int
 b:Int
 c:Int
 tc:Bool
 tb:List UInt8
def spV (s:Sp):List V:=[.int .i64 s.k,.int .i64 s.fr,.int .i64 s.un,.sl s.kc s.kp.length (bxC s.kp),.int .i64 s.a,.int .i64 s.b,.int .i64 s.c,.sl s.tc s.tb.length (ofBytes s.tb)]
def loK (k:Int):Int × Int × Int:=if k=1 then (-47, -47,0) else if k=4 then (1,0,0) else if k=6 then (-255,0,0) else (0,0,0)
def hiK (k:Int):Int × Int × Int:=if k=1 then (47,47,255) else if k=3 then (47,47,0) else if k=4 then (255,255,0) else if k=5 then (1000,40,0) else if k=6 then (255,0,0) else (0,0,0)
def oddS (w:Int) (s:Sp):Bool :=
 outB s.a (loK s.k).1 (hiK s.k).1 || outB s.b (loK s.k).2.1 (hiK s.k).2.1 || outB s.c (loK s.k).2.2 (hiK s.k).2.2 || decide (s.k=3) && (decide (s.a > s.b) || decide (s.b ≥ w) || decide (s.b - s.a+1=w))
def spE (n:Nat) (w h:Int) (s:Sp):Int :=
 if outB s.k 1 6=true then 2 else if outB s.un 0 ((n:Int) - 1)=true∨outB s.fr 0 s.un=true then 7 else if 6<s.kp.length then 3 else if s.kp.any (bxBad w h)=true∨oddS w s=true then 7 else if (s.tb.length:Int)≠(if s.k=2 then 256 else 0) then 2 else 0
end Go.Dr.T
