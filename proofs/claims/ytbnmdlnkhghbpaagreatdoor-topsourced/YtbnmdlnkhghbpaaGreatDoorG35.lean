/- Top, of chapter 08: the reference's step: boxes and numbers. -/
import Derived.Test.YtbnmdlnkhghbpaaGreatDoorG34
set_option maxRecDepth 100000
set_option maxHeartbeats 20000000
namespace Go.Dr.T
theorem Qny {w h:Int} {x:Bx}:Q1q w h x=(outB x.l 0 (w-1)||outB x.r x.l (w-1)||outB x.t 0 (h-1)||outB x.b x.t (h-1)):=by
 unfold Q1q
 rw [Bool.eq_iff_iff]
 simp only [outB,Bool.or_eq_true,jG]
 omega
theorem box_ok {w h:Int} {x:Bx} (hw:1≤w∧w≤48) (hh:1≤h∧h≤48) {c:Bool} {n:Nat} {px:List V}:Fun FB md 66 [.agg [.int .i64 w,.int .i64 h,.sl c n px],.agg (bxV x)] (.bool (!Q1q w h x)):=by
 have k1:=Q2y (n:=x.l) (lo:=0) (hi:=w-1)
 have k2:=Q2y (n:=x.r) (lo:=x.l) (hi:=w-1)
 have k3:=Q2y (n:=x.t) (lo:=0) (hi:=h-1)
 have k4:=Q2y (n:=x.b) (lo:=x.t) (hi:=h-1)
 rw [Qny]
 unfold bxV
 generalize outB x.l 0 (w-1)=y1 at *
 generalize outB x.r x.l (w-1)=y2 at *
 generalize outB x.t 0 (h-1)=y3 at *
 generalize outB x.b x.t (h-1)=y4 at *
 have a1:IntKind.i64.wrap (w-1)=w-1:=wrap_i64 (by omega) (by omega)
 have a2:IntKind.i64.wrap (h-1)=h-1:=wrap_i64 (by omega) (by omega)
 refine Q04 rfl rfl ?_
 cases y1<;>cases y2<;>cases y3<;>cases y4
 all_goals
  repeat' ((conv=>whnf);first|refine Bnd.eq a1 ?_|refine Bnd.eq a2 ?_|refine Br.t ?_|refine Br.f ?_|refine zC k1 ?_|refine zC k2 ?_|refine zC k3 ?_|refine zC k4 ?_|refine Get.mk _ rfl ?_|refine Leaves.of ?_|refine Vw.bool ?_|refine zR ?_)
  all_goals first|rfl|(exfalso;omega)
theorem odd_c {w:Int} {s:Sp} (hk:s.k=2∨s.k=3∨s.k=4∨s.k=5∨s.k=6) (hc:s.c≠0):oddS w s=true:=by
 obtain ⟨k,fr,un,kc,kp,a,b,cc,tc,tb⟩:=s
 dsimp only at *
 have e:outB cc 0 0=true:=by simp only [outB,Bool.or_eq_true,jG];omega
 rcases hk with rfl|rfl|rfl|rfl|rfl
 all_goals simp [oddS,loK,hiK,e]
theorem Qin {w h:Int} {c:Bool} {n:Nat} {px:List V} {s:Sp} (hw:1≤w∧w≤48) (hk:1≤s.k∧s.k≤6):Fun FB md 67 [.agg [.int .i64 w,.int .i64 h,.sl c n px],.agg (spV s)] (.bool (!oddS w s)):=by
 by_cases hc:s.c=0
 rotate_left
 ·by_cases h1:s.k=1
  rotate_left
  ·rw [odd_c (by omega) hc]
   refine Q04 rfl rfl ?_
   repeat' ((conv=>whnf);first|refine zF ?_|refine Br.not ?_|refine Get.mk _ rfl ?_|refine Leaves.of ?_|refine Vw.bool ?_|refine zR ?_)
   all_goals first|rfl|(exfalso;omega)
  obtain ⟨k,fr,un,kc,kp,a,b,cc,tc,tb⟩:=s
  dsimp only at *
  subst h1
  have ho:oddS w ⟨(1:Int),fr,un,kc,kp,a,b,cc,tc,tb⟩=(outB a (-47) 47||outB b (-47) 47||outB cc 0 255):=by
   rw [Bool.eq_iff_iff]
   simp [oddS,loK,hiK,outB]
  have k1:=Q2y (n:=a) (lo := -47) (hi:=47)
  have k2:=Q2y (n:=b) (lo := -47) (hi:=47)
  have k3:=Q2y (n:=cc) (lo:=0) (hi:=255)
  rw [ho]
  generalize outB a (-47) 47=y1 at *
  generalize outB b (-47) 47=y2 at *
  generalize outB cc 0 255=y3 at *
  refine Q04 rfl rfl ?_
  cases y1<;>cases y2<;>cases y3
  all_goals
   repeat' ((conv=>whnf);first|refine Br.t ?_|refine Br.f ?_|refine zC k1 ?_|refine zC k2 ?_|refine zC k3 ?_|refine Get.mk _ rfl ?_|refine Leaves.of ?_|refine Vw.bool ?_|refine zR ?_)
   all_goals first|rfl|(exfalso;omega)
 obtain ⟨k,fr,un,kc,kp,a,b,cc,tc,tb⟩:=s
 dsimp only at *
 subst hc
 have hks:k=1∨k=2∨k=3∨k=4∨k=5∨k=6:=by omega
 clear hk
 rcases hks with rfl|rfl|rfl|rfl|rfl|rfl
 ·have ho:oddS w ⟨(1:Int),fr,un,kc,kp,a,b,0,tc,tb⟩=(outB a (-47) 47||outB b (-47) 47||outB 0 0 255):=by
   rw [Bool.eq_iff_iff]
   simp [oddS,loK,hiK,outB]
  have k1:=Q2y (n:=a) (lo := -47) (hi:=47)
  have k2:=Q2y (n:=b) (lo := -47) (hi:=47)
  have k3:=Q2y (n:=0) (lo:=0) (hi:=255)
  rw [ho]
  generalize outB a (-47) 47=y1 at *
  generalize outB b (-47) 47=y2 at *
  generalize outB 0 0 255=y3 at *
  refine Q04 rfl rfl ?_
  cases y1<;>cases y2<;>cases y3
  all_goals
   repeat' ((conv=>whnf);first|refine Br.t ?_|refine Br.f ?_|refine zC k1 ?_|refine zC k2 ?_|refine zC k3 ?_|refine Get.mk _ rfl ?_|refine Leaves.of ?_|refine Vw.bool ?_|refine zR ?_)
   all_goals first|rfl|(exfalso;omega)
 ·by_cases ha:a=0
  ·subst ha
   have ho:oddS w ⟨(2:Int),fr,un,kc,kp,0,b,0,tc,tb⟩ = !decide (b=0):=by
    rw [Bool.eq_iff_iff]
    simp [oddS,loK,hiK,outB]
    omega
   rw [ho,Bool.not_not]
   refine Q04 rfl rfl ?_
   repeat' ((conv=>whnf);first|refine Br.t ?_|refine Br.f ?_|refine Get.mk _ rfl ?_|refine Leaves.of ?_|refine Vw.bool ?_|refine zR ?_)
   all_goals first|rfl|(exfalso;omega)
  ·have ho:oddS w ⟨(2:Int),fr,un,kc,kp,a,b,0,tc,tb⟩=true:=by
    simp [oddS,loK,hiK,outB]
    omega
   rw [ho]
   refine Q04 rfl rfl ?_
   repeat' ((conv=>whnf);first|refine Br.t ?_|refine Br.f ?_|refine zF ?_|refine Get.mk _ rfl ?_|refine Leaves.of ?_|refine Vw.bool ?_|refine zR ?_)
   all_goals first|rfl|(exfalso;omega)
 ·have ho:oddS w ⟨(3:Int),fr,un,kc,kp,a,b,0,tc,tb⟩=(outB a 0 (w-1)||outB b a (w-1) || !decide (b-a+1<w)):=by
   rw [Bool.eq_iff_iff]
   simp [oddS,loK,hiK,outB]
   omega
  have k1:=Q2y (n:=a) (lo:=0) (hi:=w-1)
  have k2:=Q2y (n:=b) (lo:=a) (hi:=w-1)
  have k3:=k2
  have hww:IntKind.i64.wrap (w-1)=w-1:=wrap_i64 (by omega) (by omega)
  rw [ho]
  cases e1:outB a 0 (w-1)<;>rw [e1] at k1
  rotate_left
  ·refine Q04 rfl rfl ?_
   repeat' ((conv=>whnf);first|refine Bnd.eq hww ?_|refine Br.t ?_|refine Br.f ?_|refine zC k1 ?_|refine Get.mk _ rfl ?_|refine Leaves.of ?_|refine Vw.bool ?_|refine zR ?_)
   all_goals first|rfl|(exfalso;omega)
  cases e2:outB b a (w-1)<;>rw [e2] at k2 k3
  rotate_left
  ·refine Q04 rfl rfl ?_
   repeat' ((conv=>whnf);first|refine Bnd.eq hww ?_|refine Br.t ?_|refine Br.f ?_|refine zC k1 ?_|refine zC k2 ?_|refine Get.mk _ rfl ?_|refine Leaves.of ?_|refine Vw.bool ?_|refine zR ?_)
   all_goals first|rfl|(exfalso;omega)
  simp only [outB,jL,jI] at e1 e2
  have ha1:IntKind.i64.wrap (b-a)=b-a:=wrap_i64 (by omega) (by omega)
  have ha2:IntKind.i64.wrap (b-a+1)=b-a+1:=wrap_i64 (by omega) (by omega)
  rw [Bool.false_or,Bool.false_or,Bool.not_not]
  refine Q04 rfl rfl ?_
  repeat' ((conv=>whnf);first|refine Bnd.eq hww ?_|refine Bnd.eq ha1 ?_|refine Bnd.eq ha2 ?_|refine Br.t ?_|refine Br.f ?_|refine zC k1 ?_|refine zC k2 ?_|refine Get.mk _ rfl ?_|refine Leaves.of ?_|refine Vw.bool ?_|refine zR ?_)
  all_goals first|rfl|(exfalso;omega)
 ·have ho:oddS w ⟨(4:Int),fr,un,kc,kp,a,b,0,tc,tb⟩=(outB a 1 255||outB b 0 255):=by
   rw [Bool.eq_iff_iff]
   simp [oddS,loK,hiK,outB]
  have k1:=Q2y (n:=a) (lo:=1) (hi:=255)
  have k2:=Q2y (n:=b) (lo:=0) (hi:=255)
  have k3:=k2
  rw [ho]
  generalize outB a 1 255=y1 at *
  generalize outB b 0 255=y2 at *
  refine Q04 rfl rfl ?_
  cases y1<;>cases y2
  all_goals
   repeat' ((conv=>whnf);first|refine Br.t ?_|refine Br.f ?_|refine zC k1 ?_|refine zC k2 ?_|refine Get.mk _ rfl ?_|refine Leaves.of ?_|refine Vw.bool ?_|refine zR ?_)
   all_goals first|rfl|(exfalso;omega)
 ·have ho:oddS w ⟨(5:Int),fr,un,kc,kp,a,b,0,tc,tb⟩=(outB a 0 1000||outB b 0 40):=by
   rw [Bool.eq_iff_iff]
   simp [oddS,loK,hiK,outB]
  have k1:=Q2y (n:=a) (lo:=0) (hi:=1000)
  have k2:=Q2y (n:=b) (lo:=0) (hi:=40)
  have k3:=k2
  rw [ho]
  generalize outB a 0 1000=y1 at *
  generalize outB b 0 40=y2 at *
  refine Q04 rfl rfl ?_
  cases y1<;>cases y2
  all_goals
   repeat' ((conv=>whnf);first|refine Br.t ?_|refine Br.f ?_|refine zC k1 ?_|refine zC k2 ?_|refine Get.mk _ rfl ?_|refine Leaves.of ?_|refine Vw.bool ?_|refine zR ?_)
   all_goals first|rfl|(exfalso;omega)
 ·have ho:oddS w ⟨(6:Int),fr,un,kc,kp,a,b,0,tc,tb⟩=(outB a (-255) 255 || !decide (b=0)):=by
   rw [Bool.eq_iff_iff]
   simp [oddS,loK,hiK,outB]
   omega
  have k1:=Q2y (n:=a) (lo := -255) (hi:=255)
  have k2:=k1
  have k3:=k1
  rw [ho]
  generalize outB a (-255) 255=y1 at *
  refine Q04 rfl rfl ?_
  cases y1
  ·rw [Bool.false_or,Bool.not_not]
   repeat' ((conv=>whnf);first|refine Br.t ?_|refine Br.f ?_|refine zC k1 ?_|refine Get.mk _ rfl ?_|refine Leaves.of ?_|refine Vw.bool ?_|refine zR ?_)
   all_goals first|rfl|(exfalso;omega)
  ·repeat' ((conv=>whnf);first|refine Br.t ?_|refine Br.f ?_|refine zC k1 ?_|refine Get.mk _ rfl ?_|refine Leaves.of ?_|refine Vw.bool ?_|refine zR ?_)
   all_goals first|rfl|(exfalso;omega)
end Go.Dr.T
namespace Go.Dr.T
theorem Qt1 {n:Nat} {w h:Int} {s:Sp} (hk:outB s.k 1 6=false):spE n w h s=if outB s.fr 0 ((n:Int)-1)=true∨outB s.un s.fr ((n:Int)-1)=true then 7 else if 6<s.kp.length then 3 else if s.kp.any (Q1q w h)=true then 7 else if oddS w s=true then 7 else if (s.tb.length:Int)≠(if s.k=2 then 256 else 0) then 2 else 0:=by
 unfold spE
 rw [if_neg (by rw [hk];decide)]
 have e:(outB s.un 0 ((n:Int)-1)=true∨outB s.fr 0 s.un=true)↔(outB s.fr 0 ((n:Int)-1)=true∨outB s.un s.fr ((n:Int)-1)=true):=by
  simp only [outB,Bool.or_eq_true,jG]
  omega
 simp only [e]
 by_cases h1:s.kp.any (Q1q w h)=true
 ·simp only [h1,true_or,if_true]
 ·have h2:s.kp.any (Q1q w h)=false:=by cases q:s.kp.any (Q1q w h)<;>simp_all
  rw [h2]
  simp only [Bool.false_eq_true,false_or,if_false]
theorem Qor {c:Bool} {l:List Fm} {f:Fm} {s:Sp} (hf:l[0]?=some f) (hl:l.length≤12) (hw:1≤f.w∧f.w≤48) (hh:1≤f.h∧f.h≤48):Fun FB md 31 [.sl c l.length (fmC l),.agg (spV s)] (.int .i64 (spE l.length f.w f.h s)):=by
 have hl0:0<l.length:=by
  cases l with
  | nil=>cases hf
  | cons x l=>exact Nat.succ_pos _
 have k1:=Q2y (n:=s.k) (lo:=1) (hi:=6)
 cases e1:outB s.k 1 6<;>rw [e1] at k1
 rotate_left
 ·have hE:spE l.length f.w f.h s=2:=by unfold spE;rw [if_pos e1]
  rw [hE]
  refine Q04 rfl rfl ?_
  repeat' ((conv=>whnf);first|refine Br.t ?_|refine zC k1 ?_|refine Get.mk _ rfl ?_|refine Leaves.of ?_|refine Vw.int ?_|refine zR ?_)
  all_goals first|rfl|(exfalso;omega)
 rw [Qt1 e1]
 have hks:1≤s.k∧s.k≤6:=by simp only [outB,jL,jI] at e1;omega
 have hnum:=Qin (h:=f.h) (c:=f.c) (n:=f.p.length) (px:=ofBytes f.p) hw hks
 have hp:=Qbc hf
 obtain ⟨k,fr,un,kc,kp,a,b,cc,tc,tb⟩:=s
 dsimp only at *
 have k2:=Q2y (n:=fr) (lo:=0) (hi:=(l.length:Int)-1)
 have k3:=Q2y (n:=un) (lo:=fr) (hi:=(l.length:Int)-1)
 have hlw:IntKind.i64.wrap ((l.length:Int)-1)=(l.length:Int)-1:=wrap_i64 (by omega) (by omega)
 show Fun FB md 31 [.sl c l.length (fmC l),.agg [.int .i64 k,.int .i64 fr,.int .i64 un,.sl kc kp.length (bxC kp),.int .i64 a,.int .i64 b,.int .i64 cc,.sl tc tb.length (ofBytes tb)]] _
 generalize outB fr 0 ((l.length:Int)-1)=y1 at *
 generalize outB un fr ((l.length:Int)-1)=y2 at *
 cases y1
 rotate_left
 ·rw [if_pos (.inl rfl)]
  refine Q04 rfl rfl ?_
  repeat' ((conv=>whnf);first|refine Bnd.eq hlw ?_|refine Br.t ?_|refine Br.f ?_|refine zC k1 ?_|refine zC k2 ?_|refine Get.mk _ rfl ?_|refine Leaves.of ?_|refine Vw.int ?_|refine zR ?_)
  all_goals first|rfl|(exfalso;omega)
 cases y2
 rotate_left
 ·rw [if_pos (.inr rfl)]
  refine Q04 rfl rfl ?_
  repeat' ((conv=>whnf);first|refine Bnd.eq hlw ?_|refine Br.t ?_|refine Br.f ?_|refine zC k1 ?_|refine zC k2 ?_|refine zC k3 ?_|refine Get.mk _ rfl ?_|refine Leaves.of ?_|refine Vw.int ?_|refine zR ?_)
  all_goals first|rfl|(exfalso;omega)
 rw [if_neg (by decide)]
 by_cases h6:6<kp.length
 ·rw [if_pos h6]
  refine Q04 rfl rfl ?_
  repeat' ((conv=>whnf);first|refine Bnd.eq hlw ?_|refine Br.f ?_|refine zT ?_|refine zC k1 ?_|refine zC k2 ?_|refine zC k3 ?_|refine Get.mk _ rfl ?_|refine Leaves.of ?_|refine Vw.int ?_|refine zR ?_)
  all_goals first|rfl|(exfalso;omega)
 rw [if_neg h6]
 refine Q04 rfl rfl ?_
 repeat' ((conv=>whnf);first|refine Bnd.eq hlw ?_|refine Br.f ?_|refine zF ?_|refine zC k1 ?_|refine zC k2 ?_|refine zC k3 ?_|refine Get.mk _ rfl ?_|refine zR ?_)
 all_goals try (exfalso;omega)
 refine LoopP.by (fun i:Nat=>i≤kp.length∧∀ j x,j<i→kp[j]?=some x→Q1q f.w f.h x=false) (fun i=>[(5,.int .i64 (i:Nat))]) (fun i=>[.blk [.int .i64 k,.int .i64 fr,.int .i64 un,.sl kc kp.length (bxC kp),.int .i64 a,.int .i64 b,.int .i64 cc,.sl tc tb.length (ofBytes tb)] false]) (fun i=>kp.length-i) 0 ⟨Nat.zero_le _,fun j v h=>absurd h (Nat.not_lt_zero _)⟩ rfl ?_
 rintro i ⟨w1,w2⟩
 dsimp only
 by_cases hi:i<kp.length
 ·obtain ⟨x,hx⟩:∃ x,kp[i]?=some x:=⟨_,jC hi⟩
  have hbp:=Qbs hx
  have hiw:IntKind.i64.wrap ((i:Int)+1)=((i+1:Nat):Int):=by rw [wrap_i64 (by omega) (by omega)];omega
  have hil:i≤kp.length-1:=by omega
  have h0l:0<kp.length:=by omega
  have kb:=box_ok (x:=x) (c:=f.c) (n:=f.p.length) (px:=ofBytes f.p) hw hh
  have hnx:Q1q f.w f.h x=false→∀ j u,j<i+1→kp[j]?=some u→Q1q f.w f.h u=false:=fun q j u hj hu=>by
   by_cases e:j=i
   ·subst e;rw [hx] at hu;cases hu;exact q
   ·exact w2 j u (by omega) hu
  cases e2:Q1q f.w f.h x<;>rw [e2] at kb
  ·have hnx:=hnx e2
   repeat' ((conv=>whnf);first|refine Bnd.eq hiw ?_|refine Br.f ?_|refine zT ?_|refine Get.mk _ hp ?_|refine Req.mk hl0 ?_|refine Get.mk _ hbp ?_|refine zC kb ?_|refine Idx.nat hil ?_|refine Req.mk h0l ?_|refine zI ?_|refine Get.mk _ rfl ?_|refine zR ?_)
   all_goals first|(exfalso;omega)|exact NextP.mk (i+1) ⟨hi,hnx⟩ (by omega) rfl
  ·rw [if_pos (List.any_eq_true.2 ⟨x,jE hx,e2⟩)]
   repeat' ((conv=>whnf);first|refine Br.t ?_|refine zT ?_|refine Get.mk _ hp ?_|refine Req.mk hl0 ?_|refine Get.mk _ hbp ?_|refine zC kb ?_|refine Idx.nat hil ?_|refine Req.mk h0l ?_|refine zI ?_|refine Get.mk _ rfl ?_|refine Leaves.of ?_|refine Vw.int ?_|refine zR ?_)
   all_goals first|rfl|(exfalso;omega)
 obtain rfl:i=kp.length:=by omega
 have hany:kp.any (Q1q f.w f.h)=false:=by
  rw [Bool.eq_false_iff]
  intro q
  obtain ⟨x,hx,hb⟩:=List.any_eq_true.1 q
  obtain ⟨j,hj⟩:=List.getElem?_of_mem hx
  rw [w2 j x (jB.1 hj).1 hj] at hb
  cases hb
 rw [hany,if_neg (by decide)]
 have hnum':Fun FB md 67 [.agg [.int .i64 f.w,.int .i64 f.h,.sl f.c f.p.length (ofBytes f.p)],.agg [.int .i64 k,.int .i64 fr,.int .i64 un,.sl kc kp.length (bxC kp),.int .i64 a,.int .i64 b,.int .i64 cc,.sl tc tb.length (ofBytes tb)]] (.bool (!oddS f.w ⟨k,fr,un,kc,kp,a,b,cc,tc,tb⟩)):=hnum
 clear hnum
 cases e4:oddS f.w ⟨k,fr,un,kc,kp,a,b,cc,tc,tb⟩<;>rw [e4] at hnum'
 rotate_left
 ·rw [if_pos rfl]
  repeat' ((conv=>whnf);first|refine Br.t ?_|refine zF ?_|refine Get.mk _ hp ?_|refine Req.mk hl0 ?_|refine zC hnum' ?_|refine zI ?_|refine Get.mk _ rfl ?_|refine Leaves.of ?_|refine Vw.int ?_|refine zR ?_)
  all_goals first|rfl|(exfalso;omega)
 rw [if_neg (by decide)]
 by_cases hk2:k=2
 ·rw [if_pos hk2]
  by_cases ht:(tb.length:Int)=256
  ·rw [if_neg (fun q=>q ht)]
   repeat' ((conv=>whnf);first|refine Br.f ?_|refine zT ?_|refine zF ?_|refine Br.not ?_|refine Get.mk _ hp ?_|refine Req.mk hl0 ?_|refine zC hnum' ?_|refine zI ?_|refine Get.mk _ rfl ?_|refine Leaves.of ?_|refine Vw.int ?_|refine zR ?_)
   all_goals first|rfl|(exfalso;omega)
  ·rw [if_pos ht]
   repeat' ((conv=>whnf);first|refine Br.t ?_|refine Br.f ?_|refine zT ?_|refine zF ?_|refine Br.not ?_|refine Get.mk _ hp ?_|refine Req.mk hl0 ?_|refine zC hnum' ?_|refine zI ?_|refine Get.mk _ rfl ?_|refine Leaves.of ?_|refine Vw.int ?_|refine zR ?_)
   all_goals first|rfl|(exfalso;omega)
 ·rw [if_neg hk2]
  by_cases ht:(tb.length:Int)=0
  ·rw [if_neg (fun q=>q ht)]
   repeat' ((conv=>whnf);first|refine Br.f ?_|refine zF ?_|refine Br.not ?_|refine Get.mk _ hp ?_|refine Req.mk hl0 ?_|refine zC hnum' ?_|refine zI ?_|refine Get.mk _ rfl ?_|refine Leaves.of ?_|refine Vw.int ?_|refine zR ?_)
   all_goals first|rfl|(exfalso;omega)
  ·rw [if_pos ht]
   repeat' ((conv=>whnf);first|refine Br.f ?_|refine zT ?_|refine zF ?_|refine Br.not ?_|refine Get.mk _ hp ?_|refine Req.mk hl0 ?_|refine zC hnum' ?_|refine zI ?_|refine Get.mk _ rfl ?_|refine Leaves.of ?_|refine Vw.int ?_|refine zR ?_)
   all_goals first|rfl|(exfalso;omega)
end Go.Dr.T
