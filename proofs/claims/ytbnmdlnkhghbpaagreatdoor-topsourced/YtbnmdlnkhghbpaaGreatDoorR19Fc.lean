/- Top, of chapter 08: check of a step, and its reference. -/
import Derived.Test.YtbnmdlnkhghbpaaGreatDoorG2
namespace Go.Dr.T
def kdZ:List V:=[.nilfn,.int .i64 0,.int .i64 0,.int .i64 0,.int .i64 0,.int .i64 0,.int .i64 0]
def kdR (k:Nat):List V:=[.fn (120+k) [],.int .i64 (loK k).1,.int .i64 (loK k).2.1,.int .i64 (loK k).2.2,.int .i64 (hiK k).1,.int .i64 (hiK k).2.1,.int .i64 (hiK k).2.2]
def kdL:List V:=kdZ++(kdR 1++(kdR 2++(kdR 3++(kdR 4++(kdR 5++kdR 6)))))
theorem knownN:Qfs FB md (fun _=>none):=fun g fn h=>by cases h
theorem Qro:Fun FB md 92 [] (.agg kdL):=Qa1 knownN (n:=30) (by decide +kernel)
theorem Qm9:∀ {K:Nat},1≤K→K≤6→part kdL (K*7) 7=some (kdR K)
 | 1,_,_=>rfl
 | 2,_,_=>rfl
 | 3,_,_=>rfl
 | 4,_,_=>rfl
 | 5,_,_=>rfl
 | 6,_,_=>rfl
 | 0,h,_=>absurd h (by decide)
 | n+7,_,h=>absurd h (by omega)
def odP (o0 o1 o2:Bool):Nat→Bool
 | 0=>false
 | 1=>o0
 | 2=>o0||o1
 | _=>o0||o1||o2
set_option maxRecDepth 100000 in
set_option maxHeartbeats 20000000 in
theorem Qqd {c:Bool} {l:List Fm} {f:Fm} {s:Sp} (hf:l[0]?=some f) (hl:l.length≤12) (hw:1≤f.w∧f.w≤48) (hh:1≤f.h∧f.h≤48):Fun FB md 60 [.sl c l.length (fmC l),.agg (spV s)] (.int .i64 (spE l.length f.w f.h s)):=by
 obtain ⟨b0,b1,b2⟩:=fm_c hf
 have hl0:0<l.length:=by
  cases l with
  | nil=>cases hf
  | cons x l=>exact Nat.succ_pos _
 have k1:=Q0z (n:=s.k) (lo:=1) (hi:=6)
 cases e1:outB s.k 1 6<;>rw [e1] at k1
 rotate_left
 ·have hE:spE l.length f.w f.h s=2:=by unfold spE;rw [if_pos e1]
  rw [hE]
  refine Q04 rfl rfl ?_
  repeat' ((conv=>whnf);first|refine Br.t ?_|refine Get.mk _ b0 ?_|refine Get.mk _ b1 ?_|refine zC k1 ?_|refine Req.mk hl0 ?_|refine zI ?_|refine Get.mk _ rfl ?_|refine Leaves.of ?_|refine Vw.int ?_|refine zR ?_)
  all_goals first|rfl|(exfalso;omega)
 obtain ⟨K,hK⟩:∃ K:Nat,s.k=(K:Int)∧1≤K∧K≤6:=by
  simp only [outB,jL,jI] at e1
  exact ⟨s.k.toNat,by omega,by omega,by omega⟩
 have hE:spE l.length f.w f.h s=if outB s.un 0 ((l.length:Int)-1)=true∨outB s.fr 0 s.un=true then 7 else if 6<s.kp.length then 3 else if s.kp.any (Q1q f.w f.h)=true∨oddS f.w s=true then 7 else if (s.tb.length:Int)≠(if s.k=2 then 256 else 0) then 2 else 0:=by unfold spE;rw [if_neg (by rw [e1];decide)]
 rw [hE]
 have k2:=Qro
 have hkp:=Qm9 hK.2.1 hK.2.2
 have hK6:K≤6:=hK.2.2
 clear hE
 obtain ⟨k,fr,un,kc,kp,a,b,cc,tc,tb⟩:=s
 obtain ⟨hKe,hK1,_⟩:=hK
 dsimp only at *
 subst hKe
 show Fun FB md 60 [.sl c l.length (fmC l),.agg [.int .i64 (K:Nat),.int .i64 fr,.int .i64 un,.sl kc kp.length (bxC kp),.int .i64 a,.int .i64 b,.int .i64 cc,.sl tc tb.length (ofBytes tb)]] _
 have hlw:IntKind.i64.wrap ((l.length:Int)-1)=(l.length:Int)-1:=wrap_i64 (by omega) (by omega)
 have u1:=Q0z (n:=un) (lo:=0) (hi:=(l.length:Int)-1)
 have u2:=Q0z (n:=fr) (lo:=0) (hi:=un)
 have q0:=Q0z (n:=a) (lo:=(loK K).1) (hi:=(hiK K).1)
 have q1:=Q0z (n:=b) (lo:=(loK K).2.1) (hi:=(hiK K).2.1)
 have q2:=Q0z (n:=cc) (lo:=(loK K).2.2) (hi:=(hiK K).2.2)
 have h3:K=3→outB a (loK K).1 (hiK K).1=false→outB b (loK K).2.1 (hiK K).2.1=false→(0≤a∧a≤47)∧(0≤b∧b≤47):=fun e p1 p2=>by
  subst e
  simp only [outB,jL,jI] at p1 p2
  have e1:(loK (3:Nat)).1=0:=by decide
  have e2:(hiK (3:Nat)).1=47:=by decide
  have e3:(loK (3:Nat)).2.1=0:=by decide
  have e4:(hiK (3:Nat)).2.1=47:=by decide
  omega
 unfold oddS
 dsimp only
 generalize outB un 0 ((l.length:Int)-1)=y1 at *
 generalize outB fr 0 un=y2 at *
 generalize outB a (loK K).1 (hiK K).1=o0 at *
 generalize outB b (loK K).2.1 (hiK K).2.1=o1 at *
 generalize outB cc (loK K).2.2 (hiK K).2.2=o2 at *
 refine Q04 rfl rfl ?_
 repeat' ((conv=>whnf);first|refine Br.f ?_|refine Get.mk _ b0 ?_|refine Get.mk _ b1 ?_|refine zC k1 ?_|refine zC k2 ?_|refine Req.mk hl0 ?_|refine Idx.nat hK6 ?_|refine Get.mk _ hkp ?_|refine zI ?_|refine Get.mk _ rfl ?_|refine zR ?_)
 all_goals try (exfalso;omega)
 refine LoopP.by (fun i:Nat=>i≤3) (fun i=>[(8,.bool (odP o0 o1 o2 i)),(35,.int .i64 (i:Nat))]) (fun _=>[.blk [.int .i64 (K:Nat),.int .i64 fr,.int .i64 un,.sl kc kp.length (bxC kp),.int .i64 a,.int .i64 b,.int .i64 cc,.sl tc tb.length (ofBytes tb)] false,.blk [.int .i64 f.w] false,.blk [.int .i64 f.h] false,.blk (kdR K) false]) (fun i=>3-i) 0 (Nat.zero_le _) rfl ?_
 rintro i hi
 dsimp only
 have hi4:i=0∨i=1∨i=2∨i=3:=by omega
 rcases hi4 with rfl|rfl|rfl|rfl
 ·repeat' ((conv=>whnf);first|refine Br.t ?_|refine Br.f ?_|refine zB ?_|refine zC q0 ?_|refine zN ?_|refine Get.mk _ rfl ?_|refine zR ?_)
  all_goals first|(exfalso;omega)|exact NextP.mk 1 (by decide) (by decide) rfl
 ·cases o0
  all_goals
   repeat' ((conv=>whnf);first|refine Br.t ?_|refine Br.f ?_|refine zB ?_|refine zC q1 ?_|(refine Idx.int ?_ ?_ ?_;(focus decide);(focus decide))|refine Get.mk _ rfl ?_|refine zR ?_)
   all_goals first|(exfalso;omega)|exact NextP.mk 2 (by decide) (by decide) rfl
 ·cases o0<;>cases o1
  all_goals
   repeat' ((conv=>whnf);first|refine Br.t ?_|refine Br.f ?_|refine zB ?_|refine zC q2 ?_|(refine Idx.int ?_ ?_ ?_;(focus decide);(focus decide))|refine Get.mk _ rfl ?_|refine zR ?_)
   all_goals first|(exfalso;omega)|exact NextP.mk 3 (by decide) (by decide) rfl
 clear q0 q1 q2 k1 k2 hkp
 generalize hO:odP o0 o1 o2 3=o at *
 have hO2:(o0||o1||o2)=o:=hO
 rw [hO2]
 have h3':K=3→o=false→(0≤a∧a≤47)∧(0≤b∧b≤47):=fun e p=>by
  rw [p] at hO2
  simp only [jL] at hO2
  exact h3 e hO2.1.1 hO2.1.2
 clear h3 hO hO2
 cases o
 rotate_left
 ·rw [Bool.true_or]
  cases y1
  rotate_left
  ·rw [if_pos (.inl rfl)]
   repeat' ((conv=>whnf);first|refine Bnd.eq hlw ?_|refine Br.t ?_|refine Br.f ?_|refine zF ?_|refine Br.dec (fun _=>?_) (fun _=>?_)|refine zC u1 ?_|refine Get.mk _ rfl ?_|refine Leaves.of ?_|refine Vw.int ?_|refine zR ?_)
   all_goals first|rfl|(exfalso;omega)
  cases y2
  rotate_left
  ·rw [if_pos (.inr rfl)]
   repeat' ((conv=>whnf);first|refine Bnd.eq hlw ?_|refine Br.t ?_|refine Br.f ?_|refine zF ?_|refine Br.dec (fun _=>?_) (fun _=>?_)|refine zC u1 ?_|refine zC u2 ?_|refine Get.mk _ rfl ?_|refine Leaves.of ?_|refine Vw.int ?_|refine zR ?_)
   all_goals first|rfl|(exfalso;omega)
  rw [if_neg (by decide)]
  by_cases h6:6<kp.length
  ·rw [if_pos h6]
   repeat' ((conv=>whnf);first|refine Bnd.eq hlw ?_|refine Br.t ?_|refine Br.f ?_|refine zT ?_|refine zF ?_|refine Br.dec (fun _=>?_) (fun _=>?_)|refine zC u1 ?_|refine zC u2 ?_|refine Get.mk _ rfl ?_|refine Leaves.of ?_|refine Vw.int ?_|refine zR ?_)
   all_goals first|rfl|(exfalso;omega)
  rw [if_neg h6]
  have k9:=Q95 (c:=kc) (l:=kp) hw hh (by omega)
  cases e3:kp.any (Q1q f.w f.h)<;>rw [e3] at k9
  rotate_left
  ·rw [if_pos (.inl rfl)]
   repeat' ((conv=>whnf);first|refine Bnd.eq hlw ?_|refine Br.t ?_|refine Br.f ?_|refine zF ?_|refine Br.dec (fun _=>?_) (fun _=>?_)|refine zC u1 ?_|refine zC u2 ?_|refine Q06 rfl rfl k9 (.inr rfl) ?_|refine Get.mk _ rfl ?_|refine Leaves.of ?_|refine Vw.int ?_|refine zR ?_)
   all_goals first|rfl|(exfalso;omega)
  rw [if_pos (.inr rfl)]
  repeat' ((conv=>whnf);first|refine Bnd.eq hlw ?_|refine Br.t ?_|refine Br.f ?_|refine zF ?_|refine Br.dec (fun _=>?_) (fun _=>?_)|refine zC u1 ?_|refine zC u2 ?_|refine Q06 rfl rfl k9 (.inr rfl) ?_|refine Get.mk _ rfl ?_|refine Leaves.of ?_|refine Vw.int ?_|refine zR ?_)
  all_goals first|rfl|(exfalso;omega)
 rw [Bool.false_or]
 by_cases hk3:K=3
 rotate_left
 ·have hOO:(decide ((K:Int)=3)&&(decide (a>b)||decide (b≥f.w)||decide (b-a+1=f.w)))=false:=by
   rw [decide_eq_false (by omega),Bool.false_and]
  rw [hOO]
  by_cases hk2:K=2
  ·rw [if_pos (show (K:Int)=2 by omega)]
   cases y1
   rotate_left
   ·rw [if_pos (.inl rfl)]
    repeat' ((conv=>whnf);first|refine Bnd.eq hlw ?_|refine Br.t ?_|refine Br.f ?_|refine zT ?_|refine zF ?_|refine zC u1 ?_|refine Get.mk _ rfl ?_|refine Leaves.of ?_|refine Vw.int ?_|refine zR ?_)
    all_goals first|rfl|(exfalso;omega)
   cases y2
   rotate_left
   ·rw [if_pos (.inr rfl)]
    repeat' ((conv=>whnf);first|refine Bnd.eq hlw ?_|refine Br.t ?_|refine Br.f ?_|refine zT ?_|refine zF ?_|refine zC u1 ?_|refine zC u2 ?_|refine Get.mk _ rfl ?_|refine Leaves.of ?_|refine Vw.int ?_|refine zR ?_)
    all_goals first|rfl|(exfalso;omega)
   rw [if_neg (by decide)]
   by_cases h6:6<kp.length
   ·rw [if_pos h6]
    repeat' ((conv=>whnf);first|refine Bnd.eq hlw ?_|refine Br.f ?_|refine zT ?_|refine zF ?_|refine zC u1 ?_|refine zC u2 ?_|refine Get.mk _ rfl ?_|refine Leaves.of ?_|refine Vw.int ?_|refine zR ?_)
    all_goals first|rfl|(exfalso;omega)
   rw [if_neg h6]
   have k9:=Q95 (c:=kc) (l:=kp) hw hh (by omega)
   cases e3:kp.any (Q1q f.w f.h)<;>rw [e3] at k9
   rotate_left
   ·rw [if_pos (.inl rfl)]
    repeat' ((conv=>whnf);first|refine Bnd.eq hlw ?_|refine Br.t ?_|refine Br.f ?_|refine zT ?_|refine zF ?_|refine zC u1 ?_|refine zC u2 ?_|refine Q06 rfl rfl k9 (.inr rfl) ?_|refine Get.mk _ rfl ?_|refine Leaves.of ?_|refine Vw.int ?_|refine zR ?_)
    all_goals first|rfl|(exfalso;omega)
   rw [if_neg (by decide)]
   by_cases ht:(tb.length:Int)=256
   ·rw [if_neg (fun q=>q ht)]
    repeat' ((conv=>whnf);first|refine Bnd.eq hlw ?_|refine Br.f ?_|refine zT ?_|refine zF ?_|refine Br.not ?_|refine zC u1 ?_|refine zC u2 ?_|refine Q06 rfl rfl k9 (.inr rfl) ?_|refine Get.mk _ rfl ?_|refine Leaves.of ?_|refine Vw.int ?_|refine zR ?_)
    all_goals first|rfl|(exfalso;omega)
   rw [if_pos ht]
   repeat' ((conv=>whnf);first|refine Bnd.eq hlw ?_|refine Br.f ?_|refine zT ?_|refine zF ?_|refine Br.not ?_|refine zC u1 ?_|refine zC u2 ?_|refine Q06 rfl rfl k9 (.inr rfl) ?_|refine Get.mk _ rfl ?_|refine Leaves.of ?_|refine Vw.int ?_|refine zR ?_)
   all_goals first|rfl|(exfalso;omega)
  ·rw [if_neg (show ¬ (K:Int)=2 by omega)]
   cases y1
   rotate_left
   ·rw [if_pos (.inl rfl)]
    repeat' ((conv=>whnf);first|refine Bnd.eq hlw ?_|refine Br.t ?_|refine Br.f ?_|refine zF ?_|refine zC u1 ?_|refine Get.mk _ rfl ?_|refine Leaves.of ?_|refine Vw.int ?_|refine zR ?_)
    all_goals first|rfl|(exfalso;omega)
   cases y2
   rotate_left
   ·rw [if_pos (.inr rfl)]
    repeat' ((conv=>whnf);first|refine Bnd.eq hlw ?_|refine Br.t ?_|refine Br.f ?_|refine zF ?_|refine zC u1 ?_|refine zC u2 ?_|refine Get.mk _ rfl ?_|refine Leaves.of ?_|refine Vw.int ?_|refine zR ?_)
    all_goals first|rfl|(exfalso;omega)
   rw [if_neg (by decide)]
   by_cases h6:6<kp.length
   ·rw [if_pos h6]
    repeat' ((conv=>whnf);first|refine Bnd.eq hlw ?_|refine Br.f ?_|refine zT ?_|refine zF ?_|refine zC u1 ?_|refine zC u2 ?_|refine Get.mk _ rfl ?_|refine Leaves.of ?_|refine Vw.int ?_|refine zR ?_)
    all_goals first|rfl|(exfalso;omega)
   rw [if_neg h6]
   have k9:=Q95 (c:=kc) (l:=kp) hw hh (by omega)
   cases e3:kp.any (Q1q f.w f.h)<;>rw [e3] at k9
   rotate_left
   ·rw [if_pos (.inl rfl)]
    repeat' ((conv=>whnf);first|refine Bnd.eq hlw ?_|refine Br.t ?_|refine Br.f ?_|refine zF ?_|refine zC u1 ?_|refine zC u2 ?_|refine Q06 rfl rfl k9 (.inr rfl) ?_|refine Get.mk _ rfl ?_|refine Leaves.of ?_|refine Vw.int ?_|refine zR ?_)
    all_goals first|rfl|(exfalso;omega)
   rw [if_neg (by decide)]
   by_cases ht:(tb.length:Int)=0
   ·rw [if_neg (fun q=>q ht)]
    repeat' ((conv=>whnf);first|refine Bnd.eq hlw ?_|refine Br.f ?_|refine zT ?_|refine zF ?_|refine Br.not ?_|refine zC u1 ?_|refine zC u2 ?_|refine Q06 rfl rfl k9 (.inr rfl) ?_|refine Get.mk _ rfl ?_|refine Leaves.of ?_|refine Vw.int ?_|refine zR ?_)
    all_goals first|rfl|(exfalso;omega)
   rw [if_pos ht]
   repeat' ((conv=>whnf);first|refine Bnd.eq hlw ?_|refine Br.f ?_|refine zF ?_|refine Br.not ?_|refine zC u1 ?_|refine zC u2 ?_|refine Q06 rfl rfl k9 (.inr rfl) ?_|refine Get.mk _ rfl ?_|refine Leaves.of ?_|refine Vw.int ?_|refine zR ?_)
   all_goals first|rfl|(exfalso;omega)
 obtain ⟨p1,p2⟩:=h3' hk3 rfl
 have ha1:IntKind.i64.wrap (b-a)=b-a:=wrap_i64 (by omega) (by omega)
 have ha2:IntKind.i64.wrap (b-a+1)=b-a+1:=wrap_i64 (by omega) (by omega)
 rw [decide_eq_true (show (K:Int)=3 by omega),Bool.true_and,if_neg (show ¬ (K:Int)=2 by omega)]
 by_cases z1:a>b
 ·rw [decide_eq_true z1,Bool.true_or,Bool.true_or]
  cases y1
  rotate_left
  ·rw [if_pos (.inl rfl)]
   repeat' ((conv=>whnf);first|refine Bnd.eq hlw ?_|refine Br.t ?_|refine Br.f ?_|refine zT ?_|refine zF ?_|refine zC u1 ?_|refine Get.mk _ rfl ?_|refine Leaves.of ?_|refine Vw.int ?_|refine zR ?_)
   all_goals first|rfl|(exfalso;omega)
  cases y2
  rotate_left
  ·rw [if_pos (.inr rfl)]
   repeat' ((conv=>whnf);first|refine Bnd.eq hlw ?_|refine Br.t ?_|refine Br.f ?_|refine zT ?_|refine zF ?_|refine zC u1 ?_|refine zC u2 ?_|refine Get.mk _ rfl ?_|refine Leaves.of ?_|refine Vw.int ?_|refine zR ?_)
   all_goals first|rfl|(exfalso;omega)
  rw [if_neg (by decide)]
  by_cases h6:6<kp.length
  ·rw [if_pos h6]
   repeat' ((conv=>whnf);first|refine Bnd.eq hlw ?_|refine Br.t ?_|refine Br.f ?_|refine zT ?_|refine zF ?_|refine zC u1 ?_|refine zC u2 ?_|refine Get.mk _ rfl ?_|refine Leaves.of ?_|refine Vw.int ?_|refine zR ?_)
   all_goals first|rfl|(exfalso;omega)
  rw [if_neg h6]
  have k9:=Q95 (c:=kc) (l:=kp) hw hh (by omega)
  cases e3:kp.any (Q1q f.w f.h)<;>rw [e3] at k9
  rotate_left
  ·rw [if_pos (.inl rfl)]
   repeat' ((conv=>whnf);first|refine Bnd.eq hlw ?_|refine Br.t ?_|refine Br.f ?_|refine zT ?_|refine zF ?_|refine zC u1 ?_|refine zC u2 ?_|refine Q06 rfl rfl k9 (.inr rfl) ?_|refine Get.mk _ rfl ?_|refine Leaves.of ?_|refine Vw.int ?_|refine zR ?_)
   all_goals first|rfl|(exfalso;omega)
  rw [if_pos (.inr rfl)]
  repeat' ((conv=>whnf);first|refine Bnd.eq hlw ?_|refine Br.t ?_|refine Br.f ?_|refine zT ?_|refine zF ?_|refine zC u1 ?_|refine zC u2 ?_|refine Q06 rfl rfl k9 (.inr rfl) ?_|refine Get.mk _ rfl ?_|refine Leaves.of ?_|refine Vw.int ?_|refine zR ?_)
  all_goals first|rfl|(exfalso;omega)
 rw [decide_eq_false z1,Bool.false_or]
 by_cases z2:b≥f.w
 ·rw [decide_eq_true z2,Bool.true_or]
  cases y1
  rotate_left
  ·rw [if_pos (.inl rfl)]
   repeat' ((conv=>whnf);first|refine Bnd.eq hlw ?_|refine Br.t ?_|refine Br.f ?_|refine zT ?_|refine zF ?_|refine zC u1 ?_|refine Get.mk _ rfl ?_|refine Leaves.of ?_|refine Vw.int ?_|refine zR ?_)
   all_goals first|rfl|(exfalso;omega)
  cases y2
  rotate_left
  ·rw [if_pos (.inr rfl)]
   repeat' ((conv=>whnf);first|refine Bnd.eq hlw ?_|refine Br.t ?_|refine Br.f ?_|refine zT ?_|refine zF ?_|refine zC u1 ?_|refine zC u2 ?_|refine Get.mk _ rfl ?_|refine Leaves.of ?_|refine Vw.int ?_|refine zR ?_)
   all_goals first|rfl|(exfalso;omega)
  rw [if_neg (by decide)]
  by_cases h6:6<kp.length
  ·rw [if_pos h6]
   repeat' ((conv=>whnf);first|refine Bnd.eq hlw ?_|refine Br.f ?_|refine zT ?_|refine zF ?_|refine zC u1 ?_|refine zC u2 ?_|refine Get.mk _ rfl ?_|refine Leaves.of ?_|refine Vw.int ?_|refine zR ?_)
   all_goals first|rfl|(exfalso;omega)
  rw [if_neg h6]
  have k9:=Q95 (c:=kc) (l:=kp) hw hh (by omega)
  cases e3:kp.any (Q1q f.w f.h)<;>rw [e3] at k9
  rotate_left
  ·rw [if_pos (.inl rfl)]
   repeat' ((conv=>whnf);first|refine Bnd.eq hlw ?_|refine Br.t ?_|refine Br.f ?_|refine zT ?_|refine zF ?_|refine zC u1 ?_|refine zC u2 ?_|refine Q06 rfl rfl k9 (.inr rfl) ?_|refine Get.mk _ rfl ?_|refine Leaves.of ?_|refine Vw.int ?_|refine zR ?_)
   all_goals first|rfl|(exfalso;omega)
  rw [if_pos (.inr rfl)]
  repeat' ((conv=>whnf);first|refine Bnd.eq hlw ?_|refine Br.t ?_|refine Br.f ?_|refine zT ?_|refine zF ?_|refine zC u1 ?_|refine zC u2 ?_|refine Q06 rfl rfl k9 (.inr rfl) ?_|refine Get.mk _ rfl ?_|refine Leaves.of ?_|refine Vw.int ?_|refine zR ?_)
  all_goals first|rfl|(exfalso;omega)
 rw [decide_eq_false z2,Bool.false_or]
 by_cases z3:b-a+1=f.w
 ·rw [decide_eq_true z3]
  cases y1
  rotate_left
  ·rw [if_pos (.inl rfl)]
   repeat' ((conv=>whnf);first|refine Bnd.eq ha1 ?_|refine Bnd.eq ha2 ?_|refine Bnd.eq hlw ?_|refine Br.t ?_|refine Br.f ?_|refine zT ?_|refine zF ?_|refine zC u1 ?_|refine Get.mk _ rfl ?_|refine Leaves.of ?_|refine Vw.int ?_|refine zR ?_)
   all_goals first|rfl|(exfalso;omega)
  cases y2
  rotate_left
  ·rw [if_pos (.inr rfl)]
   repeat' ((conv=>whnf);first|refine Bnd.eq ha1 ?_|refine Bnd.eq ha2 ?_|refine Bnd.eq hlw ?_|refine Br.t ?_|refine Br.f ?_|refine zT ?_|refine zF ?_|refine zC u1 ?_|refine zC u2 ?_|refine Get.mk _ rfl ?_|refine Leaves.of ?_|refine Vw.int ?_|refine zR ?_)
   all_goals first|rfl|(exfalso;omega)
  rw [if_neg (by decide)]
  by_cases h6:6<kp.length
  ·rw [if_pos h6]
   repeat' ((conv=>whnf);first|refine Bnd.eq ha1 ?_|refine Bnd.eq ha2 ?_|refine Bnd.eq hlw ?_|refine Br.f ?_|refine zT ?_|refine zF ?_|refine zC u1 ?_|refine zC u2 ?_|refine Get.mk _ rfl ?_|refine Leaves.of ?_|refine Vw.int ?_|refine zR ?_)
   all_goals first|rfl|(exfalso;omega)
  rw [if_neg h6]
  have k9:=Q95 (c:=kc) (l:=kp) hw hh (by omega)
  cases e3:kp.any (Q1q f.w f.h)<;>rw [e3] at k9
  rotate_left
  ·rw [if_pos (.inl rfl)]
   repeat' ((conv=>whnf);first|refine Bnd.eq ha1 ?_|refine Bnd.eq ha2 ?_|refine Bnd.eq hlw ?_|refine Br.t ?_|refine Br.f ?_|refine zT ?_|refine zF ?_|refine zC u1 ?_|refine zC u2 ?_|refine Q06 rfl rfl k9 (.inr rfl) ?_|refine Get.mk _ rfl ?_|refine Leaves.of ?_|refine Vw.int ?_|refine zR ?_)
   all_goals first|rfl|(exfalso;omega)
  rw [if_pos (.inr rfl)]
  repeat' ((conv=>whnf);first|refine Bnd.eq ha1 ?_|refine Bnd.eq ha2 ?_|refine Bnd.eq hlw ?_|refine Br.f ?_|refine zT ?_|refine zF ?_|refine zC u1 ?_|refine zC u2 ?_|refine Q06 rfl rfl k9 (.inr rfl) ?_|refine Get.mk _ rfl ?_|refine Leaves.of ?_|refine Vw.int ?_|refine zR ?_)
  all_goals first|rfl|(exfalso;omega)
 rw [decide_eq_false z3]
 cases y1
 rotate_left
 ·rw [if_pos (.inl rfl)]
  repeat' ((conv=>whnf);first|refine Bnd.eq ha1 ?_|refine Bnd.eq ha2 ?_|refine Bnd.eq hlw ?_|refine Br.t ?_|refine Br.f ?_|refine zT ?_|refine zF ?_|refine zC u1 ?_|refine Get.mk _ rfl ?_|refine Leaves.of ?_|refine Vw.int ?_|refine zR ?_)
  all_goals first|rfl|(exfalso;omega)
 cases y2
 rotate_left
 ·rw [if_pos (.inr rfl)]
  repeat' ((conv=>whnf);first|refine Bnd.eq ha1 ?_|refine Bnd.eq ha2 ?_|refine Bnd.eq hlw ?_|refine Br.t ?_|refine Br.f ?_|refine zT ?_|refine zF ?_|refine zC u1 ?_|refine zC u2 ?_|refine Get.mk _ rfl ?_|refine Leaves.of ?_|refine Vw.int ?_|refine zR ?_)
  all_goals first|rfl|(exfalso;omega)
 rw [if_neg (by decide)]
 by_cases h6:6<kp.length
 ·rw [if_pos h6]
  repeat' ((conv=>whnf);first|refine Bnd.eq ha1 ?_|refine Bnd.eq ha2 ?_|refine Bnd.eq hlw ?_|refine Br.f ?_|refine zT ?_|refine zF ?_|refine zC u1 ?_|refine zC u2 ?_|refine Get.mk _ rfl ?_|refine Leaves.of ?_|refine Vw.int ?_|refine zR ?_)
  all_goals first|rfl|(exfalso;omega)
 rw [if_neg h6]
 have k9:=Q95 (c:=kc) (l:=kp) hw hh (by omega)
 cases e3:kp.any (Q1q f.w f.h)<;>rw [e3] at k9
 rotate_left
 ·rw [if_pos (.inl rfl)]
  repeat' ((conv=>whnf);first|refine Bnd.eq ha1 ?_|refine Bnd.eq ha2 ?_|refine Bnd.eq hlw ?_|refine Br.t ?_|refine Br.f ?_|refine zT ?_|refine zF ?_|refine zC u1 ?_|refine zC u2 ?_|refine Q06 rfl rfl k9 (.inr rfl) ?_|refine Get.mk _ rfl ?_|refine Leaves.of ?_|refine Vw.int ?_|refine zR ?_)
  all_goals first|rfl|(exfalso;omega)
 rw [if_neg (by decide)]
 by_cases ht:(tb.length:Int)=0
 ·rw [if_neg (fun q=>q ht)]
  repeat' ((conv=>whnf);first|refine Bnd.eq ha1 ?_|refine Bnd.eq ha2 ?_|refine Bnd.eq hlw ?_|refine Br.f ?_|refine zT ?_|refine zF ?_|refine Br.not ?_|refine zC u1 ?_|refine zC u2 ?_|refine Q06 rfl rfl k9 (.inr rfl) ?_|refine Get.mk _ rfl ?_|refine Leaves.of ?_|refine Vw.int ?_|refine zR ?_)
  all_goals first|rfl|(exfalso;omega)
 rw [if_pos ht]
 repeat' ((conv=>whnf);first|refine Bnd.eq ha1 ?_|refine Bnd.eq ha2 ?_|refine Bnd.eq hlw ?_|refine Br.f ?_|refine zT ?_|refine zF ?_|refine Br.not ?_|refine zC u1 ?_|refine zC u2 ?_|refine Q06 rfl rfl k9 (.inr rfl) ?_|refine Get.mk _ rfl ?_|refine Leaves.of ?_|refine Vw.int ?_|refine zR ?_)
 all_goals first|rfl|(exfalso;omega)
end Go.Dr.T
