/- Top, of chapter 06: lists of numbers, names among elements: slices.Contains, slices.ContainsFunc, slices.Clip. -/
import Derived.Test.YtbnmdlnkhghbpaaGreatDoorG11
import Derived.Test.YtbnmdlnkhghbpaaGreatDoorDrG
import Derived.Test.YtbnmdlnkhghbpaaGreatDoorG1
set_option maxRecDepth 100000
set_option maxHeartbeats 20000000
namespace Go.Dr.T6
open Go.Dr.T
theorem Q15:∀ {l:List Int} {i:Nat},i<l.length→∃ x,l[i]?=some x∧Q0h (Q00 l) (i*1)=some (.int .i64 x)
 | x::l,0,_=>⟨x,rfl,rfl⟩
 | x::l,i+1,h=>by
  obtain ⟨y,h1,h2⟩:=Q15 (l:=l) (i:=i) (by simpa using h)
  exact ⟨y,by simpa using h1,by rw [show (i+1)*1=i*1+1 by omega];simpa [Q00,Q0h] using h2⟩
def ixOf (m:Int):List Int→Int
 | [] => -1
 | x::l=>if m=x then 0 else if ixOf m l<0 then -1 else ixOf m l+1
theorem Q4o (m:Int):∀ l,(m∈l∧0≤ixOf m l∧ixOf m l<l.length)∨(m∉l∧ixOf m l = -1)
 | []=>.inr ⟨by simp,rfl⟩
 | x::l=>by
  unfold ixOf
  by_cases h:m=x
  ·rw [if_pos h];exact .inl ⟨by simp [h],by omega,by simp only [List.length_cons];omega⟩
  ·rw [if_neg h]
   rcases Q4o m l with ⟨h1,h2,h3⟩|⟨h1,h2⟩
   ·rw [if_neg (by omega)];exact .inl ⟨by simp [h1],by omega,by simp only [List.length_cons];omega⟩
   ·rw [if_pos (by omega)];exact .inr ⟨by simp [h,h1],rfl⟩
theorem Qma {m x:Int} {l:List Int} {i:Nat} (h:l[i]?=some x):ixOf m (l.drop i)=if m=x then 0 else if ixOf m (l.drop (i+1))<0 then -1 else ixOf m (l.drop (i+1))+1:=by
 obtain ⟨hi,rfl⟩:=jB.1 h
 rw [List.drop_eq_getElem_cons hi];rfl
theorem Qcw {c:Bool} {l:List Int} {m:Int} (hl:l.length≤140737488355328):Fun FB md 78 [.sl c l.length (Q00 l),.int .i64 m] (.int .i64 (ixOf m l)):=by
 refine Q04 rfl rfl ?_
 skip
 refine LoopP.by (fun i:Nat=>i≤l.length∧ixOf m l=if ixOf m (l.drop i)<0 then -1 else ixOf m (l.drop i)+i) (fun i=>[(8,.int .i64 (i:Nat))]) (fun _=>[]) (fun i=>l.length-i) 0 ⟨Nat.zero_le _,by rcases Q4o m l with ⟨_,h,_⟩|⟨_,h⟩<;>simp only [List.drop_zero,h]<;>first|rfl|(rw [if_neg (by omega)];simp)⟩ rfl ?_
 rintro i ⟨q1,q2⟩
 dsimp only
 by_cases hi:i<l.length
 rotate_left
 ·have hres:ixOf m l = -1:=by rw [q2,show i=l.length by omega,List.drop_length];rfl
  repeat' ((conv=>whnf);first|refine zF ?_|refine Get.mk _ rfl ?_|refine Leaves.of ?_|refine Vw.int ?_)
  exact hres.symm
 obtain ⟨x,hx,hc⟩:=Q15 hi
 have hq:=Qma (m:=m) hx
 by_cases he:m=x
 ·rw [if_pos he] at hq
  repeat' ((conv=>whnf);first|refine zT ?_|refine Get.mk _ hc ?_|refine zN ?_|refine Get.mk _ rfl ?_|refine Leaves.of ?_|refine Vw.int ?_|refine zR ?_)
  rw [q2,hq];simp
 ·rw [if_neg he] at hq
  repeat' ((conv=>whnf);first|refine zT ?_|refine zF ?_|refine zB ?_|refine Get.mk _ hc ?_|refine zN ?_|refine zR ?_)
  refine NextP.mk (i+1) ⟨hi,?_⟩ (by omega) rfl
  rw [q2,hq]
  rcases Q4o m (l.drop (i+1)) with ⟨_,h,_⟩|⟨_,h⟩
  ·rw [if_neg (show ¬ ixOf m (l.drop (i+1))<0 by omega),if_neg (by omega)];omega
  ·rw [h];rfl
abbrev hasB (m:Int) (l:List Int):Bool:=decide (m∈l)
theorem Q54 {c:Bool} {l:List Int} {m:Int} (hl:l.length≤140737488355328):Fun FB md 47 [.sl c l.length (Q00 l),.int .i64 m] (.bool (hasB m l)):=by
 have h1:=Qcw (c:=c) (m:=m) hl
 refine Q04 rfl rfl ?_
 repeat' ((conv=>whnf);first|refine zC h1 ?_|refine Get.mk _ rfl ?_|refine Leaves.of ?_|refine Vw.bool ?_)
 rcases Q4o m l with ⟨h,h2,h3⟩|⟨h,h2⟩
 ·simp [hasB,h,h2]
 ·simp [hasB,h,h2]
def nmE (nm:List UInt8) (l:List El):Bool:=l.any fun e=>e.nm==nm
abbrev xRp (x:El):V:=.rp [.str x.nm,.sl x.c x.l.length (shC x.l),.int .i64 x.g] 0
theorem Qe8 {x y:El}:Fun FB md 46 [.agg y.v,xRp x] (.bool (y.nm==x.nm)):=by
 refine Q04 rfl rfl ?_
 repeat' ((conv=>whnf);first|refine Get.mk _ rfl ?_|refine Leaves.of ?_|refine Vw.bool ?_|refine zR ?_)
 rfl
def Q50 (nm:List UInt8):List El→Int
 | [] => -1
 | x::l=>if x.nm=nm then 0 else if Q50 nm l<0 then -1 else Q50 nm l+1
theorem Q3q (nm:List UInt8):∀ l:List El,(nmE nm l=true∧0≤Q50 nm l∧Q50 nm l<l.length)∨(nmE nm l=false∧Q50 nm l = -1)
 | []=>.inr ⟨rfl,rfl⟩
 | x::l=>by
  unfold Q50
  by_cases h:x.nm=nm
  ·rw [if_pos h];exact .inl ⟨by simp [nmE,h],by omega,by simp only [List.length_cons];omega⟩
  ·rw [if_neg h]
   rcases Q3q nm l with ⟨h1,h2,h3⟩|⟨h1,h2⟩
   ·rw [if_neg (by omega)];exact .inl ⟨by simp only [nmE,List.any_cons] at h1 ⊢;rw [h1,Bool.or_true],by omega,by simp only [List.length_cons];omega⟩
   ·rw [if_pos (by omega)];exact .inr ⟨by simp only [nmE,List.any_cons] at h1 ⊢;rw [h1];simp [h],rfl⟩
theorem Qio {nm:List UInt8} {x:El} {l:List El} {i:Nat} (h:l[i]?=some x):Q50 nm (l.drop i)=if x.nm=nm then 0 else if Q50 nm (l.drop (i+1))<0 then -1 else Q50 nm (l.drop (i+1))+1:=by
 obtain ⟨hi,rfl⟩:=jB.1 h
 rw [List.drop_eq_getElem_cons hi];rfl
theorem nix_ok {c:Bool} {l:List El} {x:El} (hl:l.length≤140737488355328):Fun FB md 77 [elsV c l,.fn 46 [xRp x]] (.int .i64 (Q50 x.nm l)):=by
 refine Q04 rfl rfl ?_
 skip
 refine LoopP.by (fun i:Nat=>i≤l.length∧Q50 x.nm l=if Q50 x.nm (l.drop i)<0 then -1 else Q50 x.nm (l.drop i)+i) (fun i=>[(8,.int .i64 (i:Nat))]) (fun _=>[]) (fun i=>l.length-i) 0 ⟨Nat.zero_le _,by rcases Q3q x.nm l with ⟨_,h,_⟩|⟨_,h⟩<;>simp only [List.drop_zero,h]<;>first|rfl|(rw [if_neg (by omega)];simp)⟩ rfl ?_
 rintro i ⟨q1,q2⟩
 dsimp only
 by_cases hi:i<l.length
 rotate_left
 ·have hres:Q50 x.nm l = -1:=by rw [q2,show i=l.length by omega,List.drop_length];rfl
  repeat' ((conv=>whnf);first|refine zF ?_|refine Get.mk _ rfl ?_|refine Leaves.of ?_|refine Vw.int ?_)
  exact hres.symm
 obtain ⟨y,hy⟩:∃ p,l[i]?=some p:=⟨_,jC hi⟩
 have hpart:=Q7i hy
 have hf:=Qe8 (x:=x) (y:=y)
 have hq:=Qio (nm:=x.nm) hy
 by_cases he:y.nm=x.nm
 ·rw [if_pos he] at hq
  rw [show (y.nm==x.nm)=true by simp [he]] at hf
  repeat' ((conv=>whnf);first|refine Br.t ?_|refine zT ?_|refine Get.mk _ hpart ?_|refine zC hf ?_|refine zN ?_|refine Get.mk _ rfl ?_|refine Leaves.of ?_|refine Vw.int ?_|refine zR ?_)
  rw [q2,hq];simp
 ·rw [if_neg he] at hq
  rw [show (y.nm==x.nm)=false by simp [he]] at hf
  repeat' ((conv=>whnf);first|refine Br.f ?_|refine zT ?_|refine zB ?_|refine Get.mk _ hpart ?_|refine zC hf ?_|refine zN ?_|refine zR ?_)
  refine NextP.mk (i+1) ⟨hi,?_⟩ (by omega) rfl
  rw [q2,hq]
  rcases Q3q x.nm (l.drop (i+1)) with ⟨_,h,_⟩|⟨_,h⟩
  ·rw [if_neg (show ¬ Q50 x.nm (l.drop (i+1))<0 by omega),if_neg (by omega)];omega
  ·rw [h];rfl
theorem Qiw {c:Bool} {l:List El} {x:El} (hl:l.length≤140737488355328):Fun FB md 45 [elsV c l,.fn 46 [xRp x]] (.bool (nmE x.nm l)):=by
 have h1:=nix_ok (c:=c) (x:=x) hl
 refine Q04 rfl rfl ?_
 repeat' ((conv=>whnf);first|refine zC h1 ?_|refine Get.mk _ rfl ?_|refine Leaves.of ?_|refine Vw.bool ?_)
 rcases Q3q x.nm l with ⟨h,h2,h3⟩|⟨h,h2⟩
 ·simp [h,h2]
 ·simp [h,h2]
end Go.Dr.T6
namespace Go.Dr.T6
open Go.Dr.T
def dedS (ks:List Int) (m:Int):List Int:=if m∈ks then ks else ks++[m]
def dedF (ks s:List Int):List Int:=s.foldl dedS ks
theorem Qd9:∀ {s ks:List Int},(ks++s).Nodup→dedF ks s=ks++s
 | [],ks,_=>by simp [dedF]
 | m::s,ks,h=>by
  have hm:m∉ks:=fun hm=>by
   rw [List.nodup_append] at h
   exact h.2.2 m hm m (by simp) rfl
  have:=Qd9 (s:=s) (ks:=ks++[m]) (by simpa using h)
  show dedF (dedS ks m) s=_
  unfold dedS
  rw [if_neg hm,this]
  simp
theorem Qnj:∀ {s ks:List Int},(dedF ks s).length≤ks.length+s.length
 | [],ks=>by simp [dedF]
 | m::s,ks=>by
  have:=Qnj (s:=s) (ks:=dedS ks m)
  show (dedF (dedS ks m) s).length≤_
  have h2:(dedS ks m).length≤ks.length+1:=by
   unfold dedS
   split
   ·omega
   ·simp
  simp only [List.length_cons]
  omega
theorem Qni:∀ {s ks:List Int},ks.Nodup→¬ (ks++s).Nodup→(dedF ks s).length<ks.length+s.length
 | [],ks,nd,h=>by rw [List.append_nil] at h;exact absurd nd h
 | m::s,ks,nd,h=>by
  show (dedF (dedS ks m) s).length<_
  by_cases hm:m∈ks
  ·have e:dedS ks m=ks:=by unfold dedS;rw [if_pos hm]
   rw [e]
   have:=Qnj (s:=s) (ks:=ks)
   simp only [List.length_cons]
   omega
  ·have e:dedS ks m=ks++[m]:=by unfold dedS;rw [if_neg hm]
   rw [e]
   have:=Qni (s:=s) (ks:=ks++[m]) (by
    rw [List.nodup_append]
    exact ⟨nd,by simp,fun x hx y hy=>by rw [jJ] at hy;subst hy;rintro rfl;exact hm hx⟩) (by simpa using h)
   have e2:(ks++[m]).length=ks.length+1:=by simp
   have e3:(m::s).length=s.length+1:=rfl
   omega
theorem Qnh {s:List Int} {i:Nat} {m:Int} (h:s[i]?=some m):dedF [] (s.take (i+1))=dedS (dedF [] (s.take i)) m:=by
 have:s.take (i+1)=s.take i++[m]:=by rw [List.take_add_one,h];rfl
 rw [this,dedF,List.foldl_append]
 rfl
def anyO (s:List Int):Bool:=s.any fun m=>outB m 1 999
def scrE (s:List Int):Int:=if 60<s.length then 3 else if anyO s=true then 7 else if s.Nodup then 0 else 5
theorem Qtb {c:Bool} {s:List Int} (hs:s.length≤60):Fun FB md 50 [.sl c s.length (Q00 s),.fn 51 []] (.bool (anyO s)):=by
 have hi:Fun FB md 81 [.sl c s.length (Q00 s),.fn 51 []] (.int .i64 (match s.findIdx? fun m=>outB m 1 999 with
   | some i=>(i:Int)
   | none => -1)):=by
  refine Q04 rfl rfl ?_
  skip
  all_goals try (exfalso;omega)
  refine LoopP.by (fun i:Nat=>i≤s.length∧∀ m∈s.take i,outB m 1 999=false) (fun i=>[(8,.int .i64 (i:Nat))]) (fun _=>[]) (fun i=>s.length-i) 0 ⟨Nat.zero_le _,by simp⟩ rfl ?_
  rintro i ⟨w1,w2⟩
  dsimp only
  by_cases hi:i<s.length
  rotate_left
  ·rw [List.take_of_length_le (by omega)] at w2
   have:(s.findIdx? fun m=>outB m 1 999)=none:=by rw [List.findIdx?_eq_none_iff];exact w2
   rw [this]
   repeat' ((conv=>whnf);first|refine zF ?_|refine Get.mk _ rfl ?_|refine Leaves.of ?_|refine Vw.int ?_)
   all_goals first|rfl|(exfalso;omega)
  obtain ⟨m,hm,hc⟩:=Q15 hi
  have h1:Fun FB md 51 [.int .i64 m] (.bool (outB m 1 999)):=by
   have h0:=Q0z (n:=m) (lo:=1) (hi:=999)
   generalize outB m 1 999=b at *
   refine Q04 rfl rfl ?_
   repeat' ((conv=>whnf);first|refine zC h0 ?_|refine Get.mk _ rfl ?_|refine Leaves.of ?_|refine Vw.bool ?_)
   all_goals first|rfl|(exfalso;omega)
  cases hb:outB m 1 999 with
  | true =>
   have:(s.findIdx? fun m=>outB m 1 999)=some i:=by
    rw [List.findIdx?_eq_some_iff_getElem]
    obtain ⟨g1,g2⟩:=jB.1 hm
    refine ⟨g1,by rw [g2];exact hb,fun j hj=>?_⟩
    rw [w2 s[j] (by
     rw [List.mem_take_iff_getElem]
     exact ⟨j,by omega,rfl⟩)]
    simp
   rw [this]
   rw [hb] at h1
   repeat' ((conv=>whnf);first|refine Br.t ?_|refine zT ?_|refine Get.mk _ hc ?_|refine zC h1 ?_|refine zN ?_|refine Get.mk _ rfl ?_|refine Leaves.of ?_|refine Vw.int ?_|refine zR ?_)
   all_goals first|rfl|(exfalso;omega)
  | false =>
   rw [hb] at h1
   have hn:∀ x∈s.take (i+1),outB x 1 999=false:=fun x hx=>by
    rw [List.take_add_one,hm] at hx
    rcases jK.1 hx with hx|hx
    ·exact w2 x hx
    ·rw [show (some m).toList=[m] from rfl,jJ] at hx
     subst hx;exact hb
   repeat' ((conv=>whnf);first|refine Br.f ?_|refine zT ?_|refine zB ?_|refine Get.mk _ hc ?_|refine zC h1 ?_|refine zN ?_|refine zR ?_)
   all_goals first|(exfalso;omega)|exact NextP.mk (i+1) ⟨hi,hn⟩ (by omega) rfl
 cases hf:s.findIdx? fun m=>outB m 1 999 with
 | none =>
  rw [hf] at hi
  have:anyO s=false:=by
   rw [List.findIdx?_eq_none_iff] at hf
   unfold anyO
   rw [List.any_eq_false]
   exact fun m hm=>by rw [hf m hm];simp
  rw [this]
  refine Q04 rfl rfl ?_
  repeat' ((conv=>whnf);first|refine zC hi ?_|refine Get.mk _ rfl ?_|refine Leaves.of ?_|refine Vw.bool ?_)
  all_goals first|rfl|(exfalso;omega)
 | some i =>
  rw [hf] at hi
  have:anyO s=true:=by
   rw [List.findIdx?_eq_some_iff_getElem] at hf
   obtain ⟨h1,h2,_⟩:=hf
   unfold anyO
   rw [List.any_eq_true]
   exact ⟨s[i],List.getElem_mem _,h2⟩
  rw [this]
  have h0:0≤(i:Int):=by omega
  dsimp only at hi
  refine Q04 rfl rfl ?_
  repeat' ((conv=>whnf);first|refine zC hi ?_|refine Get.mk _ rfl ?_|refine Leaves.of ?_|refine Vw.bool ?_)
  all_goals first|rfl|(exfalso;omega)|simp
theorem Qe6 {c:Bool} {s:List Int} (hsh:s.length≤9223372036854775807):Fun FB md 13 [.sl c s.length (Q00 s)] (.int .i64 (scrE s)):=by
 refine Q04 rfl rfl ?_
 repeat' ((conv=>whnf);first|refine Get.mk _ rfl ?_)
 all_goals try (exfalso;omega)
 refine LoopP.by (fun i:Nat=>i≤s.length) (fun i=>[(9,.int .i64 (i:Nat))]) (fun i=>[mqB (dedF [] (s.take i))]) (fun i=>s.length-i) 0 (Nat.zero_le _) rfl ?_
 rintro i w1
 dsimp only
 by_cases hi:i<s.length
 ·obtain ⟨m,hm,hc⟩:=Q15 hi
  have hsn:=Qnh hm
  unfold dedS at hsn
  generalize dedF [] (s.take i)=ks at *
  by_cases hmk:m∈ks
  ·rw [if_pos hmk] at hsn
   obtain ⟨j,j1,j2,j3⟩:=Q39 (i:=0) hmk
   rw [Nat.zero_add] at j3
   have j5:=Q7m j1
   repeat' ((conv=>whnf);first|refine zT ?_|refine zB ?_|refine Get.mk _ hc ?_|refine Get.mk _ j3 ?_|refine fVf j5 ?_|refine zN ?_|refine Get.mk _ rfl ?_|refine zR ?_)
   all_goals first|(exfalso;omega)|exact NextP.mk (i+1) hi (by omega) (by rw [hsn];rfl)
  ·rw [if_neg hmk] at hsn
   have j3:=Q1b (i:=0) hmk
   have k1:Q00 ks++[V.int .i64 m]=Q00 (ks++[m]):=by simp [Q00]
   have k2:List.replicate ks.length (V.bool true)++[V.bool true]=List.replicate (ks.length+1) (.bool true):=(List.replicate_succ' ..).symm
   repeat' ((conv=>whnf);first|refine zT ?_|refine zB ?_|refine Get.mk _ hc ?_|refine Get.mk _ j3 ?_|refine fVf k1 ?_|refine fVf k2 ?_|refine zN ?_|refine Get.mk _ rfl ?_|refine zR ?_)
   all_goals first|(exfalso;omega)|exact NextP.mk (i+1) hi (by omega) (by rw [hsn,Qgy];rfl)
 rw [List.take_of_length_le (by omega)]
 unfold scrE
 by_cases hl:60<s.length
 ·rw [if_pos hl]
  repeat' ((conv=>whnf);first|refine zT ?_|refine zF ?_|refine Get.mk _ rfl ?_|refine Leaves.of ?_|refine Vw.int ?_)
  all_goals first|rfl|(exfalso;omega)
 rw [if_neg hl]
 have ho:=Qtb (c:=c) (s:=s) (by omega)
 cases hany:anyO s with
 | true =>
  rw [hany] at ho
  rw [if_pos rfl]
  repeat' ((conv=>whnf);first|refine Br.t ?_|refine zF ?_|refine zC ho ?_|refine Get.mk _ rfl ?_|refine Leaves.of ?_|refine Vw.int ?_)
  all_goals first|rfl|(exfalso;omega)
 | false =>
  rw [hany] at ho
  rw [if_neg (by simp)]
  by_cases nd:s.Nodup
  ·rw [if_pos nd]
   have e:=Qd9 (ks:=[]) (s:=s) nd
   rw [List.nil_append] at e
   rw [e]
   have hol:((Q00 s).length:Int)=s.length:=by simp [Q00]
   repeat' ((conv=>whnf);first|refine Br.f ?_|refine zF ?_|refine zC ho ?_|refine Get.mk _ rfl ?_|refine Leaves.of ?_|refine Vw.int ?_)
   all_goals first|rfl|(exfalso;omega)
  ·rw [if_neg nd]
   have e:=Qni (ks:=[]) (s:=s) .nil nd
   have hol:((Q00 (dedF [] s)).length:Int)=(dedF [] s).length:=by simp [Q00]
   simp only [List.length_nil,Nat.zero_add] at e
   repeat' ((conv=>whnf);first|refine Br.f ?_|refine zT ?_|refine zF ?_|refine zC ho ?_|refine Get.mk _ rfl ?_|refine Leaves.of ?_|refine Vw.int ?_)
   all_goals first|rfl|(exfalso;omega)
end Go.Dr.T6
namespace Go.Dr.T6
open Go.Dr.T
inductive Hid (p:Prop):Prop where
 | mk:p→Hid p
end Go.Dr.T6
namespace Go.Dr.T6
open Go.Dr.T
abbrev T3:=Int × Int × Int
def trC:List T3→List V
 | []=>[]
 | t::l=>.int .i64 t.1::.int .i64 t.2.1::.int .i64 t.2.2::trC l
theorem Qaj:∀ l,(trC l).length=l.length*3
 | []=>rfl
 | _::l=>by simp only [trC,List.length_cons,Qaj l];omega
theorem Qga {t:T3}:∀ l,trC l++[.int .i64 t.1,.int .i64 t.2.1,.int .i64 t.2.2]=trC (l++[t])
 | []=>rfl
 | x::l=>by
  have:=Qga (t:=t) l
  simp only [trC,List.cons_append] at this ⊢
  rw [this]
theorem VwLF.trC {h:List B} {d:Nat}:∀ l:List T3,VwLF h (d+1) (trC l) (trC l)
 | []=>VwLF.nil
 | _::l=>VwLF.cons (VwF.int rfl) (VwLF.cons (VwF.int rfl) (VwLF.cons (VwF.int rfl) (VwLF.trC l)))
def gapV:List T3→V
 | []=>.sl true 0 []
 | t::l=>.sl false (t::l).length (T6.trC (t::l))
theorem Qu8 {l:List T3} (h:l≠[]):gapV l=.sl false l.length (T6.trC l):=by
 cases l with
 | nil=>exact absurd rfl h
 | cons x l=>rfl
end Go.Dr.T6
