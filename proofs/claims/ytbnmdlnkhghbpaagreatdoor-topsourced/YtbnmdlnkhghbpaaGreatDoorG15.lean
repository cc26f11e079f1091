/- Top, of chapter 06: sorted: the keys of a map, in order. -/
import Derived.Test.YtbnmdlnkhghbpaaGreatDoorG14
namespace Go.Dr.T6
open Go.Dr.T
def kAt (ks:List Int) (s:Nat):Int:=ks.getD s 0
def Q7t (ks:List Int) (seen:List Nat):List Int:=seen.map (kAt ks)
theorem Q49 {ks:List Int} {s:Nat} (h:s<ks.length):ks[s]?=some (kAt ks s):=by simp [kAt,List.getD,h]
theorem tg_key {ks:List Int} {s:Nat} (h:s<ks.length):tg (Q00 ks) s=.int .i64 (kAt ks s):=Q7p (by simp [Q00,Q49 h])
theorem Qnm {ks:List Int} {vs:List V} {seen:List Nat} {s:Nat} (h:s<ks.length):Qcr [.ir (Q00 ks) vs (seen++[s])]=some (.tup [.int .i64 (kAt ks s),tg vs s],none):=by
 have hl:(Q00 ks).length=ks.length:=by simp [Q00]
 simp only [Qcr,lastO_snoc,hl,h,if_true,tg_key h]
theorem Q9p (ks:List Int) (seen:List Nat) (s:Nat):Q7t ks (seen++[s])=Q7t ks seen++[kAt ks s]:=by simp [Q7t]
theorem Q8e {a b:List Int} (h:a.Perm b):Q0k a=Q0k b :=
 List.Perm.eq_of_pairwise (le:=fun x y:Int=>x≤y) (fun a b _ _ h1 h2=>by omega) (Q2f a) (Q2f b) ((Q11 a).trans (h.trans (Q11 b).symm))
theorem Qkt (ks:List Int):Q7t ks (List.range ks.length)=ks:=by
 apply List.ext_getElem?
 intro i
 simp only [Q7t,jH]
 by_cases h:i<ks.length
 ·rw [List.getElem?_range h,Option.map_some,Q49 h]
 ·rw [List.getElem?_eq_none (by simp;omega),List.getElem?_eq_none (by omega)];rfl
theorem Qks {n:Nat} {seen:List Nat} (h1:seen.Nodup) (h2:∀ s∈seen,s<n) (h3:∀ s,s<n→s∈seen):seen.Perm (List.range n) :=
 (List.perm_ext_iff_of_nodup h1 List.nodup_range).2 fun a=>by rw [List.mem_range];exact ⟨h2 a,h3 a⟩
theorem Qih {ks:List Int} {seen:List Nat} (h1:seen.Nodup) (h2:∀ s∈seen,s<ks.length) (h3:∀ s,s<ks.length→s∈seen):(Q7t ks seen).Perm ks:=by
 have:=(Qks h1 h2 h3).map (kAt ks)
 rwa [show (List.range ks.length).map (kAt ks)=ks from Qkt ks] at this
def acB:List Int→List B
 | []=>[]
 | x::l=>[.blk (Q00 (x::l)) true]
theorem Qi1 {L:List Int} (h:L≠[]):acB L=[.blk (Q00 L) true]:=by
 cases L with
 | nil=>exact absurd rfl h
 | cons y l=>rfl
theorem Qkm {x:B} {c:Bool} {L:List Int} {K:V→List B→Prop} (hl:L.length≤140737488355328) (hk:K (.tup []) (x::acB (Q0k L))):CallP FB md 0 (.fn 49 []) [lv 0 c L] (x::acB L) K:=by
 have h:=Qkl (x:=x) (H:=acB L) (G:=[]) (id:=0) (c:=c) (L:=L) (K:=K) (fun hn=>by rw [Qi1 hn];rfl) hl (by
  rw [List.append_nil,Q4q]
  by_cases hn:L=[]
  ·subst hn;simpa [Q0k,acB] using hk
  ·rw [if_neg hn,Qi1 hn]
   rw [Qi1 (fun h=>hn (Q2p.1 h))] at hk
   exact hk)
 rwa [List.append_nil,Q4q] at h
theorem Qox {x:B} {c:Bool} {y:Int} {l:List Int} {K:V→List B→Prop} (hl:(y::l).length≤140737488355328) (hk:K (.tup []) [x,.blk (Q00 (Q0k (y::l))) true]):CallP FB md 0 (.fn 49 []) [lv 0 c (y::l)] [x,.blk (Q00 (y::l)) true] K :=
 Qkm (L:=y::l) hl (by rw [Qi1 (fun h=>by have:=Q2p.1 h;cases this)];exact hk)
set_option maxRecDepth 100000 in
set_option maxHeartbeats 20000000 in
theorem sorted_walk {ks:List Int} {vs:List V} (hn:ks.length≤1000000) (fc:Fc) (hfc:F 53=some fc):wpm FB md 0 fc.body ⟨[.rm (Q00 ks) vs]++Q1a (fc.ntm-fc.np),[]⟩ (Leaves fc.res (lw false (Q0k ks))):=by
 cases hfc
 refine (Q23 (K:=fun tm=>wpm FB md 0 _ ⟨tm,[]⟩ _)).1 ?_
 repeat' ((conv=>whnf);first|refine Get.mk _ rfl ?_)
 refine LoopP.by (fun seen:List Nat=>seen.Nodup∧∀ s∈seen,s<ks.length) (fun seen=>[(2,lv 0 false (Q7t ks seen))]) (fun seen=>.ir (Q00 ks) vs seen::acB (Q7t ks seen)) (fun seen=>ks.length-seen.length) [] ⟨.nil,by simp⟩ rfl ?_
 rintro seen ⟨h1,h2⟩
 dsimp only
 have hkl:(Q00 ks).length=ks.length:=by simp [Q00]
 have hle:seen.length≤ks.length:=Q1z h1 h2
 have hsl:(Q7t ks seen).length=seen.length:=by simp [Q7t]
 have hperm:=Qih h1 h2
 have hnx:∀ s,s<ks.length→s∉seen→((seen++[s]).Nodup∧∀ t∈seen++[s],t<ks.length)∧ks.length-(seen++[s]).length<ks.length-seen.length:=fun s hs hn=>by
  have hd:(seen++[s]).Nodup:=by
   rw [List.nodup_append]
   exact ⟨h1,by simp,fun x hx y hy=>by rw [jJ] at hy;subst hy;rintro rfl;exact hn hx⟩
  have hb:∀ t∈seen++[s],t<ks.length:=fun t ht=>by
   rcases jK.1 ht with ht|ht
   ·exact h2 t ht
   ·rw [jJ] at ht;subst ht;exact hs
  have:=Q1z hd hb
  refine ⟨⟨hd,hb⟩,?_⟩
  rw [jD] at this ⊢
  simp at this ⊢;omega
 cases hL:Q7t ks seen with
 | nil =>
  repeat' ((conv=>whnf);first|refine Get.mk _ rfl ?_)
  refine NextR.mk (fun hall=>?_) (fun s hs hn=>?_)
  ·have e:=Q8e (hperm fun s hs=>hall s (by rw [hkl];exact hs))
   rw [hL] at e
   rw [← e]
   repeat' ((conv=>whnf);first|refine Br.f ?_|(refine Qkm (c:=false) (L:=[]) ?_ ?_;(focus simp))|refine Get.mk _ rfl ?_|refine Leaves.of ?_|refine Vw.nil)
  ·rw [hkl] at hs
   have hc:=Qnm (vs:=vs) (seen:=seen) hs
   repeat' ((conv=>whnf);first|refine Br.t ?_|refine Get.mk _ hc ?_|refine zZ ?_|refine Get.mk _ rfl ?_|refine zR ?_)
   refine NextP.mk (seen++[s]) (hnx s hs hn).1 (hnx s hs hn).2 ?_
   rw [Q9p,hL]
   rfl
 | cons x r =>
  rw [hL] at hsl
  simp only [List.length_cons] at hsl
  repeat' ((conv=>whnf);first|refine Get.mk _ rfl ?_)
  refine NextR.mk (fun hall=>?_) (fun s hs hn=>?_)
  ·have e:=Q8e (hperm fun s hs=>hall s (by rw [hkl];exact hs))
   rw [hL] at e
   rw [← e]
   have hvw:Vw [B.ir (Q00 ks) vs seen,.blk (Q00 (Q0k (x::r))) true] depth (.ms 1 (0+1) (r.length+1) 0 (r.length+1) false) (lw false (Q0k (x::r))):=⟨by have:=Qdz (h:=[B.ir (Q00 ks) vs seen,.blk (Q00 (Q0k (x::r))) true]) (d:=62) (id:=0) (c:=false) (L:=Q0k (x::r)) (fun _=>rfl);rwa [Qrm (Q21 _)] at this⟩
   repeat' ((conv=>whnf);first|refine Br.f ?_|(refine Qox ?_ ?_;(focus simp only [List.length_cons];omega))|exact hvw|refine Get.mk _ rfl ?_|refine Leaves.of ?_)
  ·rw [hkl] at hs
   have hc:=Qnm (vs:=vs) (seen:=seen) hs
   have hol:(Q00 (x::r)).length=r.length+1:=by simp [Q00]
   repeat' ((conv=>whnf);first|refine Br.t ?_|refine Get.mk _ hc ?_|refine Req.mk hol ?_|refine Req.mk ⟨by omega,by rw [hol];exact Q46 (by simp;omega)⟩ ?_|refine zZ ?_|refine Get.mk _ rfl ?_|refine zR ?_)
   refine NextP.mk (seen++[s]) (hnx s hs hn).1 (hnx s hs hn).2 ?_
   have e1:Q00 (x::r)++[V.int .i64 (kAt ks s)]=Q00 (x::(r++[kAt ks s])):=by simp [Q00]
   have e2:(r++[kAt ks s]).length=r.length+1:=by simp
   rw [Q9p,hL,List.cons_append]
   rw [e1]
   simp only [lv,e2,acB]
   rfl
end Go.Dr.T6
namespace Go.Dr.T6
open Go.Dr.T
theorem Qko:∀ {l l':List (Int × Int)},shC l=shC l'→l=l'
 | [],[],_=>rfl
 | [],_::_,h=>by simp [shC] at h
 | _::_,[],h=>by simp [shC] at h
 | p::l,q::l',h=>by
  simp only [shC,List.cons.injEq,V.int.injEq,true_and] at h
  obtain ⟨h1,h2,h3⟩:=h
  rw [Qko h3,Prod.ext h1 h2]
theorem Qn3:∀ {l l':List El},elC l=elC l'→l=l'
 | [],[],_=>rfl
 | [],_::_,h=>by simp [elC] at h
 | _::_,[],h=>by simp [elC] at h
 | ⟨n,c,s,g⟩::l,⟨n',c',s',g'⟩::l',h=>by
  simp only [elC,List.cons.injEq,V.int.injEq,V.str.injEq,V.sl.injEq,true_and] at h
  obtain ⟨rfl,⟨rfl,_,h2⟩,rfl,h3⟩:=h
  rw [Qn3 h3,Qko h2]
open Classical in
noncomputable def gatG (as:List V):Option V:=if h:∃ p:Bool × List El,as=[elsV p.1 p.2] then some (Q1l (Classical.choose h).2) else none
theorem Qu7 {c:Bool} {l:List El}:gatG [elsV c l]=some (Q1l l):=by
 have h:∃ p:Bool × List El,[elsV c l]=[elsV p.1 p.2]:=⟨(c,l),rfl⟩
 have e:=Classical.choose_spec h
 unfold gatG
 rw [dif_pos h]
 generalize Classical.choose h=q at *
 simp only [elsV,List.cons.injEq,V.sl.injEq,and_true] at e
 rw [Qn3 e.2.2]
theorem gatG_some {as:List V} {v:V} (h:gatG as=some v):∃ c l,as=[elsV c l]∧v=Q1l l:=by
 unfold gatG at h
 split at h
 ·rename_i hx
  cases h
  exact ⟨_,_,Classical.choose_spec hx,rfl⟩
 ·cases h
def srtdG:List V→Option V
 | [.rm kc _]=>match Q4u kc with
  | some ks=>if ks.length≤1000000 then some (lw false (Q0k ks)) else none
  | none=>none
 | _=>none
theorem Qcv:∀ l:List Int,Q4u (Q00 l)=some l
 | []=>rfl
 | x::l=>by
  show (Q4u (Q00 l)).map (x :: ·)=_
  rw [Qcv l];rfl
theorem Qos {ks:List Int} {vs:List V} (h:ks.length≤1000000):srtdG [.rm (Q00 ks) vs]=some (lw false (Q0k ks)):=by
 simp only [srtdG,Qcv,h,if_true]
end Go.Dr.T6
