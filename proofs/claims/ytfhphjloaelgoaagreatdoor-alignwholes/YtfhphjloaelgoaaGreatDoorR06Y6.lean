/- Chapter 06: what comes before what, walked. -/
import Derived.Test.YtfhphjloaelgoaaGreatDoorR06Y5
namespace Go.Dr.T
def nI (L:List Nat):List Int:=L.map fun (k:Nat)=>(k:Int)
theorem nI_len (L:List Nat):(nI L).length=L.length:=by simp [nI]
theorem ofnI_len (L:List Nat):(ofInts (nI L)).length=L.length:=by simp [nI,ofInts]
theorem ofnI_cell {L:List Nat} {i:Nat} {q:Nat} (h:L[i]?=some q):cellAt (ofInts (nI L)) i=some (.int .i64 (q:Nat)):=by
 rw [cellAt_eq]
 simp [nI,ofInts,h]
theorem ofnI_snoc (L:List Nat) (k:Nat):ofInts (nI L)++[V.int .i64 (k:Nat)]=ofInts (nI (L++[k])):=by simp [nI,ofInts]
theorem tabB_get {n i:Nat} {T:Nat→Nat→Bool} (h:i<n):cellAt ((List.range n).map fun i=>rowB n (T i)) (i * 1)=some (rowB n (T i)):=by
 rw [cellAt_eq,Nat.mul_one]
 simp [h]
inductive QB
 | st (sn:Nat→Bool)
 | no (sn:Nat→Bool)
 | bk (x:Nat) (L:List Nat) (off:Nat) (sn:Nat→Bool)
def QB.v (a:Nat):QB→V
 | .st _=>.sl true 1 [.int .i64 (a:Nat)]
 | .no _=>.sl true 0 []
 | .bk _ L off _=>.ms 1 1 (L.length+1) off (L.length+1 - off) false
def QB.h:QB→List B
 | .st sn=>[.blk (boC 1000 sn) true]
 | .no sn=>[.blk (boC 1000 sn) true]
 | .bk x L _ sn=>[.blk (boC 1000 sn) true,.blk (ofInts (nI (x :: L))) true]
def QB.q (a:Nat):QB→List Nat
 | .st _=>[a]
 | .no _=>[]
 | .bk x L off _=>(x :: L).drop off
def QB.s:QB→Nat→Bool
 | .st sn=>sn
 | .no sn=>sn
 | .bk _ _ _ sn=>sn
def QB.ok:QB→Prop
 | .bk _ L off sn=>off≤L.length+1∧L.length+1+unsn sn≤1000
 | _=>True
theorem unsn_le (sn:Nat→Bool):unsn sn≤1000:=by
 unfold unsn
 have:=List.length_filter_le (fun k => !sn k) (List.range 1000)
 rwa [List.length_range] at this
structure CJ where
 s:QB
 k:Nat
def QB.ok2:QB→Prop
 | .st _=>False
 | .no _=>True
 | .bk _ L off sn=>off≤L.length+1∧L.length+1+unsn sn≤1000
set_option maxRecDepth 100000 in
set_option maxHeartbeats 20000000 in
theorem comes_ok {T:Nat→Nat→Bool} {a b:Nat} (ha:a<1000) (hb1:1≤b) (hb:b<1000) {r:Bool} (hr:r=true ↔ CM T a b):Fun FB md 74 [tabB 1000 T,.int .i64 (a:Nat),.int .i64 (b:Nat)] (.bool r):=by
 refine fun_of rfl rfl ?_
 repeat' (first
 | (conv=>whnf)
   first
   | (refine Idx.nat ?_ ?_;(focus omega))
   | refine Idx.nat (le_big (by omega)) ?_
   | refine Get.mk _ rfl ?_
   | (refine Req.mk ?_ ?_;(focus first | rfl | decide | exact ⟨rfl,rfl⟩ | exact ⟨rfl,by decide⟩ | exact (fun _=>rfl) | exact (fun h=>nomatch h) | (simp;done) | omega | (simp [big];done) | exact le_big (by omega) | exact lt_big (by omega))))
 all_goals try (exfalso;omega;done)
 refine LoopP.by (fun s:QB=>s.ok∧CQ T a b (s.q a) s.s) (fun s=>[(8,s.v a)]) (fun s=>s.h) (fun s=>2 * unsn s.s+(s.q a).length) (.st fun _=>false) ⟨trivial,CQ.start⟩ (by
  rw [show QB.h (.st fun _=>false)=[.blk (reps 1000 [.bool false]) true] by rw [boC_zero];rfl]
  rfl) ?_
 rintro s ⟨hok,hcq⟩
 dsimp only
 cases s with
 | st sn =>
  dsimp only [QB.q,QB.s,QB.v,QB.h] at hcq ⊢
  have hci0:=hcq.pop hb1
  repeat' (first
 | (conv=>whnf)
   first
   | refine Br.t ?_
   | (refine Idx.int ?_ ?_ ?_;(focus omega);(focus omega))
   | refine Get.mk _ rfl ?_
   | (refine Req.mk ?_ ?_;(focus first | rfl | decide | exact ⟨rfl,rfl⟩ | exact ⟨rfl,by decide⟩ | exact (fun _=>rfl) | exact (fun h=>nomatch h) | (simp;done) | omega | (simp [big];done) | exact le_big (by omega) | exact lt_big (by omega))))
  all_goals try (exfalso;omega;done)
  refine LoopP.by (fun j:CJ=>j.s.ok2∧CI T a b a (2 * unsn sn+0) j.k (j.s.q a) j.s.s) (fun j=>[(8,j.s.v a),(10,.int .i64 (j.k:Nat))]) (fun j=>j.s.h) (fun j=>1000 - j.k) ⟨.no sn,1⟩ ⟨trivial,hci0⟩ rfl ?_
  rintro ⟨s2,k⟩ ⟨hok2,hci⟩
  dsimp only at hok2 hci ⊢
  have hmu:2 * unsn s2.s+(s2.q a).length<2 * unsn sn+1:=by have:=hci.ms;omega
  cases s2 with
  | st sn2=>exact hok2.elim
  | no sn2 =>
   dsimp only [QB.q,QB.s,QB.v,QB.h] at hci hmu ⊢
   have hm1:a<1000:=hci.rm.lt ha
   have g0:=tabB_get (T:=T) hm1
   by_cases hk:k<1000
   rotate_left
   ·have e:k=1000:=by have:=hci.k2;omega
    subst e
    repeat' (first
 | (conv=>whnf)
   first
   | refine Br.f ?_)
    all_goals first | (exfalso;omega;done) | exact NextP.mk (.no sn2) ⟨hok2,hci.fin hb⟩ hmu rfl
   have gk:=boC_get' (f:=T a) hk
   have gs:=boC_get (f:=sn2) hk
   have hlr:(boC 1000 sn2).length=1000 * 1:=by rw [boC_len]
   have hk1:=hci.k1
   by_cases hT:T a k=true
   rotate_left
   ·have hT' : T a k=false:=by simpa using hT
    rw [hT'] at gk
    have hn:=hci.skip hk (.inl hT')
    repeat' (first
 | (conv=>whnf)
   first
   | refine Br.t ?_
   | (refine Br.decT ?_ ?_;(focus first | assumption | omega))
   | (refine Bnd.i64 ?_ ?_ ?_;(focus omega);(focus omega))
   | refine Get.mk _ g0 ?_
   | refine Get.mk _ gk ?_
   | (refine Idx.nat ?_ ?_;(focus omega))
   | (refine Req.mk ?_ ?_;(focus first | rfl | decide | exact ⟨rfl,rfl⟩ | exact ⟨rfl,by decide⟩ | exact (fun _=>rfl) | exact (fun h=>nomatch h) | (simp;done) | omega | (simp [big];done) | exact le_big (by omega) | exact lt_big (by omega))))
    all_goals first | (exfalso;omega;done) | exact NextP.mk ⟨(.no sn2),k+1⟩ ⟨hok2,hn⟩ (by (try dsimp only);omega) rfl
   rw [hT] at gk
   by_cases hs:sn2 k=true
   ·rw [hs] at gs
    have hn:=hci.skip hk (.inr hs)
    repeat' (first
 | (conv=>whnf)
   first
   | refine Br.t ?_
   | refine Br.f ?_
   | (refine Br.decT ?_ ?_;(focus first | assumption | omega))
   | (refine Bnd.i64 ?_ ?_ ?_;(focus omega);(focus omega))
   | refine Get.mk _ g0 ?_
   | refine Get.mk _ gk ?_
   | refine Get.mk _ gs ?_
   | refine Req.mk hlr ?_
   | (refine Idx.nat ?_ ?_;(focus omega))
   | refine Get.mk _ rfl ?_
   | (refine Req.mk ?_ ?_;(focus first | rfl | decide | exact ⟨rfl,rfl⟩ | exact ⟨rfl,by decide⟩ | exact (fun _=>rfl) | exact (fun h=>nomatch h) | (simp;done) | omega | (simp [big];done) | exact le_big (by omega) | exact lt_big (by omega))))
    all_goals first | (exfalso;omega;done) | exact NextP.mk ⟨(.no sn2),k+1⟩ ⟨hok2,hn⟩ (by (try dsimp only);omega) rfl
   have hs' : sn2 k=false:=by simpa using hs
   rw [hs'] at gs
   by_cases hkb:k=b
   ·subst hkb
    have hy:=hr.2 (hci.yes hT)
    subst hy
    repeat' (first
 | (conv=>whnf)
   first
   | refine Br.f ?_
   | (refine Br.decT ?_ ?_;(focus first | assumption | omega))
   | refine Get.mk _ g0 ?_
   | refine Get.mk _ gk ?_
   | refine Get.mk _ gs ?_
   | refine Req.mk hlr ?_
   | (refine Idx.nat ?_ ?_;(focus omega))
   | refine Get.mk _ rfl ?_
   | refine Leaves.of ?_
   | refine Vw.bool ?_
   | (refine Req.mk ?_ ?_;(focus first | rfl | decide | exact ⟨rfl,rfl⟩ | exact ⟨rfl,by decide⟩ | exact (fun _=>rfl) | exact (fun h=>nomatch h) | (simp;done) | omega | (simp [big];done) | exact le_big (by omega) | exact lt_big (by omega))))
    all_goals first | (exfalso;omega;done) | rfl
   have hn:=hci.push hk hT hs' hkb
   have hu:=unsn_up hk hs'
   have hov:over (boC 1000 sn2) (0+k * 1) [.bool true]=boC 1000 (upB sn2 k true):=boC_set hk
   have hln:(boC 1000 sn2).length=1000 * 1∧0+k * 1+1≤(boC 1000 sn2).length:=by rw [boC_len];omega
   have hul:=unsn_le sn2
   repeat' (first
 | (conv=>whnf)
   first
   | refine Br.f ?_
   | (refine Br.decT ?_ ?_;(focus first | assumption | omega))
   | (refine Br.decF ?_ ?_;(focus first | assumption | omega))
   | (refine Bnd.i64 ?_ ?_ ?_;(focus omega);(focus omega))
   | refine Get.mk _ g0 ?_
   | refine Get.mk _ gk ?_
   | refine Get.mk _ gs ?_
   | refine Req.mk hlr ?_
   | refine Req.mk hln ?_
   | refine fVg' hov ?_
   | (refine Idx.nat ?_ ?_;(focus omega))
   | (refine Ifz.pos ?_ ?_;(focus omega))
   | refine Get.mk _ rfl ?_
   | (refine Req.mk ?_ ?_;(focus first | rfl | decide | exact ⟨rfl,rfl⟩ | exact ⟨rfl,by decide⟩ | exact (fun _=>rfl) | exact (fun h=>nomatch h) | (simp;done) | omega | (simp [big];done) | exact le_big (by omega) | exact lt_big (by omega))))
   all_goals first | (exfalso;omega;done) | exact NextP.mk ⟨.bk k [] 0 (upB sn2 k true),k+1⟩ ⟨⟨by simp,by simp only [List.length_nil];omega⟩,hn⟩ (by (try dsimp only);omega) rfl
  | bk y L2 off2 sn2 =>
   dsimp only [QB.q,QB.s,QB.v,QB.h] at hci hmu ⊢
   have hm1:a<1000:=hci.rm.lt ha
   have g0:=tabB_get (T:=T) hm1
   by_cases hk:k<1000
   rotate_left
   ·have e:k=1000:=by have:=hci.k2;omega
    subst e
    repeat' (first
 | (conv=>whnf)
   first
   | refine Br.f ?_)
    all_goals first | (exfalso;omega;done) | exact NextP.mk (.bk y L2 off2 sn2) ⟨hok2,hci.fin hb⟩ hmu rfl
   have gk:=boC_get' (f:=T a) hk
   have gs:=boC_get (f:=sn2) hk
   have hlr:(boC 1000 sn2).length=1000 * 1:=by rw [boC_len]
   have hk1:=hci.k1
   by_cases hT:T a k=true
   rotate_left
   ·have hT' : T a k=false:=by simpa using hT
    rw [hT'] at gk
    have hn:=hci.skip hk (.inl hT')
    repeat' (first
 | (conv=>whnf)
   first
   | refine Br.t ?_
   | (refine Br.decT ?_ ?_;(focus first | assumption | omega))
   | (refine Bnd.i64 ?_ ?_ ?_;(focus omega);(focus omega))
   | refine Get.mk _ g0 ?_
   | refine Get.mk _ gk ?_
   | (refine Idx.nat ?_ ?_;(focus omega))
   | (refine Req.mk ?_ ?_;(focus first | rfl | decide | exact ⟨rfl,rfl⟩ | exact ⟨rfl,by decide⟩ | exact (fun _=>rfl) | exact (fun h=>nomatch h) | (simp;done) | omega | (simp [big];done) | exact le_big (by omega) | exact lt_big (by omega))))
    all_goals first | (exfalso;omega;done) | exact NextP.mk ⟨(.bk y L2 off2 sn2),k+1⟩ ⟨hok2,hn⟩ (by (try dsimp only);omega) rfl
   rw [hT] at gk
   by_cases hs:sn2 k=true
   ·rw [hs] at gs
    have hn:=hci.skip hk (.inr hs)
    repeat' (first
 | (conv=>whnf)
   first
   | refine Br.t ?_
   | refine Br.f ?_
   | (refine Br.decT ?_ ?_;(focus first | assumption | omega))
   | (refine Bnd.i64 ?_ ?_ ?_;(focus omega);(focus omega))
   | refine Get.mk _ g0 ?_
   | refine Get.mk _ gk ?_
   | refine Get.mk _ gs ?_
   | refine Req.mk hlr ?_
   | (refine Idx.nat ?_ ?_;(focus omega))
   | refine Get.mk _ rfl ?_
   | (refine Req.mk ?_ ?_;(focus first | rfl | decide | exact ⟨rfl,rfl⟩ | exact ⟨rfl,by decide⟩ | exact (fun _=>rfl) | exact (fun h=>nomatch h) | (simp;done) | omega | (simp [big];done) | exact le_big (by omega) | exact lt_big (by omega))))
    all_goals first | (exfalso;omega;done) | exact NextP.mk ⟨(.bk y L2 off2 sn2),k+1⟩ ⟨hok2,hn⟩ (by (try dsimp only);omega) rfl
   have hs' : sn2 k=false:=by simpa using hs
   rw [hs'] at gs
   by_cases hkb:k=b
   ·subst hkb
    have hy:=hr.2 (hci.yes hT)
    subst hy
    repeat' (first
 | (conv=>whnf)
   first
   | refine Br.f ?_
   | (refine Br.decT ?_ ?_;(focus first | assumption | omega))
   | refine Get.mk _ g0 ?_
   | refine Get.mk _ gk ?_
   | refine Get.mk _ gs ?_
   | refine Req.mk hlr ?_
   | (refine Idx.nat ?_ ?_;(focus omega))
   | refine Get.mk _ rfl ?_
   | refine Leaves.of ?_
   | refine Vw.bool ?_
   | (refine Req.mk ?_ ?_;(focus first | rfl | decide | exact ⟨rfl,rfl⟩ | exact ⟨rfl,by decide⟩ | exact (fun _=>rfl) | exact (fun h=>nomatch h) | (simp;done) | omega | (simp [big];done) | exact le_big (by omega) | exact lt_big (by omega))))
    all_goals first | (exfalso;omega;done) | rfl
   have hn:=hci.push hk hT hs' hkb
   have hu:=unsn_up hk hs'
   have hov:over (boC 1000 sn2) (0+k * 1) [.bool true]=boC 1000 (upB sn2 k true):=boC_set hk
   have hln:(boC 1000 sn2).length=1000 * 1∧0+k * 1+1≤(boC 1000 sn2).length:=by rw [boC_len];omega
   have ho1:=hok2.1
   have ho2:=hok2.2
   have hlc:(ofInts (nI (y :: L2))).length=L2.length+1:=by rw [ofnI_len];rfl
   have hap:off2+(L2.length+1 - off2) * 1=L2.length+1∧((ofInts (nI (y :: L2))).length+[V.int .i64 (k:Nat)].length) * (8+1)<big:=⟨by omega,by rw [hlc];exact lt_big (by simp;omega)⟩
   have hdr:((y :: L2).drop off2)++[k]=(y :: (L2++[k])).drop off2:=by
    rw [← List.cons_append,List.drop_append_of_le_length (by simp;omega)]
   rw [hdr] at hn
   repeat' (first
 | (conv=>whnf)
   first
   | refine Br.f ?_
   | (refine Br.decT ?_ ?_;(focus first | assumption | omega))
   | (refine Br.decF ?_ ?_;(focus first | assumption | omega))
   | (refine Bnd.i64 ?_ ?_ ?_;(focus omega);(focus omega))
   | refine Get.mk _ g0 ?_
   | refine Get.mk _ gk ?_
   | refine Get.mk _ gs ?_
   | refine Req.mk hlr ?_
   | refine Req.mk hln ?_
   | refine Req.mk hap ?_
   | refine Req.mk hlc ?_
   | refine fVg' hov ?_
   | (refine Idx.nat ?_ ?_;(focus omega))
   | (refine Ifz.pos ?_ ?_;(focus omega))
   | refine Get.mk _ rfl ?_
   | (refine Req.mk ?_ ?_;(focus first | rfl | decide | exact ⟨rfl,rfl⟩ | exact ⟨rfl,by decide⟩ | exact (fun _=>rfl) | exact (fun h=>nomatch h) | (simp;done) | omega | (simp [big];done) | exact le_big (by omega) | exact lt_big (by omega))))
   all_goals try (exfalso;omega;done)
   refine NextP.mk ⟨.bk y (L2++[k]) off2 (upB sn2 k true),k+1⟩ ⟨⟨by simp;omega,by simp;omega⟩,hn⟩ (by (try dsimp only);omega) ?_
   have e1:ofInts (nI (y :: L2))++[V.int .i64 (k:Nat)]=ofInts (nI (y :: (L2++[k]))):=by rw [ofnI_snoc];rfl
   have e2:(L2++[k]).length=L2.length+1:=by simp
   have e3:L2.length+1+1 - off2=L2.length+1 - off2+1:=by omega
   rw [e1]
   simp only [QB.v,QB.h,e2,e3]
   rfl
 | no sn =>
  dsimp only [QB.q,QB.s,QB.v,QB.h] at hcq ⊢
  have hf:r=false:=by
   cases r with
   | false=>rfl
   | true=>exact absurd (hr.1 rfl) hcq.fin
  subst hf
  repeat' (first
 | (conv=>whnf)
   first
   | refine Br.f ?_
   | refine Get.mk _ rfl ?_
   | refine Leaves.of ?_
   | refine Vw.bool ?_)
  all_goals first | (exfalso;omega;done) | rfl
 | bk x L off sn =>
  have ho1:=hok.1
  have ho2:=hok.2
  dsimp only [QB.q,QB.s,QB.v,QB.h] at hcq ⊢
  by_cases hoff:off=L.length+1
  ·have hf:r=false:=by
    cases r with
    | false=>rfl
    | true=>exact absurd (hr.1 rfl) (by rw [hoff,List.drop_eq_nil_of_le (by simp)] at hcq;exact hcq.fin)
   subst hf
   subst hoff
   repeat' (first
 | (conv=>whnf)
   first
   | (refine Br.decF ?_ ?_;(focus first | assumption | omega))
   | refine Get.mk _ rfl ?_
   | refine Leaves.of ?_
   | refine Vw.bool ?_)
   all_goals first | (exfalso;omega;done) | rfl
  obtain ⟨m,hm⟩:∃ m,(x :: L)[off]?=some m:=⟨_,List.getElem?_eq_getElem (show off<(x :: L).length by simp;omega)⟩
  have hdm:(x :: L).drop off=m :: (x :: L).drop (off+1):=by
   obtain ⟨h1,h2⟩:=List.getElem?_eq_some_iff.1 hm
   rw [List.drop_eq_getElem_cons h1,h2]
  rw [hdm] at hcq
  have hci0:=hcq.pop hb1
  have gq:cellAt (ofInts (nI (x :: L))) (off+0 * 1)=some (.int .i64 (m:Nat)):=by rw [Nat.zero_mul,Nat.add_zero];exact ofnI_cell hm
  have hlc:(ofInts (nI (x :: L))).length=L.length+1:=by rw [ofnI_len];rfl
  repeat' (first
 | (conv=>whnf)
   first
   | (refine Br.decT ?_ ?_;(focus first | assumption | omega))
   | refine Get.mk _ gq ?_
   | refine Req.mk hlc ?_
   | (refine Idx.int ?_ ?_ ?_;(focus omega);(focus omega))
   | refine Get.mk _ rfl ?_
   | (refine Req.mk ?_ ?_;(focus first | rfl | decide | exact ⟨rfl,rfl⟩ | exact ⟨rfl,by decide⟩ | exact (fun _=>rfl) | exact (fun h=>nomatch h) | (simp;done) | omega | (simp [big];done) | exact le_big (by omega) | exact lt_big (by omega))))
  all_goals try (exfalso;omega;done)
  refine LoopP.by (fun j:CJ=>j.s.ok2∧CI T a b m (2 * unsn sn+((x :: L).drop (off+1)).length) j.k (j.s.q a) j.s.s) (fun j=>[(8,j.s.v a),(10,.int .i64 (j.k:Nat))]) (fun j=>j.s.h) (fun j=>1000 - j.k) ⟨.bk x L (off+1) sn,1⟩ ⟨⟨by omega,ho2⟩,hci0⟩ rfl ?_
  rintro ⟨s2,k⟩ ⟨hok2,hci⟩
  dsimp only at hok2 hci ⊢
  have hmu:2 * unsn s2.s+(s2.q a).length<2 * unsn sn+((x :: L).drop off).length:=by
   rw [hdm,List.length_cons]
   have:=hci.ms
   omega
  have hmu0:True:=trivial
  cases s2 with
  | st sn2=>exact hok2.elim
  | no sn2 =>
   dsimp only [QB.q,QB.s,QB.v,QB.h] at hci hmu ⊢
   have hm1:m<1000:=hci.rm.lt ha
   have g0:=tabB_get (T:=T) hm1
   by_cases hk:k<1000
   rotate_left
   ·have e:k=1000:=by have:=hci.k2;omega
    subst e
    repeat' (first
 | (conv=>whnf)
   first
   | refine Br.f ?_)
    all_goals first | (exfalso;omega;done) | exact NextP.mk (.no sn2) ⟨hok2,hci.fin hb⟩ hmu rfl
   have gk:=boC_get' (f:=T m) hk
   have gs:=boC_get (f:=sn2) hk
   have hlr:(boC 1000 sn2).length=1000 * 1:=by rw [boC_len]
   have hk1:=hci.k1
   by_cases hT:T m k=true
   rotate_left
   ·have hT' : T m k=false:=by simpa using hT
    rw [hT'] at gk
    have hn:=hci.skip hk (.inl hT')
    repeat' (first
 | (conv=>whnf)
   first
   | refine Br.t ?_
   | (refine Br.decT ?_ ?_;(focus first | assumption | omega))
   | (refine Bnd.i64 ?_ ?_ ?_;(focus omega);(focus omega))
   | refine Get.mk _ g0 ?_
   | refine Get.mk _ gk ?_
   | (refine Idx.nat ?_ ?_;(focus omega))
   | (refine Req.mk ?_ ?_;(focus first | rfl | decide | exact ⟨rfl,rfl⟩ | exact ⟨rfl,by decide⟩ | exact (fun _=>rfl) | exact (fun h=>nomatch h) | (simp;done) | omega | (simp [big];done) | exact le_big (by omega) | exact lt_big (by omega))))
    all_goals first | (exfalso;omega;done) | exact NextP.mk ⟨(.no sn2),k+1⟩ ⟨hok2,hn⟩ (by (try dsimp only);omega) rfl
   rw [hT] at gk
   by_cases hs:sn2 k=true
   ·rw [hs] at gs
    have hn:=hci.skip hk (.inr hs)
    repeat' (first
 | (conv=>whnf)
   first
   | refine Br.t ?_
   | refine Br.f ?_
   | (refine Br.decT ?_ ?_;(focus first | assumption | omega))
   | (refine Bnd.i64 ?_ ?_ ?_;(focus omega);(focus omega))
   | refine Get.mk _ g0 ?_
   | refine Get.mk _ gk ?_
   | refine Get.mk _ gs ?_
   | refine Req.mk hlr ?_
   | (refine Idx.nat ?_ ?_;(focus omega))
   | refine Get.mk _ rfl ?_
   | (refine Req.mk ?_ ?_;(focus first | rfl | decide | exact ⟨rfl,rfl⟩ | exact ⟨rfl,by decide⟩ | exact (fun _=>rfl) | exact (fun h=>nomatch h) | (simp;done) | omega | (simp [big];done) | exact le_big (by omega) | exact lt_big (by omega))))
    all_goals first | (exfalso;omega;done) | exact NextP.mk ⟨(.no sn2),k+1⟩ ⟨hok2,hn⟩ (by (try dsimp only);omega) rfl
   have hs' : sn2 k=false:=by simpa using hs
   rw [hs'] at gs
   by_cases hkb:k=b
   ·subst hkb
    have hy:=hr.2 (hci.yes hT)
    subst hy
    repeat' (first
 | (conv=>whnf)
   first
   | refine Br.f ?_
   | (refine Br.decT ?_ ?_;(focus first | assumption | omega))
   | refine Get.mk _ g0 ?_
   | refine Get.mk _ gk ?_
   | refine Get.mk _ gs ?_
   | refine Req.mk hlr ?_
   | (refine Idx.nat ?_ ?_;(focus omega))
   | refine Get.mk _ rfl ?_
   | refine Leaves.of ?_
   | refine Vw.bool ?_
   | (refine Req.mk ?_ ?_;(focus first | rfl | decide | exact ⟨rfl,rfl⟩ | exact ⟨rfl,by decide⟩ | exact (fun _=>rfl) | exact (fun h=>nomatch h) | (simp;done) | omega | (simp [big];done) | exact le_big (by omega) | exact lt_big (by omega))))
    all_goals first | (exfalso;omega;done) | rfl
   have hn:=hci.push hk hT hs' hkb
   have hu:=unsn_up hk hs'
   have hov:over (boC 1000 sn2) (0+k * 1) [.bool true]=boC 1000 (upB sn2 k true):=boC_set hk
   have hln:(boC 1000 sn2).length=1000 * 1∧0+k * 1+1≤(boC 1000 sn2).length:=by rw [boC_len];omega
   have hul:=unsn_le sn2
   repeat' (first
 | (conv=>whnf)
   first
   | refine Br.f ?_
   | (refine Br.decT ?_ ?_;(focus first | assumption | omega))
   | (refine Br.decF ?_ ?_;(focus first | assumption | omega))
   | (refine Bnd.i64 ?_ ?_ ?_;(focus omega);(focus omega))
   | refine Get.mk _ g0 ?_
   | refine Get.mk _ gk ?_
   | refine Get.mk _ gs ?_
   | refine Req.mk hlr ?_
   | refine Req.mk hln ?_
   | refine fVg' hov ?_
   | (refine Idx.nat ?_ ?_;(focus omega))
   | (refine Ifz.pos ?_ ?_;(focus omega))
   | refine Get.mk _ rfl ?_
   | (refine Req.mk ?_ ?_;(focus first | rfl | decide | exact ⟨rfl,rfl⟩ | exact ⟨rfl,by decide⟩ | exact (fun _=>rfl) | exact (fun h=>nomatch h) | (simp;done) | omega | (simp [big];done) | exact le_big (by omega) | exact lt_big (by omega))))
   all_goals first | (exfalso;omega;done) | exact NextP.mk ⟨.bk k [] 0 (upB sn2 k true),k+1⟩ ⟨⟨by simp,by simp only [List.length_nil];omega⟩,hn⟩ (by (try dsimp only);omega) rfl
  | bk y L2 off2 sn2 =>
   dsimp only [QB.q,QB.s,QB.v,QB.h] at hci hmu ⊢
   have hm1:m<1000:=hci.rm.lt ha
   have g0:=tabB_get (T:=T) hm1
   by_cases hk:k<1000
   rotate_left
   ·have e:k=1000:=by have:=hci.k2;omega
    subst e
    repeat' (first
 | (conv=>whnf)
   first
   | refine Br.f ?_)
    all_goals first | (exfalso;omega;done) | exact NextP.mk (.bk y L2 off2 sn2) ⟨hok2,hci.fin hb⟩ hmu rfl
   have gk:=boC_get' (f:=T m) hk
   have gs:=boC_get (f:=sn2) hk
   have hlr:(boC 1000 sn2).length=1000 * 1:=by rw [boC_len]
   have hk1:=hci.k1
   by_cases hT:T m k=true
   rotate_left
   ·have hT' : T m k=false:=by simpa using hT
    rw [hT'] at gk
    have hn:=hci.skip hk (.inl hT')
    repeat' (first
 | (conv=>whnf)
   first
   | refine Br.t ?_
   | (refine Br.decT ?_ ?_;(focus first | assumption | omega))
   | (refine Bnd.i64 ?_ ?_ ?_;(focus omega);(focus omega))
   | refine Get.mk _ g0 ?_
   | refine Get.mk _ gk ?_
   | (refine Idx.nat ?_ ?_;(focus omega))
   | (refine Req.mk ?_ ?_;(focus first | rfl | decide | exact ⟨rfl,rfl⟩ | exact ⟨rfl,by decide⟩ | exact (fun _=>rfl) | exact (fun h=>nomatch h) | (simp;done) | omega | (simp [big];done) | exact le_big (by omega) | exact lt_big (by omega))))
    all_goals first | (exfalso;omega;done) | exact NextP.mk ⟨(.bk y L2 off2 sn2),k+1⟩ ⟨hok2,hn⟩ (by (try dsimp only);omega) rfl
   rw [hT] at gk
   by_cases hs:sn2 k=true
   ·rw [hs] at gs
    have hn:=hci.skip hk (.inr hs)
    repeat' (first
 | (conv=>whnf)
   first
   | refine Br.t ?_
   | refine Br.f ?_
   | (refine Br.decT ?_ ?_;(focus first | assumption | omega))
   | (refine Bnd.i64 ?_ ?_ ?_;(focus omega);(focus omega))
   | refine Get.mk _ g0 ?_
   | refine Get.mk _ gk ?_
   | refine Get.mk _ gs ?_
   | refine Req.mk hlr ?_
   | (refine Idx.nat ?_ ?_;(focus omega))
   | refine Get.mk _ rfl ?_
   | (refine Req.mk ?_ ?_;(focus first | rfl | decide | exact ⟨rfl,rfl⟩ | exact ⟨rfl,by decide⟩ | exact (fun _=>rfl) | exact (fun h=>nomatch h) | (simp;done) | omega | (simp [big];done) | exact le_big (by omega) | exact lt_big (by omega))))
    all_goals first | (exfalso;omega;done) | exact NextP.mk ⟨(.bk y L2 off2 sn2),k+1⟩ ⟨hok2,hn⟩ (by (try dsimp only);omega) rfl
   have hs' : sn2 k=false:=by simpa using hs
   rw [hs'] at gs
   by_cases hkb:k=b
   ·subst hkb
    have hy:=hr.2 (hci.yes hT)
    subst hy
    repeat' (first
 | (conv=>whnf)
   first
   | refine Br.f ?_
   | (refine Br.decT ?_ ?_;(focus first | assumption | omega))
   | refine Get.mk _ g0 ?_
   | refine Get.mk _ gk ?_
   | refine Get.mk _ gs ?_
   | refine Req.mk hlr ?_
   | (refine Idx.nat ?_ ?_;(focus omega))
   | refine Get.mk _ rfl ?_
   | refine Leaves.of ?_
   | refine Vw.bool ?_
   | (refine Req.mk ?_ ?_;(focus first | rfl | decide | exact ⟨rfl,rfl⟩ | exact ⟨rfl,by decide⟩ | exact (fun _=>rfl) | exact (fun h=>nomatch h) | (simp;done) | omega | (simp [big];done) | exact le_big (by omega) | exact lt_big (by omega))))
    all_goals first | (exfalso;omega;done) | rfl
   have hn:=hci.push hk hT hs' hkb
   have hu:=unsn_up hk hs'
   have hov:over (boC 1000 sn2) (0+k * 1) [.bool true]=boC 1000 (upB sn2 k true):=boC_set hk
   have hln:(boC 1000 sn2).length=1000 * 1∧0+k * 1+1≤(boC 1000 sn2).length:=by rw [boC_len];omega
   have ho1:=hok2.1
   have ho2:=hok2.2
   have hlc:(ofInts (nI (y :: L2))).length=L2.length+1:=by rw [ofnI_len];rfl
   have hap:off2+(L2.length+1 - off2) * 1=L2.length+1∧((ofInts (nI (y :: L2))).length+[V.int .i64 (k:Nat)].length) * (8+1)<big:=⟨by omega,by rw [hlc];exact lt_big (by simp;omega)⟩
   have hdr:((y :: L2).drop off2)++[k]=(y :: (L2++[k])).drop off2:=by
    rw [← List.cons_append,List.drop_append_of_le_length (by simp;omega)]
   rw [hdr] at hn
   repeat' (first
 | (conv=>whnf)
   first
   | refine Br.f ?_
   | (refine Br.decT ?_ ?_;(focus first | assumption | omega))
   | (refine Br.decF ?_ ?_;(focus first | assumption | omega))
   | (refine Bnd.i64 ?_ ?_ ?_;(focus omega);(focus omega))
   | refine Get.mk _ g0 ?_
   | refine Get.mk _ gk ?_
   | refine Get.mk _ gs ?_
   | refine Req.mk hlr ?_
   | refine Req.mk hln ?_
   | refine Req.mk hap ?_
   | refine Req.mk hlc ?_
   | refine fVg' hov ?_
   | (refine Idx.nat ?_ ?_;(focus omega))
   | (refine Ifz.pos ?_ ?_;(focus omega))
   | refine Get.mk _ rfl ?_
   | (refine Req.mk ?_ ?_;(focus first | rfl | decide | exact ⟨rfl,rfl⟩ | exact ⟨rfl,by decide⟩ | exact (fun _=>rfl) | exact (fun h=>nomatch h) | (simp;done) | omega | (simp [big];done) | exact le_big (by omega) | exact lt_big (by omega))))
   all_goals try (exfalso;omega;done)
   refine NextP.mk ⟨.bk y (L2++[k]) off2 (upB sn2 k true),k+1⟩ ⟨⟨by simp;omega,by simp;omega⟩,hn⟩ (by (try dsimp only);omega) ?_
   have e1:ofInts (nI (y :: L2))++[V.int .i64 (k:Nat)]=ofInts (nI (y :: (L2++[k]))):=by rw [ofnI_snoc];rfl
   have e2:(L2++[k]).length=L2.length+1:=by simp
   have e3:L2.length+1+1 - off2=L2.length+1 - off2+1:=by omega
   rw [e1]
   simp only [QB.v,QB.h,e2,e3]
   rfl
end Go.Dr.T
