/- Chapter 06: what comes before what: plain. -/
import Derived.Test.YtfhphjloaelgoaaGreatDoorG13
namespace Go.Dr.T
inductive RT (T:Nat→Nat→Bool) (a:Nat):Nat→Prop
 | base:RT T a a
 | step {q k:Nat}:RT T a q→T q k=true→1≤k→k<1000→RT T a k
def CM (T:Nat→Nat→Bool) (a b:Nat):Prop:=∃ q,RT T a q∧T q b=true
theorem RT.lt {T:Nat→Nat→Bool} {a k:Nat} (ha:a<1000) (h:RT T a k):k<1000:=by
 cases h with
 | base=>exact ha
 | step _ _ _ h=>exact h
def unsn (sn:Nat→Bool):Nat:=((List.range 1000).filter fun k => !sn k).length
theorem unsn_up {sn:Nat→Bool} {k:Nat} (hk:k<1000) (hs:sn k=false):unsn (upB sn k true)+1=unsn sn:=by
 unfold unsn
 have e:(List.range 1000).filter (fun j => !upB sn k true j)=((List.range 1000).filter fun j => !sn j).erase k:=by
  rw [List.Nodup.erase_eq_filter (List.nodup_range.filter _),List.filter_filter]
  apply List.filter_congr
  intro j _
  unfold upB
  by_cases h:j=k
  ·subst h;simp
  ·rw [if_neg h];simp [h]
 have hm:k∈(List.range 1000).filter fun j => !sn j:=List.mem_filter.2 ⟨List.mem_range.2 hk,by simp [hs]⟩
 rw [e,List.length_erase_of_mem hm]
 have:=List.length_pos_of_mem hm
 omega
def Cd (T:Nat→Nat→Bool) (b:Nat) (sn:Nat→Bool) (k:Nat):Prop:=T k b=false∧∀ m,1≤m→m<1000→T k m=true→sn m=true
theorem Cd.up {T:Nat→Nat→Bool} {b k j:Nat} {sn:Nat→Bool} (h:Cd T b sn k):Cd T b (upB sn j true) k:=⟨h.1,fun m h1 h2 h3=>by
 unfold upB
 split
 ·rfl
 ·exact h.2 m h1 h2 h3⟩
structure CQ (T:Nat→Nat→Bool) (a b:Nat) (Q:List Nat) (sn:Nat→Bool):Prop where
 rc:∀ q∈Q,RT T a q
 sr:∀ k,sn k=true→RT T a k
 sb:sn b=false
 cl:∀ k,k=a∨sn k=true→k∈Q∨Cd T b sn k
theorem CQ.start {T:Nat→Nat→Bool} {a b:Nat}:CQ T a b [a] (fun _=>false) :=
 ⟨fun q hq=>by rw [List.mem_singleton] at hq;subst hq;exact .base,fun k hk=>absurd hk (by decide),rfl,fun k hk=>.inl (by
  rcases hk with h | h
  ·subst h;simp
  ·cases h)⟩
theorem CQ.fin {T:Nat→Nat→Bool} {a b:Nat} {sn:Nat→Bool} (c:CQ T a b [] sn):¬ CM T a b:=by
 rintro ⟨q,hr,hb⟩
 have key:∀ q,RT T a q→Cd T b sn q∧(q=a∨sn q=true):=fun q h=>by
  have hq:q=a∨sn q=true:=by
   induction h with
   | base=>exact .inl rfl
   | step _ h1 h2 h3 ih =>
    rcases c.cl _ ih with h | h
    ·cases h
    ·exact .inr (h.2 _ h2 h3 h1)
  rcases c.cl _ hq with h | h
  ·cases h
  ·exact ⟨h,hq⟩
 rw [(key q hr).1.1] at hb
 cases hb
structure CI (T:Nat→Nat→Bool) (a b m N k:Nat) (Q:List Nat) (sn:Nat→Bool):Prop where
 k1:1≤k
 k2:k≤1000
 rc:∀ q∈Q,RT T a q
 sr:∀ k,sn k=true→RT T a k
 sb:sn b=false
 rm:RT T a m
 nb:∀ j,1≤j→j<k→T m j=true→sn j=true
 nt:b<k→T m b=false
 cl:∀ k,k=a∨sn k=true→k∈Q∨k=m∨Cd T b sn k
 ms:2 * unsn sn+Q.length≤N
theorem CQ.pop {T:Nat→Nat→Bool} {a b m:Nat} {Q:List Nat} {sn:Nat→Bool} (c:CQ T a b (m :: Q) sn) (hb:1≤b):CI T a b m (2 * unsn sn+Q.length) 1 Q sn :=
 ⟨Nat.le_refl _,by decide,fun q hq=>c.rc q (by simp [hq]),c.sr,c.sb,c.rc m (by simp),fun j h1 h2=>by omega,fun h=>by omega,fun k hk=>by
  rcases c.cl k hk with h | h
  ·rcases List.mem_cons.1 h with h | h
   ·exact .inr (.inl h)
   ·exact .inl h
  ·exact .inr (.inr h),Nat.le_refl _⟩
theorem CI.skip {T:Nat→Nat→Bool} {a b m N k:Nat} {Q:List Nat} {sn:Nat→Bool} (c:CI T a b m N k Q sn) (hk:k<1000) (h:T m k=false∨sn k=true):CI T a b m N (k+1) Q sn :=
 ⟨by omega,hk,c.rc,c.sr,c.sb,c.rm,fun j h1 h2 h3=>by
  by_cases e:j=k
  ·subst e
   rcases h with h | h
   ·rw [h] at h3;cases h3
   ·exact h
  ·exact c.nb j h1 (by omega) h3,fun h2=>by
  by_cases e:b=k
  ·subst e
   rcases h with h | h
   ·exact h
   ·rw [c.sb] at h;cases h
  ·exact c.nt (by omega),c.cl,c.ms⟩
theorem CI.push {T:Nat→Nat→Bool} {a b m N k:Nat} {Q:List Nat} {sn:Nat→Bool} (c:CI T a b m N k Q sn) (hk:k<1000) (h1:T m k=true) (h2:sn k=false) (h3:k≠b):CI T a b m N (k+1) (Q++[k]) (upB sn k true):=by
 have hr:RT T a k:=.step c.rm h1 c.k1 hk
 have hu:∀ j,sn j=true→upB sn k true j=true:=fun j hj=>by
  unfold upB;split
  ·rfl
  ·exact hj
 have hi:∀ j,upB sn k true j=true→j=k∨sn j=true:=fun j hj=>by
  unfold upB at hj
  by_cases e:j=k
  ·exact .inl e
  ·rw [if_neg e] at hj;exact .inr hj
 refine ⟨by omega,hk,fun q hq => ?_,fun j hj => ?_,by unfold upB;rw [if_neg (fun e=>h3 e.symm)];exact c.sb,c.rm,fun j g1 g2 g3 => ?_,fun g=>c.nt (by omega),fun j hj => ?_,?_⟩
 ·rcases List.mem_append.1 hq with hq | hq
  ·exact c.rc q hq
  ·rw [List.mem_singleton] at hq;subst hq;exact hr
 ·rcases hi j hj with e | e
  ·subst e;exact hr
  ·exact c.sr j e
 ·by_cases e:j=k
  ·subst e;unfold upB;rw [if_pos rfl]
  ·exact hu j (c.nb j g1 (by omega) g3)
 ·have old:j=a∨sn j=true→j∈Q++[k]∨j=m∨Cd T b (upB sn k true) j:=fun h=>by
   rcases c.cl j h with h | h | h
   ·exact .inl (List.mem_append_left _ h)
   ·exact .inr (.inl h)
   ·exact .inr (.inr h.up)
  rcases hj with hj | hj
  ·exact old (.inl hj)
  ·rcases hi j hj with e | e
   ·subst e;exact .inl (by simp)
   ·exact old (.inr e)
 ·have:=unsn_up hk h2
  have:=c.ms
  rw [List.length_append]
  simp
  omega
theorem CI.fin {T:Nat→Nat→Bool} {a b m N:Nat} {Q:List Nat} {sn:Nat→Bool} (c:CI T a b m N 1000 Q sn) (hb:b<1000):CQ T a b Q sn :=
 ⟨c.rc,c.sr,c.sb,fun k hk=>by
  rcases c.cl k hk with h | h | h
  ·exact .inl h
  ·subst h;exact .inr ⟨c.nt hb,fun j h1 h2 h3=>c.nb j h1 h2 h3⟩
  ·exact .inr h⟩
theorem CI.yes {T:Nat→Nat→Bool} {a b m N k:Nat} {Q:List Nat} {sn:Nat→Bool} (c:CI T a b m N k Q sn) (h:T m b=true):CM T a b:=⟨m,c.rm,h⟩
end Go.Dr.T
