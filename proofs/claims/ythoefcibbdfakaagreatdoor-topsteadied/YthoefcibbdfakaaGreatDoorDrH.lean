/- The door: ways that meet again: what comes behind is walked once. Slots that hold nothing in the state that is named there are forgotten. -/
import Derived.Test.YthoefcibbdfakaaGreatDoorDrF
namespace Go.Dr
variable {F:Nat→Option Fc} {md:Nat→Nat} {ro:Nat}
def bAt:List Bool→Nat→Bool
 | [],_=>false
 | b :: _,0=>b
 | _ :: l,n+1=>bAt l n
def bClr:List Bool→Nat→List Bool
 | [],_=>[]
 | _ :: l,0=>false :: l
 | b :: l,n+1=>b :: bClr l n
theorem Ql1:∀ (S:List Bool) (n i:Nat),bAt (bClr S n) i=true→bAt S i=true∧i≠n
 | [],_,_,h=>by simp [bClr,bAt] at h
 | b :: l,0,0,h=>by simp [bClr,bAt] at h
 | b :: l,0,i+1,h=>⟨by simpa [bClr,bAt] using h,by omega⟩
 | b :: l,n+1,0,h=>⟨by simpa [bClr,bAt] using h,by omega⟩
 | b :: l,n+1,i+1,h=>by
  have:=Ql1 l n i (by simpa [bClr,bAt] using h)
  exact ⟨by simpa [bAt] using this.1,by omega⟩
def Agree (S:List Bool) (t1 t2:List V):Prop:=t1.length=t2.length∧∀ i,bAt S i=false→tg t1 i=tg t2 i
def SubB (S T:List Bool):Prop:=∀ i,bAt S i=true→bAt T i=true
theorem SubB.refl (S:List Bool):SubB S S:=fun _ h=>h
theorem SubB.trans {S T U:List Bool} (h:SubB S T) (h' : SubB T U):SubB S U:=fun i hi=>h' i (h i hi)
theorem Agree.mono {S T:List Bool} {t1 t2:List V} (h:Agree S t1 t2) (hs:SubB S T):Agree T t1 t2 :=
 ⟨h.1,fun i hi=>h.2 i (by
  cases e:bAt S i with
  | false=>rfl
  | true=>rw [hs i e] at hi;cases hi)⟩
def Qpw (S:List Bool) (r:G):Bool:=r.reads.all fun s => !bAt S s
def okD (S:List Bool) (d:Option Nat):List Bool :=
 match d with
 | some d=>bClr S d
 | none=>S
def Q46:List Bool→List G→Option (List Bool)
 | S,[]=>some S
 | S,r :: l=>if Qpw S r then Q46 (okD S r.d) l else none
def okO (S:List Bool) (x:O):Bool:=(oSlots [x]).all fun s => !bAt S s
def okC:MC→List Bool→Option (List Bool)
 | .skip,S | .exit _,S | .ret,S=>some S
 | .reg _ _ ops,S=>Q46 S ops
 | .seq a b,S=>match okC a S with
  | some T=>okC b T
  | none=>none
 | .cond x a b,S=>if okO S x then (match okC a S with
  | some _=>(match okC b S with
   | some _=>some S
   | none=>none)
  | none=>none) else none
 | .block _ c,S=>match okC c S with
  | some _=>some S
  | none=>none
 | _,_=>none
theorem Q63:∀ (l:List V) (n:Nat) (v:V),(tset l n v).length=l.length
 | [],_,_=>rfl
 | _ :: _,0,_=>rfl
 | x :: l,n+1,v=>by simp [tset,Q63 l n v]
theorem Q6j:∀ (l:List V) (n i:Nat) (v:V),tg (tset l n v) i=if i=n∧n<l.length then v else tg l i
 | [],n,i,v=>by simp [tset]
 | x :: l,0,0,v=>by simp [tset,tg]
 | x :: l,0,i+1,v=>by simp [tset,tg]
 | x :: l,n+1,0,v=>by simp [tset,tg]
 | x :: l,n+1,i+1,v=>by simp [tset,tg,Q6j l n i v]
theorem Qby {S:List Bool} {t1 t2:List V} (h:Agree S t1 t2) (d:Option Nat) (v:V):Agree (okD S d) (dput d t1 v) (dput d t2 v):=by
 cases d with
 | none=>exact h
 | some d =>
  refine ⟨by simp only [dput,Q63];exact h.1,fun i hi => ?_⟩
  simp only [dput,okD] at hi ⊢
  rw [Q6j,Q6j,h.1]
  by_cases e:i=d∧d<t2.length
  ·rw [if_pos e,if_pos e]
  ·rw [if_neg e,if_neg e]
   by_cases e2:i=d
   ·subst e2
    have key:∀ (t:List V) (i:Nat),t.length≤i→tg t i = .dead:=by
     intro t
     induction t with
     | nil=>intro i _;rfl
     | cons x l ih=>intro i hi;cases i with
      | zero=>simp at hi
      | succ i=>simp only [tg];exact ih i (by simpa using hi)
    rw [key t1 i (by have:=h.1;omega),key t2 i (by omega)]
   ·refine h.2 i ?_
    cases e3:bAt S i with
    | false=>rfl
    | true =>
     have:∀ (S:List Bool) (d i:Nat),i≠d→bAt (bClr S d) i=bAt S i:=by
      intro S
      induction S with
      | nil=>intros;rfl
      | cons b l ih=>intro d i hne;cases d <;> cases i <;> simp only [bClr,bAt] <;> first | (exact absurd rfl hne) | rfl | (exact ih _ _ (by omega))
     rw [this S d i e2,e3] at hi;cases hi
theorem Q5t {S:List Bool} {t1 t2:List V} {r:G} (h:Agree S t1 t2) (hr:Qpw S r=true):Sees t1 t2 r:=by
 intro s hs
 refine h.2 s ?_
 simp only [Qpw,List.all_eq_true] at hr
 simpa using hr s hs
theorem Qcf (S:List Bool) (d:Option Nat):SubB (okD S d) S:=by
 cases d with
 | none=>exact SubB.refl S
 | some d=>exact fun i hi=>(Ql1 S d i hi).1
theorem Qb1 {oc:Orc} {base:Nat}:∀ {l:List G} {S T:List Bool} {t1 t2:List V} {h:List B} {r:List V × List B},Q46 S l=some T→Agree S t1 t2→Q28 oc ro base l t1 h=some r →
  SubB T S∧∃ t2', Q28 oc ro base l t2 h=some (t2', r.2)∧Agree T r.1 t2'
 | [],S,T,t1,t2,h,r,ho,ha,e=>by
  simp only [Q46,Option.some.injEq] at ho
  simp only [Q28,Option.some.injEq] at e
  subst ho e
  exact ⟨SubB.refl _,t2,rfl,ha⟩
 | g :: l,S,T,t1,t2,h,r,ho,ha,e=>by
  simp only [Q46] at ho
  split at ho <;> (try (cases ho;done))
  rename_i hrow
  simp only [Q28] at e ⊢
  rw [Qbd] at e ⊢
  rw [← Q4y (Q5t ha hrow)]
  cases hv:evV oc ro base t1 h g with
  | none=>rw [hv] at e;simp at e
  | some q =>
   rw [hv] at e
   simp only [Option.map_some] at e ⊢
   obtain ⟨h1,t2', h2,h3⟩:=Qb1 ho (Qby ha g.d q.1) e
   exact ⟨h1.trans (Qcf S g.d),t2', h2,h3⟩
theorem Q8t {oc:Orc} {base:Nat}:∀ {l:List G} {i:Nat} {seen:List (Nat × Fp)} {S T:List Bool} {t1 t2:List V} {h:List B} {r:List V × List B},Q46 S l=some T→Agree S t1 t2→Q1b md oc ro base i seen l t1 h=some r →
  SubB T S∧∃ t2', Q1b md oc ro base i seen l t2 h=some (t2', r.2)∧Agree T r.1 t2'
 | [],i,seen,S,T,t1,t2,h,r,ho,ha,e=>by
  simp only [Q46,Option.some.injEq] at ho
  simp only [Q1b,Option.some.injEq] at e
  subst ho e
  exact ⟨SubB.refl _,t2,rfl,ha⟩
 | g :: l,i,seen,S,T,t1,t2,h,r,ho,ha,e=>by
  simp only [Q46] at ho
  split at ho <;> (try (cases ho;done))
  rename_i hrow
  simp only [Q1b] at e ⊢
  rw [← Q41 (md:=md) (base:=base) (Q5t ha hrow)]
  split at e <;> (try (cases e;done))
  rename_i hf
  simp only [hf,if_true]
  rw [Qbd] at e ⊢
  rw [← Q4y (Q5t ha hrow)]
  cases hv:evV oc ro base t1 h g with
  | none=>rw [hv] at e;simp at e
  | some q =>
   rw [hv] at e
   simp only [Option.map_some] at e ⊢
   obtain ⟨h1,t2', h2,h3⟩:=Q8t ho (Qby ha g.d q.1) e
   exact ⟨h1.trans (Qcf S g.d),t2', h2,h3⟩
theorem Qif:∀ {c:MC} {S T:List Bool},okC c S=some T→SubB T S:=by
 intro c
 induction c with
 | skip=>intro S T h;cases h;exact SubB.refl _
 | exit i=>intro S T h;cases h;exact SubB.refl _
 | ret=>intro S T h;cases h;exact SubB.refl _
 | reg d na ops =>
  intro S T h
  simp only [okC] at h
  have k:∀ {l:List G} {S T:List Bool},Q46 S l=some T→SubB T S:=by
   intro l
   induction l with
   | nil=>intro S T h;cases h;exact SubB.refl _
   | cons g l ih =>
    intro S T h
    simp only [Q46] at h
    split at h <;> (try (cases h;done))
    exact (ih h).trans (Qcf S g.d)
  exact k h
 | seq a b iha ihb =>
  intro S T h
  simp only [okC] at h
  split at h <;> (try (cases h;done))
  rename_i U hU
  exact (ihb h).trans (iha hU)
 | cond x a b _ _ =>
  intro S T h
  simp only [okC] at h
  split at h <;> (try (cases h;done))
  split at h <;> (try (cases h;done))
  split at h <;> (try (cases h;done))
  cases h;exact SubB.refl _
 | block i c _ =>
  intro S T h
  simp only [okC] at h
  split at h <;> (try (cases h;done))
  cases h;exact SubB.refl _
 | loop c _=>intro S T h;simp [okC] at h
 | lp m hl c _=>intro S T h;simp [okC] at h
 | kn k f=>intro S T h;simp [okC] at h
 | rf x ps a b _ _=>intro S T h;simp [okC] at h
theorem Q2p:∀ {n:Nat} {c:MC} {S T:List Bool} {t1 t2:List V} {h:List B} {x:X} {s:St},okC c S=some T→Agree S t1 t2→run F md n ro c ⟨t1,h⟩=some (x,s) →
  SubB T S∧∃ t2', run F md n ro c ⟨t2,h⟩=some (x,⟨t2', s.h⟩)∧Agree S s.tm t2' ∧ (x = .nrm→Agree T s.tm t2')
 | 0,_,_,_,_,_,_,_,_,_,_,e=>by simp [run] at e
 | n+1,c,S,T,t1,t2,h,x,s,ho,ha,e=>by
  cases c with
  | skip =>
   simp only [okC,Option.some.injEq] at ho;subst ho
   rw [run] at e ⊢
   cases e;exact ⟨SubB.refl _,t2,rfl,ha,fun _=>ha⟩
  | exit i =>
   simp only [okC,Option.some.injEq] at ho;subst ho
   rw [run] at e ⊢
   cases e;exact ⟨SubB.refl _,t2,rfl,ha,fun _=>ha⟩
  | ret =>
   simp only [okC,Option.some.injEq] at ho;subst ho
   rw [run] at e ⊢
   cases e;exact ⟨SubB.refl _,t2,rfl,ha,fun _=>ha⟩
  | reg draw na ops =>
   simp only [okC] at ho
   rw [run] at e ⊢
   simp only at e ⊢
   split at e
   ·cases e
   ·rename_i tm' h' hq
    cases e
    cases draw with
    | true =>
     simp only [if_true] at hq ⊢
     obtain ⟨h1,t2', h2,h3⟩:=Q8t ho ha hq
     rw [h2];exact ⟨h1,t2', rfl,h3.mono h1,fun _=>h3⟩
    | false =>
     simp only [Bool.false_eq_true,if_false] at hq ⊢
     obtain ⟨h1,t2', h2,h3⟩:=Qb1 ho ha hq
     rw [h2];exact ⟨h1,t2', rfl,h3.mono h1,fun _=>h3⟩
  | seq a b =>
   simp only [okC] at ho
   split at ho <;> (try (cases ho;done))
   rename_i U hU
   rw [run] at e ⊢
   cases ha1:run F md n ro a ⟨t1,h⟩ with
   | none=>rw [ha1] at e;simp at e
   | some q =>
    obtain ⟨x1,s1⟩:=q
    rw [ha1] at e
    obtain ⟨h1,t2', h2,h3,h4⟩:=Q2p hU ha ha1
    rw [h2]
    cases x1 with
    | nrm =>
     simp only at e ⊢
     obtain ⟨k1,t3,k2,k3,k4⟩:=Q2p (t1:=s1.tm) (h:=s1.h) ho (h4 rfl) e
     exact ⟨k1.trans h1,t3,k2,k3.mono h1,k4⟩
    | exit i =>
     simp only [Option.some.injEq,Prod.mk.injEq] at e
     obtain ⟨rfl,rfl⟩:=e
     exact ⟨(Qif ho).trans h1,t2', rfl,h3,fun h=>by cases h⟩
    | ret =>
     simp only [Option.some.injEq,Prod.mk.injEq] at e
     obtain ⟨rfl,rfl⟩:=e
     exact ⟨(Qif ho).trans h1,t2', rfl,h3,fun h=>by cases h⟩
  | cond y a b =>
   simp only [okC] at ho
   split at ho <;> (try (cases ho;done))
   rename_i hy
   split at ho <;> (try (cases ho;done))
   rename_i A hA
   split at ho <;> (try (cases ho;done))
   rename_i B hB
   cases ho
   have hev:y.ev t1=y.ev t2:=Qf0 fun s hs=>ha.2 s (by
    simp only [okO,List.all_eq_true] at hy
    simpa using hy s hs)
   rw [run] at e ⊢
   simp only [hev] at e ⊢
   split at e
   ·rename_i t ht
    cases t with
    | true =>
     simp only [if_true] at e
     obtain ⟨h1,t2', h2,h3,h4⟩:=Q2p hA ha e
     exact ⟨SubB.refl _,t2', by simp only [if_true];exact h2,h3,fun h=>(h4 h).mono h1⟩
    | false =>
     simp only [Bool.false_eq_true,if_false] at e
     obtain ⟨h1,t2', h2,h3,h4⟩:=Q2p hB ha e
     exact ⟨SubB.refl _,t2', by simp only [Bool.false_eq_true,if_false];exact h2,h3,fun h=>(h4 h).mono h1⟩
   ·cases e
  | block i c =>
   simp only [okC] at ho
   split at ho <;> (try (cases ho;done))
   rename_i U hU
   cases ho
   rw [run] at e ⊢
   cases ha1:run F md n ro c ⟨t1,h⟩ with
   | none=>rw [ha1] at e;simp at e
   | some q =>
    obtain ⟨x1,s1⟩:=q
    rw [ha1] at e
    obtain ⟨h1,t2', h2,h3,h4⟩:=Q2p hU ha ha1
    rw [h2]
    cases x1 with
    | nrm=>simp only [Option.some.injEq,Prod.mk.injEq] at e;obtain ⟨rfl,rfl⟩:=e;exact ⟨SubB.refl _,t2', rfl,h3,fun _=>h3⟩
    | ret=>simp only [Option.some.injEq,Prod.mk.injEq] at e;obtain ⟨rfl,rfl⟩:=e;exact ⟨SubB.refl _,t2', rfl,h3,fun _=>h3⟩
    | exit j =>
     simp only at e ⊢
     by_cases hj:j=i
     ·simp only [hj,if_true] at e ⊢
      cases e;exact ⟨SubB.refl _,t2', rfl,h3,fun _=>h3⟩
     ·simp only [hj,if_false] at e ⊢
      cases e;exact ⟨SubB.refl _,t2', rfl,h3,fun _=>h3⟩
  | loop c=>simp [okC] at ho
  | lp m hl c=>simp [okC] at ho
  | kn k f=>simp [okC] at ho
  | rf y ps a b=>simp [okC] at ho
def Qcc (S:List Bool):List RV→Bool
 | []=>true
 | .tmp t :: l => !bAt S t && Qcc S l
 | .cell a _ _ :: l => !bAt S a && Qcc S l
theorem Q34 {S:List Bool} {t1 t2:List V} {h:List B} (ha:Agree S t1 t2):∀ {l:List RV},Qcc S l=true→results ⟨t1,h⟩ l=results ⟨t2,h⟩ l
 | [],_=>rfl
 | .tmp t :: l,hr=>by
  simp only [Qcc,Bool.and_eq_true,Bool.not_eq_true'] at hr
  simp only [results,ha.2 t hr.1,Q34 ha hr.2]
 | .cell a _ _ :: l,hr=>by
  simp only [Qcc,Bool.and_eq_true,Bool.not_eq_true'] at hr
  simp only [results,ha.2 a hr.1,Q34 ha hr.2]
theorem Qau {S:List Bool} {t1 t2:List V} {h:List B} (ha:Agree S t1 t2) {l:List RV} (hr:Qcc S l=true):Q0n ⟨t1,h⟩ l=Q0n ⟨t2,h⟩ l:=by
 unfold Q0n;rw [Q34 ha hr]
def Q3x (n:Nat) (live:List Nat):List Bool:=(List.range n).map fun i => !live.contains i
theorem Ql0:∀ (l:List Bool) (i:Nat),bAt l i=(l[i]?).getD false
 | [],_=>by simp [bAt]
 | b :: l,0=>rfl
 | b :: l,i+1=>by simp only [bAt,Ql0 l i,List.getElem?_cons_succ]
theorem Q9n {n:Nat} {live:List Nat} {i:Nat} (h:bAt (Q3x n live) i=false):i∈live∨n≤i:=by
 by_cases hi:i<n
 ·rw [Ql0] at h
  simp only [Q3x,List.getElem?_map,List.getElem?_range hi,Option.map_some,Option.getD_some,Bool.not_eq_false', List.contains_eq_mem,decide_eq_true_eq] at h
  exact .inl h
 ·exact .inr (by omega)
def Qji:List (Nat × V)→List V→Prop
 | [],_=>True
 | (i,v) :: l,tm=>tg tm i=v∧Qji l tm
theorem Qdx:∀ (us:List (Nat × V)) (tm:List V),(upds tm us).length=tm.length
 | [],_=>rfl
 | (i,v) :: l,tm=>by simp only [upds,Qdx l,Q63]
theorem Q7y:∀ (us:List (Nat × V)) (tm:List V) (i:Nat),i ∉ us.map Prod.fst→tg (upds tm us) i=tg tm i
 | [],_,_,_=>rfl
 | (j,v) :: l,tm,i,h=>by
  simp only [List.map_cons,List.mem_cons,not_or] at h
  simp only [upds]
  rw [Q7y l _ i h.2,Q6j,if_neg (fun e=>h.1 e.1)]
theorem Q7z:∀ {us:List (Nat × V)} {tm s:List V} {i:Nat},Qji us s→i∈us.map Prod.fst→i<tm.length→tg (upds tm us) i=tg s i
 | [],_,_,_,_,h,_=>by simp at h
 | (j,v) :: l,tm,s,i,hu,h,hl=>by
  simp only [upds]
  by_cases hi:i∈l.map Prod.fst
  ·exact Q7z hu.2 hi (by rw [Q63];exact hl)
  ·simp only [List.map_cons,List.mem_cons] at h
   obtain rfl:i=j:=h.resolve_right hi
   rw [Q7y l _ i hi,Q6j,if_pos ⟨rfl,hl⟩];exact hu.1.symm
theorem Q7g:∀ n,(Q14 n).length=n
 | 0=>rfl
 | n+1=>by simp [Q14,Q7g n]
theorem Qhp:∀ {t:List V} {i:Nat},t.length≤i→tg t i = .dead
 | [],_,_=>rfl
 | x :: l,0,h=>by simp at h
 | x :: l,i+1,h=>by simp only [tg];exact Qhp (by simpa using h)
inductive Meet (n:Nat) (s:St) (us:List (Nat × V)) (h:List B):Prop where
 | mk:s.tm.length=n→Qji us s.tm→s.h=h→Meet n s us h
theorem Meet.agree {n:Nat} {s:St} {us:List (Nat × V)} {h:List B} {live:List Nat} (hm:Meet n s us h) (hl:us.map Prod.fst=live) (hn:live.all (fun i=>decide (i<n))=true):Agree (Q3x n live) (upds (Q14 n) us) s.tm:=by
 obtain ⟨h1,h2,_⟩:=hm
 have e:(upds (Q14 n) us).length=n:=by rw [Qdx,Q7g]
 refine ⟨e.trans h1.symm,fun i hi => ?_⟩
 rcases Q9n hi with h | h
 ·simp only [List.all_eq_true,decide_eq_true_eq] at hn
  exact Q7z h2 (by rw [hl];exact h) (by rw [Q7g];exact hn i h)
 ·rw [Qhp (by rw [e];exact h),Qhp (by rw [h1];exact h)]
inductive EndsC (F:Nat→Option Fc) (md:Nat→Nat) (ro:Nat) (c:MC) (st:St) (Q:X→St→Prop):Prop where
 | mk:Qdm F md ro c st Q→EndsC F md ro c st Q
theorem EndsC.wp {c:MC} {st:St} {Q:X→St→Prop} (h:Dr.wp F md ro c st Q):EndsC F md ro c st Q:=⟨Q7s h⟩
theorem Qf6 {a b:MC} {st:St} {Q:X→St→Prop} {P:X→St→Prop} (ha:Qdm F md ro a st P) (hp:∀ x s,P x s→match x with
  | .nrm=>Qdm F md ro b s Q
  | x=>Q x s):Qdm F md ro (.seq a b) st Q:=by
 obtain ⟨n,x,s,h1,h2⟩:=ha
 have h2:=hp x s h2
 cases x with
 | nrm =>
  obtain ⟨n2,x2,s2,h3,h4⟩:=h2
  refine ⟨max n n2+1,x2,s2,fun m hm => ?_,h4⟩
  cases m with
  | zero=>omega
  | succ m=>simp only [run,h1 m (by omega)];exact h3 m (by omega)
 | exit i =>
  refine ⟨n+1,_,s,fun m hm => ?_,h2⟩
  cases m with
  | zero=>omega
  | succ m=>simp only [run,h1 m (by omega)]
 | ret =>
  refine ⟨n+1,_,s,fun m hm => ?_,h2⟩
  cases m with
  | zero=>omega
  | succ m=>simp only [run,h1 m (by omega)]
theorem EndsC.seq {a b:MC} {st:St} {Q:X→St→Prop} (ha:Dr.wp F md ro a st fun x s=>match x with
  | .nrm=>EndsC F md ro b s Q
  | x=>Q x s):EndsC F md ro (.seq a b) st Q:=⟨Qf6 (Q7s ha) fun x _ h=>match x,h with
  | .nrm,h=>h.1
  | .exit _,h=>h
  | .ret,h=>h⟩
theorem EndsC.cut {a b:MC} {st:St} {res:List RV} {v:V} (n:Nat) (live:List Nat) (us:List (Nat × V)) (hs:List B) (hl:us.map Prod.fst=live) (hn:live.all (fun i=>decide (i<n))=true) (hok:(okC b (Q3x n live)).isSome=true) (hres:Qcc (Q3x n live) res=true)
  (ha:Dr.wp F md ro a st fun x s=>match x with
   | .nrm=>Meet n s us hs
   | x=>Leaves res v x s)
  (hb:fV (upds (Q14 n) us) fun tm' => fB hs fun h' => EndsC F md ro b ⟨tm', h'⟩ (Leaves res v)):EndsC F md ro (.seq a b) st (Leaves res v):=by
 have hb:=(Q1j.1 (Q1x.1 hb)).1
 refine ⟨Qf6 (Q7s ha) fun x s hx => ?_⟩
 cases x with
 | nrm =>
  obtain ⟨n0,x2,s2,h3,h4⟩:=hb
  cases ho:okC b (Q3x n live) with
  | none=>rw [ho] at hok;cases hok
  | some T =>
   have hag:=hx.agree hl hn
   obtain ⟨_,_,h2⟩:=hx
   refine ⟨n0,x2,?_⟩
   obtain ⟨_,t2', k2,k3,_⟩:=Q2p ho hag (h3 n0 (Nat.le_refl n0))
   refine ⟨⟨t2', s2.h⟩,fun m hm => ?_,?_⟩
   ·rw [show s=⟨s.tm,hs⟩ by rw [← h2]]
    exact Q1u hm _ _ _ _ k2
   ·obtain ⟨v0,l1,l2,l3⟩:=h4
    exact ⟨v0,l1,by rw [← Qau k3 hres];exact l2,l3⟩
 | exit i=>exact hx
 | ret=>exact hx
end Go.Dr
