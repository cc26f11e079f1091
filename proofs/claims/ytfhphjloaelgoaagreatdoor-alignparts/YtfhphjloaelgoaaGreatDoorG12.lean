/- Chapter 06: breadth first, by ways: the program's search with a map of predecessors gives what a search with whole ways gives. -/
import Derived.Test.YtfhphjloaelgoaaGreatDoorG11
namespace Go.Dr.T
def fresh (g:Int→List Int) (a ab:Int) (sn:List Int) (q:Int):List Int:=(g q).filter fun k=>decide (k ∉ sn∧ab<k∧k≠a)
def pgo (g:Int→List Int) (a t ab:Int):Nat→List (List Int)→List Int→Option (Option (List Int))
 | 0,_,_=>none
 | _+1,[],_=>some none
 | n+1,p :: ps,sn=>if t∈g (lastM p) then some (some p) else pgo g a t ab n (ps++(fresh g a ab sn (lastM p)).map fun k=>p++[k]) (sn++fresh g a ab sn (lastM p))
theorem fold_stQ {a ab q:Int}:∀ {L:List Int} {bf:List (Int × Int)},L.Nodup→L.foldl (stQ a ab q) bf=bf++(L.filter fun k=>decide (k ∉ bf.map (·.1)∧ab<k∧k≠a)).map fun k=>(k,q)
 | [],bf,_=>by simp
 | k :: L,bf,nd=>by
  rw [List.nodup_cons] at nd
  rw [List.foldl_cons,List.filter_cons]
  by_cases h:k ∉ bf.map (·.1)∧ab<k∧k≠a
  ·rw [stQ_pos h,fold_stQ nd.2,if_pos (decide_eq_true h),List.map_cons,List.append_assoc]
   congr 1
   rw [List.singleton_append]
   congr 2
   apply List.filter_congr
   intro x hx
   rw [decide_eq_decide,List.map_append,List.mem_append]
   have:¬ x=k:=fun e=>nd.1 (e ▸ hx)
   simp [this]
  ·rw [stQ_neg h,fold_stQ nd.2,if_neg (by simpa using h)]
theorem chain_up {a:Int} {bf:List (Int × Int)}:∀ {n:Nat} {k:Int} {cs:List Int},chain a bf n k=some cs→chain a bf (n+1) k=some cs
 | 0,k,cs,h=>by
  unfold chain at h ⊢
  split at h
  ·rename_i hk;rw [if_pos hk];exact h
  ·cases h
 | n+1,k,cs,h=>by
  rw [chain] at h ⊢
  split at h
  ·rename_i hk;rw [if_pos hk];exact h
  ·rename_i hk
   rw [if_neg hk]
   cases hl:lkp bf k with
   | none=>rw [hl] at h;cases h
   | some p =>
    rw [hl] at h
    dsimp only at h ⊢
    cases hc:chain a bf n p with
    | none=>rw [hc] at h;cases h
    | some r=>rw [hc] at h;rw [chain_up hc];exact h
theorem chain_le {a:Int} {bf:List (Int × Int)} {n m:Nat} {k:Int} {cs:List Int} (h:chain a bf n k=some cs) (hm:n≤m):chain a bf m k=some cs:=by
 obtain ⟨d,rfl⟩:=Nat.le.dest hm
 induction d with
 | zero=>exact h
 | succ d ih=>exact chain_up (ih (by omega))
theorem lkp_app {bf e:List (Int × Int)} {k p:Int} (h:lkp bf k=some p):lkp (bf++e) k=some p:=by
 unfold lkp at h ⊢
 rw [List.find?_append]
 cases hf:bf.find? fun p=>decide (k=p.1) with
 | none=>rw [hf] at h;cases h
 | some x=>rw [hf] at h;exact h
theorem chain_app {a:Int} {bf e:List (Int × Int)}:∀ {n:Nat} {k:Int} {cs:List Int},chain a bf n k=some cs→chain a (bf++e) n k=some cs
 | 0,k,cs,h=>by
  unfold chain at h ⊢
  exact h
 | n+1,k,cs,h=>by
  rw [chain] at h ⊢
  split at h
  ·rename_i hk;rw [if_pos hk];exact h
  ·rename_i hk
   rw [if_neg hk]
   cases hl:lkp bf k with
   | none=>rw [hl] at h;cases h
   | some p =>
    rw [hl] at h
    rw [lkp_app hl]
    dsimp only at h ⊢
    cases hc:chain a bf n p with
    | none=>rw [hc] at h;cases h
    | some r=>rw [hc] at h;rw [chain_app hc];exact h
theorem lkp_new {bf:List (Int × Int)} {L:List Int} {k q:Int} (h:k ∉ bf.map (·.1)) (hk:k∈L):lkp (bf++L.map fun k=>(k,q)) k=some q:=by
 unfold lkp
 rw [List.find?_append,List.find?_eq_none.2 (fun p hp=>by
  simp only [decide_eq_true_eq]
  exact fun e=>h (e ▸ List.mem_map.2 ⟨p,hp,rfl⟩)),Option.none_or]
 induction L with
 | nil=>cases hk
 | cons x L ih =>
  rw [List.map_cons,List.find?_cons]
  by_cases e:k=x
  ·rw [decide_eq_true e];rfl
  ·rw [decide_eq_false e]
   exact ih (by rcases List.mem_cons.1 hk with h | h;exact absurd h e;exact h)
structure PW (a:Int) (bf:List (Int × Int)) (P:List (List Int)):Prop where
 ln:P.length=bf.length+1
 wy:∀ i p,P[i]?=some p→∃ q cs,(qu a bf)[i]?=some q∧lastM p=q∧chain a bf i q=some cs∧p=(cs++[a]).reverse
 nd:∀ k∈bf.map (·.1),k≠a
theorem PW.step {a:Int} {bf:List (Int × Int)} {P:List (List Int)} (w:PW a bf P) {i:Nat} {p:List Int} {q:Int} (hp:P[i]?=some p) (hq:(qu a bf)[i]?=some q) {L:List Int} (hL:∀ k∈L,k ∉ bf.map (·.1)∧k≠a):PW a (bf++L.map fun k=>(k,q)) (P++L.map fun k=>p++[k]):=by
 have hi:i<P.length:=(List.getElem?_eq_some_iff.1 hp).1
 have hqa:qu a (bf++L.map fun k=>(k,q))=qu a bf++L:=by simp only [qu,List.map_append,List.map_map,show ((fun x:Int × Int=>x.1) ∘ fun k=>(k,q))=id from rfl,List.map_id,List.cons_append]
 have hqn:(qu a bf).length=P.length:=by rw [w.ln,qu_len]
 refine ⟨by rw [List.length_append,List.length_append,List.length_map,List.length_map,w.ln];omega,fun j p' hj => ?_,fun k hk => ?_⟩
 ·by_cases hjl:j<P.length
  ·rw [List.getElem?_append_left hjl] at hj
   obtain ⟨q', cs,h1,h2,h3,h4⟩:=w.wy j p' hj
   exact ⟨q', cs,by rw [hqa,List.getElem?_append_left (by omega)];exact h1,h2,chain_app h3,h4⟩
  ·rw [List.getElem?_append_right (by omega),List.getElem?_map] at hj
   cases hk:L[j - P.length]? with
   | none=>rw [hk] at hj;cases hj
   | some k =>
    rw [hk,Option.map_some,Option.some.injEq] at hj
    subst hj
    have hkm:=List.mem_of_getElem? hk
    obtain ⟨q', cs,h1,h2,h3,h4⟩:=w.wy i p hp
    rw [h1,Option.some.injEq] at hq
    subst hq
    have hx:=hL k hkm
    refine ⟨k,k :: cs,by rw [hqa,List.getElem?_append_right (by omega),hqn];exact hk,lastM_snoc,?_,by rw [h4];simp⟩
    refine chain_le (n:=i+1) ?_ (by omega)
    rw [chain,if_neg hx.2,lkp_new hx.1 hkm]
    dsimp only
    rw [chain_app h3]
    rfl
 ·rw [List.map_append,List.mem_append] at hk
  rcases hk with hk | hk
  ·exact w.nd k hk
  ·rw [List.map_map,show ((fun x:Int × Int=>x.1) ∘ fun k=>(k,q))=id from rfl,List.map_id] at hk
   exact (hL k hk).2
theorem way_pgo {D:List PE} {a t ab:Int} (nd:∀ q,(pM D q).Nodup):∀ {n at' : Nat} {bf:List (Int × Int)} {P:List (List Int)},PW a bf P→at' ≤ P.length →
  wayGo D a t ab n at' bf=pgo (fun q=>isort (pM D q)) a t ab n (P.drop at') (bf.map (·.1))
 | 0,at', bf,P,w,h=>by rw [wayGo,pgo]
 | n+1,at', bf,P,w,h=>by
  rw [wayGo]
  have hqn:(qu a bf).length=P.length:=by rw [w.ln,qu_len]
  by_cases hat:at' < P.length
  ·rw [List.drop_eq_getElem_cons hat,pgo]
   have hp:P[at']?=some P[at']:=List.getElem?_eq_getElem hat
   generalize P[at']=p at *
   obtain ⟨q,cs,h1,h2,h3,h4⟩:=w.wy at' p hp
   rw [h1,h2]
   dsimp only
   have hm:(t∈isort (pM D q)) ↔ t∈pM D q:=(isort_perm _).mem_iff
   by_cases ht:t∈pM D q
   ·rw [if_pos ht,if_pos (hm.2 ht),chain_le h3 (by have:=w.ln;omega),h4]
    rfl
   ·rw [if_neg ht,if_neg (fun h=>ht (hm.1 h)),fold_stQ ((isort_perm _).nodup_iff.2 (nd q))]
    have hf:(isort (pM D q)).filter (fun k=>decide (k ∉ bf.map (·.1)∧ab<k∧k≠a))=fresh (fun q=>isort (pM D q)) a ab (bf.map (·.1)) q:=rfl
    rw [hf]
    have hL:∀ k∈fresh (fun q=>isort (pM D q)) a ab (bf.map (·.1)) q,k ∉ bf.map (·.1)∧k≠a:=fun k hk=>by
     have:=(List.mem_filter.1 hk).2
     simp only [decide_eq_true_eq] at this
     exact ⟨this.1,this.2.2⟩
    rw [way_pgo nd (w.step hp h1 hL) (by rw [List.length_append];omega)]
    congr 1
    ·rw [List.drop_append_of_le_length (by omega)]
    ·rw [List.map_append,List.map_map,show ((fun x:Int × Int=>x.1) ∘ fun k=>(k,q))=id from rfl,List.map_id]
  ·rw [List.drop_eq_nil_of_le (by omega),pgo,List.getElem?_eq_none (by omega)]
theorem way_start {D:List PE} {a t ab:Int} (nd:∀ q,(pM D q).Nodup) {n:Nat}:wayGo D a t ab n 0 []=pgo (fun q=>isort (pM D q)) a t ab n [[a]] [] :=
 way_pgo (P:=[[a]]) nd ⟨rfl,(fun i p hp=>by
  cases i with
  | zero=>rw [List.getElem?_cons_zero,Option.some.injEq] at hp;subst hp;exact ⟨a,[],rfl,rfl,by rw [chain,if_pos rfl],rfl⟩
  | succ i =>
   rw [List.getElem?_cons_succ,List.getElem?_nil] at hp
   cases hp),fun k hk=>by cases hk⟩ (Nat.zero_le _)
theorem pgo_ends {g:Int→List Int} {a t ab:Int} {U:List Int} (hg:∀ q,(g q).Nodup∧∀ k∈g q,k∈U):∀ {n:Nat} {Q:List (List Int)} {sn:List Int},sn.Nodup→(∀ k∈sn,k∈U)→Q.length+U.length<n+sn.length→∃ r,pgo g a t ab n Q sn=some r
 | 0,Q,sn,nd,hs,h=>by
  have:=List.Nodup.length_le_of_subset nd hs
  omega
 | n+1,[],sn,nd,hs,h=>⟨none,by rw [pgo]⟩
 | n+1,p :: ps,sn,nd,hs,h=>by
  rw [pgo]
  split
  ·exact ⟨_,rfl⟩
  ·have hf:∀ k∈fresh g a ab sn (lastM p),k ∉ sn∧k∈U:=fun k hk=>by
    have:=List.mem_filter.1 hk
    simp only [decide_eq_true_eq] at this
    exact ⟨this.2.1,(hg _).2 k this.1⟩
   refine pgo_ends hg ?_ ?_ ?_
   ·rw [List.nodup_append]
    exact ⟨nd,(hg _).1.filter _,fun x hx y hy e=>(hf y hy).1 (e ▸ hx)⟩
   ·intro k hk
    rcases List.mem_append.1 hk with hk | hk
    ·exact hs k hk
    ·exact (hf k hk).2
   ·simp only [List.length_append,List.length_map,List.length_cons] at h ⊢
    omega
theorem pgo_ne {g:Int→List Int} {a t ab:Int}:∀ {n:Nat} {Q:List (List Int)} {sn:List Int} {p:List Int},(∀ p∈Q,p≠[])→pgo g a t ab n Q sn=some (some p)→p≠[]
 | 0,Q,sn,p,hq,h=>by rw [pgo] at h;cases h
 | n+1,[],sn,p,hq,h=>by rw [pgo] at h;cases h
 | n+1,x :: ps,sn,p,hq,h=>by
  rw [pgo] at h
  split at h
  ·rw [Option.some.injEq,Option.some.injEq] at h;subst h;exact hq _ (by simp)
  ·refine pgo_ne (fun y hy => ?_) h
   rcases List.mem_append.1 hy with hy | hy
   ·exact hq y (by simp [hy])
   ·obtain ⟨k,_,rfl⟩:=List.mem_map.1 hy
    simp
inductive Rch (g:Int→List Int) (a ab:Int):Int→Prop
 | base:Rch g a ab a
 | step {q k:Int}:Rch g a ab q→k∈g q→ab<k→Rch g a ab k
theorem pgo_iff {g:Int→List Int} {a t ab:Int}:∀ {n:Nat} {Q:List (List Int)} {sn:List Int} {r:Option (List Int)},pgo g a t ab n Q sn=some r →
  (∀ p∈Q,Rch g a ab (lastM p))→(∀ k,k=a∨k∈sn→(∃ p∈Q,lastM p=k)∨(t ∉ g k∧∀ m∈g k,ab<m→m=a∨m∈sn))→(r.isSome=true ↔ ∃ q,Rch g a ab q∧t∈g q)
 | 0,Q,sn,r,h,_,_=>by rw [pgo] at h;cases h
 | n+1,[],sn,r,h,h1,h2=>by
  rw [pgo,Option.some.injEq] at h
  subst h
  have key:∀ q,Rch g a ab q→q=a∨q∈sn:=fun q hr=>by
   induction hr with
   | base=>exact .inl rfl
   | step _ hk hm ih =>
    rcases h2 _ ih with ⟨p,hp,_⟩ | hx
    ·cases hp
    ·exact hx.2 _ hk hm
  constructor
  ·intro h;cases h
  ·rintro ⟨q,hr,ht⟩
   rcases h2 q (key q hr) with ⟨p,hp,_⟩ | hx
   ·cases hp
   ·exact absurd ht hx.1
 | n+1,p :: ps,sn,r,h,h1,h2=>by
  rw [pgo] at h
  split at h
  ·rename_i ht
   rw [Option.some.injEq] at h
   subst h
   exact ⟨fun _=>⟨lastM p,h1 p (by simp),ht⟩,fun _=>rfl⟩
  ·rename_i ht
   refine pgo_iff h (fun x hx => ?_) (fun k hk => ?_)
   ·rcases List.mem_append.1 hx with hx | hx
    ·exact h1 x (by simp [hx])
    ·obtain ⟨k,hk,rfl⟩:=List.mem_map.1 hx
     rw [lastM_snoc]
     have:=List.mem_filter.1 hk
     simp only [decide_eq_true_eq] at this
     exact .step (h1 p (by simp)) this.1 this.2.2.1
   ·have hnew:∀ m,m∈fresh g a ab sn (lastM p)→∃ p' ∈ ps++(fresh g a ab sn (lastM p)).map (fun k=>p++[k]),lastM p' = m:=fun m hm=>⟨p++[m],List.mem_append_right _ (List.mem_map.2 ⟨m,hm,rfl⟩),lastM_snoc⟩
    have hold:k=a∨k∈sn→(∃ p' ∈ ps++(fresh g a ab sn (lastM p)).map (fun k=>p++[k]),lastM p' = k)∨(t ∉ g k∧∀ m∈g k,ab<m→m=a∨m∈sn++fresh g a ab sn (lastM p)):=fun hk=>by
     rcases h2 k hk with ⟨p', hp', e⟩ | ⟨h3,h4⟩
     ·rcases List.mem_cons.1 hp' with e1 | hp'
      ·subst e1
       subst e
       refine .inr ⟨ht,fun m hm ha => ?_⟩
       by_cases h5:m=a
       ·exact .inl h5
       ·by_cases h6:m∈sn
        ·exact .inr (List.mem_append_left _ h6)
        ·exact .inr (List.mem_append_right _ (List.mem_filter.2 ⟨hm,by simp only [decide_eq_true_eq];exact ⟨h6,ha,h5⟩⟩))
      ·exact .inl ⟨p', List.mem_append_left _ hp', e⟩
     ·exact .inr ⟨h3,fun m hm ha=>by
       rcases h4 m hm ha with h | h
       ·exact .inl h
       ·exact .inr (List.mem_append_left _ h)⟩
    rcases hk with hk | hk
    ·exact hold (.inl hk)
    ·rcases List.mem_append.1 hk with hk | hk
     ·exact hold (.inr hk)
     ·exact .inl (hnew k hk)
theorem pgo_some {g:Int→List Int} {a t ab:Int} {n:Nat} {r:Option (List Int)} (h:pgo g a t ab n [[a]] []=some r):r.isSome=true ↔ ∃ q,Rch g a ab q∧t∈g q :=
 pgo_iff h (fun p hp=>by rw [List.mem_singleton] at hp;subst hp;exact .base) (fun k hk=>.inl ⟨[a],by simp,by rcases hk with h | h;exact h.symm;cases h⟩)
end Go.Dr.T
namespace Go.Dr.T
def mks:List Int:=ofR 999
where ofR:Nat→List Int
 | 0=>[]
 | n+1=>ofR n++[((n+1:Nat):Int)]
theorem mem_ofR {k:Int}:∀ {n:Nat},k∈mks.ofR n ↔ 1≤k∧k≤n
 | 0=>by simp only [mks.ofR,List.not_mem_nil,false_iff];omega
 | n+1=>by rw [mks.ofR,List.mem_append,mem_ofR,List.mem_singleton];omega
theorem len_ofR:∀ n,(mks.ofR n).length=n
 | 0=>rfl
 | n+1=>by rw [mks.ofR,List.length_append,len_ofR];rfl
theorem srt_ofR:∀ n,(mks.ofR n).Pairwise (· < ·)
 | 0=>List.Pairwise.nil
 | n+1=>by
  rw [mks.ofR,List.pairwise_append]
  refine ⟨srt_ofR n,List.pairwise_singleton .., fun x hx y hy => ?_⟩
  rw [List.mem_singleton] at hy
  have:=(mem_ofR (n:=n)).1 hx
  omega
theorem mem_mks {k:Int}:k∈mks ↔ 1≤k∧k≤999:=mem_ofR
theorem len_mks:mks.length=999:=len_ofR 999
theorem get_ofR:∀ {n i:Nat},i<n→(mks.ofR n)[i]?=some ((i+1:Nat):Int)
 | n+1,i,h=>by
  rw [mks.ofR]
  by_cases hi:i<n
  ·rw [List.getElem?_append_left (by rw [len_ofR];exact hi)];exact get_ofR hi
  ·rw [List.getElem?_append_right (by rw [len_ofR];omega),len_ofR,show i=n by omega,Nat.sub_self];rfl
theorem isort_mks {L:List Int} (nd:L.Nodup) (h:∀ k∈L,1≤k∧k≤999):isort L=mks.filter fun k=>decide (k∈L):=by
 have s1:(mks.filter fun k=>decide (k∈L)).Pairwise (· < ·):=(srt_ofR 999).filter _
 refine List.Perm.eq_of_pairwise (le:=fun x y:Int=>x≤y) (fun a b _ _ h1 h2=>by omega) (isort_sorted L) (s1.imp (fun h=>by omega)) ?_
 refine (List.perm_ext_iff_of_nodup ((isort_perm L).nodup_iff.2 nd) (s1.imp (fun h=>by omega))).2 fun k => ?_
 rw [(isort_perm L).mem_iff,List.mem_filter,mem_mks]
 simp only [decide_eq_true_eq]
 exact ⟨fun hk=>⟨h k hk,hk⟩,fun h=>h.2⟩
structure Wg (D:List PE):Prop where
 nd:(keysOf D).Nodup
 rk:∀ k∈keysOf D,1≤k∧k≤999
 ln:∀ q,(pM D q).Nodup
 rl:∀ q,∀ k∈pM D q,1≤k∧k≤999
 kl:∀ q,∀ k∈pM D q,q∈keysOf D∧k∈keysOf D
theorem wg_all {l:List El} (h:vldE l=0):Wg (pAll l):=by
 have g:=pi_all (l:=l) (fun x hx p hp=>((vld_el h hx).2 p hp).1)
 have hm:∀ q,∀ k∈pM (pAll l) q,q∈marksOf l∧k∈marksOf l:=fun q k hk=>dirs_mem ((g.ls q k).1 hk)
 exact ⟨g.nd,fun k hk=>marks_rng h ((g.ks k).1 hk),g.ln,fun q k hk=>marks_rng h (hm q k hk).2,fun q k hk=>⟨(g.ks _).2 (hm q k hk).1,(g.ks _).2 (hm q k hk).2⟩⟩
theorem Wg.len {D:List PE} (w:Wg D):D.length≤999:=by
 have:=List.Nodup.length_le_of_subset w.nd (fun k hk=>mem_mks.2 (w.rk k hk))
 rwa [len_mks,keysOf,List.length_map] at this
theorem pM_ent {D:List PE} (nd:(keysOf D).Nodup) {e:PE} (he:e∈D):pM D e.k=e.L:=by
 obtain ⟨i,e1,h1,h2,h3,h4⟩:=pe_find nd (List.mem_map.2 ⟨e,he,rfl⟩)
 obtain ⟨e2,h5,h6,h7,h8⟩:=pM_key (F:=D) (o:=e.k) (List.mem_map.2 ⟨e,he,rfl⟩)
 have:e2=e:=by
  have key:∀ {l:List PE},(l.map (·.k)).Nodup→∀ a∈l,∀ b∈l,a.k=b.k→a=b:=by
   intro l
   induction l with
   | nil=>intro _ a ha;cases ha
   | cons x l ih =>
    intro nd a ha b hb hk
    rw [List.map_cons,List.nodup_cons] at nd
    rcases List.mem_cons.1 ha with e1 | h1 <;> rcases List.mem_cons.1 hb with e2 | h2
    ·rw [e1,e2]
    ·exact absurd (List.mem_map.2 ⟨b,h2,by rw [← hk,e1]⟩) nd.1
    ·exact absurd (List.mem_map.2 ⟨a,h1,by rw [hk,e2]⟩) nd.1
    ·exact ih nd.2 a h1 b h2 hk
  exact key nd e2 h5 e he h6
 rw [h8,this]
theorem Wg.ent {D:List PE} (w:Wg D) {e:PE} (he:e∈D):e.L.length≤999∧∀ k∈e.L,1≤k∧k≤999:=by
 have h1:=w.rl e.k
 have h2:=w.ln e.k
 rw [pM_ent w.nd he] at h1 h2
 refine ⟨?_,h1⟩
 have:=List.Nodup.length_le_of_subset h2 (fun k hk=>mem_mks.2 (h1 k hk))
 rwa [len_mks] at this
abbrev gS (D:List PE) (q:Int):List Int:=isort (pM D q)
theorem gS_mem {D:List PE} {q k:Int}:k∈gS D q ↔ k∈pM D q:=(isort_perm _).mem_iff
theorem Wg.ends {D:List PE} (w:Wg D) {a t ab:Int}:∃ r,pgo (gS D) a t ab 1002 [[a]] []=some r :=
 pgo_ends (U:=mks) (fun q=>⟨(isort_perm _).nodup_iff.2 (w.ln q),fun k hk=>mem_mks.2 (w.rl q k (gS_mem.1 hk))⟩) List.nodup_nil (fun k hk=>by cases hk) (by rw [len_mks];simp)
theorem Wg.way {D:List PE} (w:Wg D) {a t ab:Int}:pgo (gS D) a t ab 1002 [[a]] []=some (wayP D a t ab)∧wayGo D a t ab 1002 0 []=some (wayP D a t ab):=by
 obtain ⟨r,hr⟩:=w.ends (a:=a) (t:=t) (ab:=ab)
 unfold wayP
 rw [way_start w.ln,hr]
 exact ⟨rfl,rfl⟩
theorem Wg.ne {D:List PE} (w:Wg D) {a t ab:Int}:wayP D a t ab≠some []:=fun h=>by
 have:=w.way (a:=a) (t:=t) (ab:=ab)
 rw [h] at this
 exact pgo_ne (fun p hp=>by rw [List.mem_singleton] at hp;subst hp;simp) this.1 rfl
theorem Wg.iff {D:List PE} (w:Wg D) {a t ab:Int}:(wayP D a t ab).isSome=true ↔ ∃ q,Rch (gS D) a ab q∧t∈gS D q:=pgo_some w.way.1
theorem Wg.funs {D:List PE} (w:Wg D) {a t ab:Int}:Fun FB1 md 69 [gatV D,.int .i64 a,.int .i64 t,.int .i64 ab] (wayV (wayP D a t ab)) :=
 way_fun (by have:=w.len;omega) (fun e he=>by have:=(w.ent he).1;omega) (fun e he=>(w.ent he).2) w.nd w.way.2
theorem Wg.other {D:List PE} (w:Wg D) {a t ab:Int} (h:a ∉ keysOf D):wayP D a t ab=none:=by
 have h1:=(w.way (a:=a) (t:=t) (ab:=ab)).1
 have hg:gS D a=[]:=by rw [gS,pM_none h];rfl
 rw [pgo,show lastM [a]=a from rfl,hg,if_neg (by simp)] at h1
 rw [show fresh (gS D) a ab [] a=[] by unfold fresh;rw [hg];rfl] at h1
 rw [show (1001:Nat)=1000+1 from rfl,List.map_nil,List.append_nil,pgo] at h1
 exact (Option.some.inj h1).symm
theorem round_filter {w:Int→Option (List Int)} {p:Int→Bool} (h:∀ k,p k=false→w k=none):∀ (L:List Int) (b:Option (List Int)),(L.filter p).foldl (rStep w) b=L.foldl (rStep w) b
 | [],b=>rfl
 | k :: L,b=>by
  rw [List.filter_cons,List.foldl_cons]
  cases hp:p k with
  | true=>rw [if_pos rfl,List.foldl_cons];exact round_filter h L _
  | false =>
   rw [if_neg (by simp),round_filter h L b]
   congr 1
   unfold rStep
   rw [h k hp]
theorem Wg.round {D:List PE} (w:Wg D):roundP (fun k=>wayP D k k k) (isort (keysOf D))=roundP (fun k=>wayP D k k k) mks:=by
 rw [isort_mks w.nd w.rk]
 exact round_filter (fun k hk=>w.other (by simpa using hk)) mks none
theorem round_none {w:Int→Option (List Int)}:∀ {S:List Int} {b:Option (List Int)},S.foldl (rStep w) b=none→b=none∧∀ k∈S,w k=none
 | [],b,h=>⟨h,fun k hk=>by cases hk⟩
 | k :: S,b,h=>by
  rw [List.foldl_cons] at h
  obtain ⟨h1,h2⟩:=round_none h
  unfold rStep at h1
  cases hk:w k with
  | none =>
   rw [hk] at h1
   refine ⟨h1,fun x hx => ?_⟩
   rcases List.mem_cons.1 hx with rfl | hx
   ·exact hk
   ·exact h2 x hx
  | some y =>
   rw [hk] at h1
   cases b with
   | none=>simp at h1
   | some z =>
    simp only at h1
    split at h1 <;> cases h1
theorem least_of (c:Nat→Int):∀ p,∃ s,s≤p∧∀ t,t≤p→c s≤c t
 | 0=>⟨0,Nat.le_refl _,fun t ht=>by rw [show t=0 by omega];exact Int.le_refl _⟩
 | p+1=>by
  obtain ⟨s,h1,h2⟩:=least_of c p
  by_cases h:c s≤c (p+1)
  ·refine ⟨s,by omega,fun t ht => ?_⟩
   by_cases e:t=p+1
   ·rw [e];exact h
   ·exact h2 t (by omega)
  ·refine ⟨p+1,Nat.le_refl _,fun t ht => ?_⟩
   by_cases e:t=p+1
   ·rw [e];exact Int.le_refl _
   ·have:=h2 t (by omega);omega
theorem circle {g:Int→List Int} {c:Nat→Int} {p:Nat} (hc:∀ t,t<p+1→c (t+1)∈g (c t)) (h0:c (p+1)=c 0):∃ s,s≤p∧∃ q,Rch g (c s) (c s) q∧c s∈g q:=by
 obtain ⟨s,h1,h2⟩:=least_of c p
 have hy:∀ n,c ((n+1) % (p+1))=c (n % (p+1)+1):=fun n=>by
  have hl:=Nat.mod_lt n (show 0<p+1 by omega)
  rw [Nat.add_mod]
  by_cases h:n % (p+1)+1<p+1
  ·by_cases hp:p=0
   ·omega
   ·rw [Nat.mod_eq_of_lt (show 1<p+1 by omega),Nat.mod_eq_of_lt h]
  ·have e:n % (p+1)=p:=by omega
   rw [e,h0]
   by_cases hp:p=0
   ·subst hp;rfl
   ·rw [Nat.mod_eq_of_lt (show 1<p+1 by omega),Nat.mod_self]
 have key:∀ t,Rch g (c s) (c s) (c ((s+t) % (p+1))):=fun t=>by
  induction t with
  | zero=>rw [Nat.add_zero,Nat.mod_eq_of_lt (by omega)];exact .base
  | succ t ih =>
   have hl:=Nat.mod_lt (s+t) (show 0<p+1 by omega)
   have hl2:=Nat.mod_lt (s+(t+1)) (show 0<p+1 by omega)
   have hle:=h2 ((s+(t+1)) % (p+1)) (by omega)
   have hin:c ((s+(t+1)) % (p+1))∈g (c ((s+t) % (p+1))):=by
    rw [← Nat.add_assoc,hy]
    exact hc _ hl
   by_cases he:c ((s+(t+1)) % (p+1))=c s
   ·rw [he];exact .base
   ·exact .step ih hin (by omega)
 refine ⟨s,h1,_,key p,?_⟩
 have hl:=Nat.mod_lt (s+p) (show 0<p+1 by omega)
 have:=hc _ hl
 rw [← hy,show (s+p+1) % (p+1)=s by rw [Nat.add_assoc,Nat.add_mod_right,Nat.mod_eq_of_lt (by omega)]] at this
 exact this
theorem free_is {g:Int→List Int} {R:List Int} (hR:R≠[]) (hno:∀ k∈R,¬ ∃ q,Rch g k k q∧k∈g q):∃ k∈R,∀ o∈R,k ∉ g o:=by
 apply Classical.byContradiction
 intro hcon
 have hp:∀ k∈R,∃ o∈R,k∈g o:=fun k hk=>by
  apply Classical.byContradiction
  intro h
  exact hcon ⟨k,hk,fun o ho hm=>h ⟨o,ho,hm⟩⟩
 obtain ⟨k0,hk0⟩:=List.exists_mem_of_ne_nil R hR
 let f:{ k // k∈R }→{ k // k∈R }:=fun k=>⟨Classical.choose (hp k.1 k.2),(Classical.choose_spec (hp k.1 k.2)).1⟩
 have hf:∀ k,k.1∈g (f k).1:=fun k=>(Classical.choose_spec (hp k.1 k.2)).2
 let x:Nat→{ k // k∈R }:=fun n=>Nat.rec ⟨k0,hk0⟩ (fun _ k=>f k) n
 have hx:∀ n,(x n).1∈g (x (n+1)).1:=fun n=>hf (x n)
 have hdup:∃ i j,i<j∧(x i).1=(x j).1:=by
  apply Classical.byContradiction
  intro h
  have nd:((List.range (R.length+1)).map fun n=>(x n).1).Nodup:=by
   rw [List.Nodup,List.pairwise_map]
   exact List.pairwise_lt_range.imp (fun {i j} hij e=>h ⟨i,j,hij,e⟩)
  have:=List.Nodup.length_le_of_subset nd (fun k hk=>by
   obtain ⟨n,_,rfl⟩:=List.mem_map.1 hk
   exact (x n).2)
  rw [List.length_map,List.length_range] at this
  omega
 obtain ⟨i,j,hij,he⟩:=hdup
 obtain ⟨p,rfl⟩:∃ p,j=i+(p+1):=⟨j - i - 1,by omega⟩
 obtain ⟨s,h1,h2⟩:=circle (g:=g) (c:=fun t=>(x (i+(p+1) - t)).1) (p:=p) (fun t ht=>by
  have:=hx (i+(p+1) - (t+1))
  rwa [show i+(p+1) - (t+1)+1=i+(p+1) - t by omega] at this) (by
  show (x (i+(p+1) - (p+1))).1=(x (i+(p+1) - 0)).1
  rw [show i+(p+1) - (p+1)=i by omega,Nat.sub_zero];exact he)
 exact hno _ (x (i+(p+1) - s)).2 h2
theorem wgo_is {D:List PE} (hf:∀ R:List Int,R≠[]→(∀ k∈R,k∈keysOf D)→∃ k∈R,∀ o∈R,k ∉ pM D o):∀ {n:Nat} {R all:List Int},R.Nodup→(∀ k∈R,k∈keysOf D)→R.length≤n→∃ A,wgo D n R all=some A
 | 0,R,all,nd,hR,h=>by
  rw [wgo,if_pos (List.length_eq_zero_iff.1 (by omega))]
  exact ⟨_,rfl⟩
 | n+1,R,all,nd,hR,h=>by
  rw [wgo]
  by_cases hn:R=[]
  ·rw [if_pos hn];exact ⟨_,rfl⟩
  ·rw [if_neg hn]
   cases hfd:(isort (D.map (·.k))).find? (freeB D R) with
   | none =>
    obtain ⟨k,hk,ho⟩:=hf R hn hR
    have:=List.find?_eq_none.1 hfd k ((isort_perm _).mem_iff.2 (hR k hk))
    exfalso
    apply this
    unfold freeB
    simp only [hasB,Bool.and_eq_true,decide_eq_true_eq,List.all_eq_true,Bool.not_eq_true', decide_eq_false_iff_not]
    exact ⟨hk,ho⟩
   | some k =>
    have hk:=List.find?_some hfd
    unfold freeB at hk
    simp only [hasB,Bool.and_eq_true,decide_eq_true_eq] at hk
    have hkR:=hk.1
    dsimp only
    refine wgo_is hf (nd.erase _) (fun x hx=>hR x (List.mem_of_mem_erase hx)) ?_
    have:=List.length_erase_of_mem hkR
    omega
theorem Wg.order {D:List PE} (w:Wg D) (hr:roundP (fun k=>wayP D k k k) (isort (keysOf D))=none):∃ A,wgo D D.length (keysOf D) []=some A:=by
 have hn:=(round_none hr).2
 refine wgo_is (fun R hR hs => ?_) w.nd (fun k hk=>hk) (by simp [keysOf])
 obtain ⟨k,hk,ho⟩:=free_is (g:=gS D) hR (fun k hk hx=>by
  have h1:=w.iff.2 hx
  rw [hn k ((isort_perm _).mem_iff.2 (hs k hk))] at h1
  cases h1)
 exact ⟨k,hk,fun o h1 h2=>ho o h1 (gS_mem.2 h2)⟩
theorem whole_is {c:Bool} {l:List El}:WholeOk c l∧wholeV l ≠ .dead:=by
 by_cases hv:vldE l=0
 ·have w:=wg_all hv
  have hl:=w.len
  unfold wholeV
  rw [if_neg (fun h=>h hv)]
  cases hr:roundP (fun k=>wayP (pAll l) k k k) (isort (keysOf (pAll l))) with
  | some x=>exact ⟨whole_rnd hv (by omega) (fun k _=>w.funs) (fun k=>w.ne) hr,by simp⟩
  | none =>
   obtain ⟨A,hA⟩:=w.order hr
   rw [hA]
   exact ⟨whole_all hv (by omega) (fun e he=>by have:=(w.ent he).1;omega) w.nd (fun k _=>w.funs) (fun k=>w.ne) hr hA (fun i _ _=>w.funs),by simp⟩
 ·refine ⟨whole_err hv,?_⟩
  unfold wholeV
  rw [if_pos hv]
  simp
theorem whole_ok {c:Bool} {l:List El}:Fun FB2 md 33 [elsV c l] (wholeV l):=whole_fun (whole_is (c:=c)).1 (whole_is (c:=c)).2
end Go.Dr.T
