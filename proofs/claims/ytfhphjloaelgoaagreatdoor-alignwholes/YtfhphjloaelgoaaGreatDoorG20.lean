/- Chapter 06: the document's Whole gives what the program's gives: plain. -/
import Derived.Test.YtfhphjloaelgoaaGreatDoorR06Z2
import Derived.Test.YtfhphjloaelgoaaGreatDoorG9
import Derived.Test.YtfhphjloaelgoaaGreatDoorG11
namespace Go.Dr.T
theorem find_ofR {p:Int→Bool}:∀ n,(mks.ofR n).find? p=if fdN (fun k=>p (k:Int)) n=0 then none else some ((fdN (fun k=>p (k:Int)) n:Nat):Int)
 | 0=>rfl
 | n+1=>by
  rw [mks.ofR,List.find?_append,find_ofR n,fdN]
  generalize fdN (fun k=>p (k:Int)) n=f
  by_cases h:f=0
  ·subst h
   cases hp:p ((n+1:Nat):Int) with
   | true=>simp only [List.find?_cons,hp,if_true,Option.none_or,ne_eq,not_true_eq_false,if_false];rw [if_neg (Nat.succ_ne_zero n)]
   | false=>simp only [List.find?_cons,List.find?_nil,hp,if_true,Option.none_or,ne_eq,not_true_eq_false,if_false,Bool.false_eq_true]
  ·simp only [if_neg h,ne_eq,h,not_false_eq_true,if_true]
   rfl
theorem find_sub {p q:Int→Bool} (h:∀ k,p k=true→q k=true):∀ L:List Int,(L.filter q).find? p=L.find? p
 | []=>rfl
 | k :: L=>by
  rw [List.filter_cons,List.find?_cons]
  cases hp:p k with
  | true=>rw [if_pos (h k hp),List.find?_cons,hp]
  | false =>
   split
   ·rw [List.find?_cons,hp];exact find_sub h L
   ·exact find_sub h L
theorem fdN_congr {P Q:Nat→Bool}:∀ {n:Nat},(∀ k,1≤k→k≤n→P k=Q k)→fdN P n=fdN Q n
 | 0,_=>rfl
 | n+1,h=>by rw [fdN,fdN,fdN_congr (n:=n) (fun k h1 h2=>h k h1 (by omega)),h (n+1) (by omega) (Nat.le_refl _)]
theorem frN_iff {T:Nat→Nat→Bool} {R:Nat→Bool} {m:Nat}:∀ n,frN T R m n=true ↔ R m=true∧∀ k,1≤k→k≤n→¬ (R k=true∧T k m=true)
 | 0=>by
  rw [frN]
  exact ⟨fun h=>⟨h,fun k h1 h2=>by omega⟩,fun h=>h.1⟩
 | n+1=>by
  rw [frN,Bool.and_eq_true,frN_iff n,Bool.not_eq_true', Bool.and_eq_false_iff]
  constructor
  ·rintro ⟨⟨h1,h2⟩,h3⟩
   refine ⟨h1,fun k k1 k2 => ?_⟩
   by_cases e:k=n+1
   ·subst e
    rintro ⟨a,b⟩
    rcases h3 with h3 | h3
    ·rw [a] at h3;cases h3
    ·rw [b] at h3;cases h3
   ·exact h2 k k1 (by omega)
  ·rintro ⟨h1,h2⟩
   refine ⟨⟨h1,fun k k1 k2=>h2 k k1 (by omega)⟩,?_⟩
   have:=h2 (n+1) (by omega) (Nat.le_refl _)
   cases ha:R (n+1) with
   | false=>exact .inl rfl
   | true =>
    right
    cases hb:T (n+1) m with
    | false=>rfl
    | true=>exact absurd ⟨ha,hb⟩ this
structure RR (R:List Int) (b:Nat→Bool):Prop where
 nd:R.Nodup
 rg:∀ k∈R,1≤k∧k≤999
 is:∀ k:Nat,k<1000→(b k=true ↔ (k:Int)∈R)
theorem RR.free {D:List PE} {T:Nat→Nat→Bool} {R:List Int} {b:Nat→Bool} (r:RR R b) (hT:∀ i j:Nat,T i j=true ↔ (j:Int)∈pM D (i:Int)) {m:Nat} (hm:m<1000):freeB D R (m:Int)=frN T b m 999:=by
 rw [Bool.eq_iff_iff,frN_iff]
 unfold freeB hasB
 rw [Bool.and_eq_true,decide_eq_true_eq, ← r.is m hm,List.all_eq_true]
 refine and_congr_right fun _ => ?_
 constructor
 ·rintro h k h1 h2 ⟨h3,h4⟩
  have:=h _ ((r.is k (by omega)).1 h3)
  rw [Bool.not_eq_true', decide_eq_false_iff_not] at this
  exact this ((hT k m).1 h4)
 ·intro h o ho
  rw [Bool.not_eq_true', decide_eq_false_iff_not]
  intro hm2
  have h1:=r.rg o ho
  obtain ⟨k,rfl⟩:∃ k:Nat,o=(k:Int):=⟨o.toNat,by omega⟩
  exact h k (by omega) (by omega) ⟨(r.is k (by omega)).2 ho,(hT k m).2 hm2⟩
set_option maxRecDepth 100000 in
theorem RR.none {T:Nat→Nat→Bool} {b:Nat→Bool} (r:RR [] b):fdT T b=0:=by
 rw [fdT_eq]
 have:∀ n,n≤999→fdN (fun m=>frN T b m 999) n=0:=by
  intro n
  induction n with
  | zero=>intro _;rfl
  | succ n ih =>
   intro hn
   rw [fdN,if_neg (fun e=>e (ih (by omega))),if_neg]
   intro h
   have:=(r.is (n+1) (by omega)).1 ((frN_iff 999).1 h).1
   cases this
 exact this 999 (Nat.le_refl _)
set_option maxRecDepth 100000 in
theorem whN_go {D:List PE} (w:Wg D) {T:Nat→Nat→Bool} (hT:∀ i j:Nat,T i j=true ↔ (j:Int)∈pM D (i:Int)):∀ {n:Nat} {R:List Int} {b:Nat→Bool} {out:List Nat} {A:List Int},RR R b→(∀ k∈R,k∈keysOf D)→wgo D n R (nI out)=some A→∃ A', whN T (n+1) b out=some A' ∧ A=nI A'
 | 0,R,b,out,A,r,hk,h=>by
  rw [wgo] at h
  split at h
  ·rename_i e
   subst e
   rw [Option.some.injEq] at h
   exact ⟨out,by rw [whN,if_pos r.none],h.symm⟩
  ·cases h
 | n+1,R,b,out,A,r,hk,h=>by
  rw [wgo] at h
  split at h
  ·rename_i e
   subst e
   rw [Option.some.injEq] at h
   exact ⟨out,by rw [whN,if_pos r.none],h.symm⟩
  ·have e1:(isort (D.map (·.k))).find? (freeB D R)=mks.find? (freeB D R):=by
    have:=isort_mks w.nd w.rk
    unfold keysOf at this
    rw [this]
    exact find_sub (fun k h=>by
     unfold freeB hasB at h
     rw [Bool.and_eq_true,decide_eq_true_eq] at h
     rw [decide_eq_true_eq]
     exact hk k h.1) mks
   have e2:fdN (fun k=>freeB D R (k:Int)) 999=fdT T b:=by
    rw [fdT_eq]
    exact fdN_congr (P:=fun k=>freeB D R (k:Int)) (Q:=fun m=>frN T b m 999) fun k h1 h2=>r.free hT (by omega)
   have e3:=find_ofR (p:=freeB D R) 999
   rw [show mks.ofR 999=mks from rfl,e2] at e3
   rw [e1,e3] at h
   rw [whN]
   have hle:=fdT_le (T:=T) (R:=b)
   generalize hf:fdT T b=f at *
   by_cases h0:f=0
   ·rw [if_pos h0] at h;cases h
   ·rw [if_neg h0] at h ⊢
    dsimp only at h
    rw [← nI_snoc] at h
    refine whN_go w hT (R:=R.erase (f:Int)) ⟨r.nd.erase _,fun k hk=>r.rg k (List.mem_of_mem_erase hk),fun k hk => ?_⟩ (fun k hx=>hk k (List.mem_of_mem_erase hx)) h
    rw [r.nd.mem_erase_iff]
    unfold upB
    by_cases e:k=f
    ·subst e;simp
    ·rw [if_neg e,r.is k hk]
     exact ⟨fun h=>⟨by omega,h⟩,fun h=>h.2⟩
set_option maxRecDepth 100000 in
theorem Wg.comes {D:List PE} (w:Wg D) {T:Nat→Nat→Bool} (hT:∀ i j:Nat,T i j=true ↔ (j:Int)∈pM D (i:Int)) {a b:Nat}:(wayP D a b 0).isSome=true ↔ CM T a b:=by
 rw [w.iff]
 constructor
 ·rintro ⟨q,hq,hb⟩
  have key:∀ q,Rch (gS D) (a:Int) 0 q→∃ k:Nat,q=(k:Int)∧RT T a k:=by
   intro q h
   induction h with
   | base=>exact ⟨a,rfl,.base⟩
   | step _ h2 h3 ih =>
    obtain ⟨k,rfl,hk⟩:=ih
    have hm:=gS_mem.1 h2
    have hr:=w.rl _ _ hm
    rename_i x _
    obtain ⟨j,rfl⟩:∃ j:Nat,x=(j:Int):=⟨x.toNat,by omega⟩
    exact ⟨j,rfl,.step hk ((hT k j).2 hm) (by omega) (by omega)⟩
  obtain ⟨k,rfl,hk⟩:=key q hq
  exact ⟨k,hk,(hT k b).2 (gS_mem.1 hb)⟩
 ·rintro ⟨q,hq,hb⟩
  have key:∀ q,RT T a q→Rch (gS D) (a:Int) 0 (q:Int):=by
   intro q h
   induction h with
   | base=>exact .base
   | step _ h2 h3 h4 ih=>exact .step ih (gS_mem.2 ((hT _ _).1 h2)) (by omega)
  exact ⟨q,key q hq,gS_mem.2 ((hT q b).1 hb)⟩
theorem nthN_mem {A:List Nat} {i:Nat} (h:i<A.length):nthN A i∈A:=by
 have:nthN A i=A[i]:=by simp [nthN,List.getD,h]
 rw [this]
 exact List.getElem_mem _
theorem kAt_nI (A:List Nat) (i:Nat):kAt (nI A) i=(nthN A i:Nat):=by
 unfold kAt nthN nI
 rw [List.getD_eq_getElem?_getD,List.getD_eq_getElem?_getD,List.getElem?_map]
 cases A[i]? <;> rfl
theorem onN_is {w:Int→Int→Option (List Int)} {A:List Nat}:∀ n,onN (fun a b=>(w a b).isSome) A n=(List.range (n+1)).all fun i=>decide (i=0) || (w (kAt (nI A) (i - 1)) (kAt (nI A) i)).isSome
 | 0=>rfl
 | n+1=>by
  rw [List.range_succ,List.all_append, ← onN_is n,onN]
  simp only [List.all_cons,List.all_nil,Bool.and_true]
  rw [kAt_nI,kAt_nI,decide_eq_false (Nat.succ_ne_zero n),Bool.false_or]
  rfl
theorem only_is {w:Int→Int→Option (List Int)} {A:List Nat}:onN (fun a b=>(w a b).isSome) A (A.length - 1)=onlyN w (nI A) (nI A).length:=by
 rw [onN_is,nI_len]
 unfold onlyN
 by_cases h:A.length=0
 ·rw [h];rfl
 ·rw [show A.length - 1+1=A.length by omega]
theorem pgoN_len {T:Nat→Nat→Bool} {f:Nat}:∀ {n L:Nat} {Q:List (List Nat)} {sn:Nat→Bool} {p:List Nat},(∀ p∈Q,p.length≤L)→pgoN T f n Q sn=some (some p)→p.length≤L+n
 | 0,L,Q,sn,p,_,h=>by rw [pgoN] at h;cases h
 | n+1,L,[],sn,p,_,h=>by rw [pgoN] at h;cases h
 | n+1,L,q :: Q,sn,p,hQ,h=>by
  rw [pgoN] at h
  split at h
  ·cases h
   have:=hQ q (by simp)
   omega
  ·have:=pgoN_len (L:=L+1) (fun x hx=>by
    rcases List.mem_append.1 hx with hx | hx
    ·have:=hQ x (List.mem_cons_of_mem _ hx)
     omega
    ·obtain ⟨k,_,rfl⟩:=List.mem_map.1 hx
     have:=hQ q (by simp)
     rw [List.length_append]
     simp
     omega) h
   omega
set_option maxRecDepth 100000 in
theorem rndN_len {l:List El} (hv:vldE l=0) {p:List Nat} (h:rndN l=some p):p.length≤1003:=by
 have key:∀ n,n<1000→∀ p,rnN (wyN l) n=some p→p.length≤1003:=by
  intro n
  induction n with
  | zero=>intro _ p h;cases h
  | succ n ih =>
   intro hn p h
   have hw:∀ q,wyN l (n+1)=some q→q.length≤1003:=fun q hq=>by
    have h1:=(wyN_way hv hn).1
    rw [hq] at h1
    have:=pgoN_len (L:=1) (fun p hp=>by rw [List.mem_singleton] at hp;subst hp;exact Nat.le_refl _) h1
    omega
   unfold rnN rStN at h
   split at h
   ·exact ih (by omega) p h
   ·rename_i q hq
    split at h
    ·cases h;exact hw _ hq
    ·rename_i x hx
     split at h
     ·cases h;exact hw _ hq
     ·cases h;exact ih (by omega) _ hx
 exact key 999 (by decide) p h
set_option maxRecDepth 100000 in
theorem refWholeV_ok {c:Bool} {l:List El}:Fun FB md 34 [elsV c l] (wholeV l)∧∃ (A:List Int) (o:Bool) (e:Int),wholeV l = .tup [lw false A,.bool o,.int .i64 e]∧A.length≤1000:=by
 have hva:=valid_ok (c:=c) (l:=l)
 by_cases hv:vldE l=0
 ·have w:=wg_all hv
  have hT:=dirT_pM hv
  have hr:=rndP_N hv
  unfold rndP at hr
  rw [← w.round] at hr
  unfold wholeV
  rw [if_neg (fun h=>h hv)]
  cases hN:rndN l with
  | some p =>
   rw [hN] at hr
   rw [hr]
   have hnm:=named_ok (c:=c) hv
   have hne:p≠[]:=fun e=>rnN_ne hv (n:=999) (by decide) (by rw [← e];exact hN)
   have hpl:0<p.length:=List.length_pos_iff.2 hne
   rw [hN] at hnm
   rw [hv] at hva
   dsimp only [Option.map_some]
   refine ⟨?_,[],false,161,rfl,by simp⟩
   refine fun_of rfl rfl ?_
   repeat' (first
 | (conv=>whnf)
   first
   | refine Br.t ?_
   | (refine Br.decT ?_ ?_;(focus first | assumption | omega))
   | refine call_fun rfl rfl hva (.inl rfl) ?_
   | refine call_fun rfl rfl hnm (.inl rfl) ?_
   | refine Get.mk _ rfl ?_
   | refine Leaves.of ?_
   | refine Vw.bool ?_
   | refine Vw.int ?_
   | refine Vw.nil
   | refine Vw.tup ?_
   | refine VwL.cons ?_ ?_
   | refine VwL.nil)
   all_goals first | rfl | (exfalso;omega;done)
  | none =>
   rw [hN] at hr
   rw [hr]
   dsimp only [Option.map_none]
   obtain ⟨A,hA⟩:=w.order hr
   have g:=pi_all (l:=l) (fun x hx p hp=>((vld_el hv hx).2 p hp).1)
   obtain ⟨A', h1,rfl⟩:=whN_go w hT (R:=keysOf (pAll l)) (b:=thF l) (out:=[]) ⟨w.nd,w.rk,fun k _=>by unfold thF;rw [decide_eq_true_eq,g.ks]⟩ (fun k hk=>hk) hA
   have hlen:=whN_len h1
   have hrg:=whN_rng (fun k hk=>by cases hk) h1
   have hwl:=w.len
   rw [hA]
   dsimp only
   rw [← only_is]
   refine ⟨refWhole_ok hv hN (c:=fun a b=>(wayP (pAll l) a b 0).isSome) (by omega) h1 fun i hi => ?_,_,_,_,rfl,by rw [nI_len];simp only [List.length_nil] at hlen;omega⟩
   have ha:=hrg (nthN A' i) (nthN_mem (by omega))
   have hb:=hrg (nthN A' (i+1)) (nthN_mem hi)
   exact comes_ok ha.2 hb.1 hb.2 (w.comes hT)
 ·unfold wholeV
  rw [if_pos hv]
  generalize vldE l=e at *
  refine ⟨?_,[],false,e,rfl,by simp⟩
  refine fun_of rfl rfl ?_
  repeat' (first
 | (conv=>whnf)
   first
   | refine Br.f ?_
   | (refine Br.decF ?_ ?_;(focus first | assumption | omega))
   | refine Br.not ?_
   | refine call_fun rfl rfl hva (.inl rfl) ?_
   | refine Get.mk _ rfl ?_
   | refine Leaves.of ?_
   | refine Vw.bool ?_
   | refine Vw.int ?_
   | refine Vw.nil
   | refine Vw.tup ?_
   | refine VwL.cons ?_ ?_
   | refine VwL.nil)
  all_goals first | rfl | (exfalso;omega;done)
end Go.Dr.T
namespace Go.Dr.T
def elN:El:=⟨[110,101,103],true,[(1,100),(2,50),(3,80),(4,60)],0⟩
def elP:El:=⟨[112,114,105,110,116,45,98],true,[(1,96),(3,80),(0,58),(5,40)],2⟩
def elQ:El:=⟨[99,117,116],true,[(2,48),(5,44),(4,60)],1⟩
def elU:El:=⟨[117],true,[(0,60)],0⟩
def el3:List El:=[elN,elP,elQ]
def D3:List PE:=pAll el3
theorem vld3:vldE el3=0:=by decide +kernel
theorem keys3:keysOf (pAll el3)=[1,2,3,4,5]:=by decide +kernel
theorem len3:(pAll el3).length=5:=by decide +kernel
theorem way3 {a t ab:Int} {r:Option (List Int)} (h:wayGo (pAll el3) a t ab 1002 0 []=some r):Fun FB1 md 69 [gatV (pAll el3),.int .i64 a,.int .i64 t,.int .i64 ab] (wayV (wayP (pAll el3) a t ab)):=by
 have e:wayP (pAll el3) a t ab=r:=by unfold wayP;rw [h];rfl
 rw [e]
 exact way_fun (by rw [len3];decide) (by decide +kernel) (by decide +kernel) (by rw [show (pAll el3).map (·.k)=[1,2,3,4,5] from keys3];decide) h
theorem wayGo_ne {D:List PE} {a t ab:Int}:∀ {n p:Nat} {bf:List (Int × Int)},wayGo D a t ab n p bf≠some (some [])
 | 0,_,_=>by unfold wayGo;simp
 | n+1,p,bf=>by
  unfold wayGo
  split
  ·simp
  ·split
   ·intro h
    obtain ⟨cs,_,h2⟩:=map_some h
    simp at h2
   ·exact wayGo_ne
theorem wayP_ne {D:List PE} {a t ab:Int}:wayP D a t ab≠some []:=by
 unfold wayP
 intro h
 cases hg:wayGo D a t ab 1002 0 [] with
 | none=>rw [hg] at h;cases h
 | some r=>rw [hg] at h;exact wayGo_ne (hg.trans (congrArg some h))
theorem whole3 {c:Bool}:WholeOk c el3:=by
 refine whole_all (A:=[1,2,3,5,4]) vld3 (by rw [len3];decide) (by decide +kernel) (by rw [keys3];decide) (fun k hk => ?_) (fun k=>wayP_ne) (by decide +kernel) (by decide +kernel) (fun i h0 hi => ?_)
 ·rw [keys3] at hk
  simp only [List.mem_cons,List.not_mem_nil,or_false] at hk
  rcases hk with rfl | rfl | rfl | rfl | rfl <;> exact way3 (r:=none) (by decide +kernel)
 ·simp only [List.length_cons,List.length_nil] at hi
  obtain rfl | rfl | rfl | rfl:i=1∨i=2∨i=3∨i=4:=by omega
  ·exact way3 (r:=some [1]) (by decide +kernel)
  ·exact way3 (r:=some [2]) (by decide +kernel)
  ·exact way3 (r:=some [3]) (by decide +kernel)
  ·exact way3 (r:=some [5]) (by decide +kernel)
theorem whole3_v:wholeV el3 = .tup [.sl false 5 (ofInts [1,2,3,5,4]),.bool true,.int .i64 0]:=veq_eq (by decide +kernel)
theorem whole3_doc:Fun FB2 md 33 [elsV false el3] (wholeV el3):=whole_fun whole3 (by rw [whole3_v];intro h;cases h)
theorem gather3_doc:Fun FB2 md 65 [elsV false el3] (gatherV el3):=(gather_fun gatherV_view).tab sub2
end Go.Dr.T
namespace Go.Dr.T
def kwn (l:List V) (v:V) (as:List V):Option V:=match veqs as l with
 | true=>some v
 | false=>none
theorem kwn_eq {l:List V} {v w:V} {as:List V} (h:kwn l v as=some w):as=l∧w=v:=by
 unfold kwn at h
 split at h <;> cases h
 rename_i e
 exact ⟨veqs_eq e,rfl⟩
noncomputable def S1 (n:Nat):Option (List V→Option V) :=
 match n with
 | 33=>some (kwn [elsV false el3] (wholeV el3))
 | 65=>some (kwn [elsV false el3] (gatherV el3))
 | _=>none
theorem known1:Known FB2 md S1:=by
 intro fn g hg as v h
 unfold S1 at hg
 split at hg
 ·cases hg
  obtain ⟨rfl,rfl⟩:=kwn_eq h
  exact whole3_doc
 ·cases hg
  obtain ⟨rfl,rfl⟩:=kwn_eq h
  exact gather3_doc
 ·cases hg
theorem best_doc:Fun FB2 md 21 [elA elN,elA elP,.int .i64 10] (.tup [.int .i64 205,.int .i64 1,.int .i64 0]):=fun_is known1 (n:=300) (by decide +kernel)
theorem judge_doc:Fun FB2 md 26 [elA elN,elA elP,.int .i64 10,.sl true 1 (ofInts [1,1])] (.tup [.int .i64 0,.int .i64 160]):=fun_is known1 (n:=300) (by decide +kernel)
def allR:V:=.tup [.sl false 1 [.sl false 1 (ofInts [2,0])],.int .i64 0]
theorem all_doc:Fun FB2 md 23 [elA elN,elA elU,.int .i64 20,.int .i64 1] allR:=fun_is known1 (n:=400) (by decide +kernel)
def verR:V:=.tup [.sl false 5 (ofInts [1,0,0,2,0,1,3,0,2,5,2,1,4,0,3]),.int .i64 334,.int .i64 0]
theorem ver_doc:Fun FB2 md 42 [elsV false el3,.sl true 5 (ofInts [1,2,3,5,4])] verR:=fun_is known1 (n:=300) (by decide +kernel)
noncomputable def S2 (n:Nat):Option (List V→Option V) :=
 match n with
 | 21=>some (kwn [elA elN,elA elP,.int .i64 10] (.tup [.int .i64 205,.int .i64 1,.int .i64 0]))
 | 26=>some (kwn [elA elN,elA elP,.int .i64 10,.sl true 1 (ofInts [1,1])] (.tup [.int .i64 0,.int .i64 160]))
 | 23=>some (kwn [elA elN,elA elU,.int .i64 20,.int .i64 1] allR)
 | 42=>some (kwn [elsV false el3,.sl true 5 (ofInts [1,2,3,5,4])] verR)
 | n=>S1 n
theorem known2:Known FB2 md S2:=by
 intro fn g hg as v h
 unfold S2 at hg
 split at hg
 ·cases hg
  obtain ⟨rfl,rfl⟩:=kwn_eq h
  exact best_doc
 ·cases hg
  obtain ⟨rfl,rfl⟩:=kwn_eq h
  exact judge_doc
 ·cases hg
  obtain ⟨rfl,rfl⟩:=kwn_eq h
  exact all_doc
 ·cases hg
  obtain ⟨rfl,rfl⟩:=kwn_eq h
  exact ver_doc
 ·exact known1 _ _ hg as v h
theorem awake:Fun FB2 md 20 [] (.bool true):=fun_is known2 (n:=300) (by decide +kernel)
end Go.Dr.T
namespace Go.Dr.T
theorem rndR_eq {l:List El}:∃ (B:List Int) (d:Bool) (d' : Bool) (e:Int),B.length≤1003∧rndV l = .tup [.sl d B.length (ofInts B),.int .i64 e]∧rndR l = .tup [.sl d' B.length (ofInts B),.int .i64 e]:=by
 unfold rndV rndR
 by_cases hv:vldE l=0
 ·rw [if_neg (fun h=>h hv),if_neg (fun h=>h hv),rndP_N hv]
  cases hN:rndN l with
  | none=>exact ⟨[],true,true,0,by simp,rfl,rfl⟩
  | some p =>
   refine ⟨nI p,false,decide (p.length=1),0,by rw [nI_len];exact rndN_len hv hN,rfl,?_⟩
   rw [nI_len]
   rfl
 ·rw [if_pos hv,if_pos hv]
  exact ⟨[],true,true,_,by simp,rfl,rfl⟩
set_option maxRecDepth 100000 in
theorem law_wholes {c:Bool} {l:List El}:Fun FB2 md 9 [elsV c l] (.bool true):=by
 have h1:=whole_ok (c:=c) (l:=l)
 obtain ⟨h2,A,o,e,hw,hl⟩:=refWholeV_ok (c:=c) (l:=l)
 have h2:=(h2.tab sub1).tab sub2
 have h3:=(alnRound_ok (c:=c) (l:=l)).tab sub2
 have h4:=((refRound_ok (c:=c) (l:=l)).tab sub1).tab sub2
 have h5:=awake
 obtain ⟨B,d,d', f,hb,e1,e2⟩:=rndR_eq (l:=l)
 obtain ⟨a,ha⟩:=lw_sl A
 rw [hw,ha] at h1 h2
 rw [e1] at h3
 rw [e2] at h4
 have i1:=((intsE_ok (c:=a) (d:=a) (l:=A) (by omega)).tab sub1).tab sub2
 have i2:=((intsE_ok (c:=d) (d:=d') (l:=B) (by omega)).tab sub1).tab sub2
 refine fun_of rfl rfl ?_
 repeat' (first
 | (conv=>whnf)
   first
   | refine Br.t ?_
   | refine Br.f ?_
   | (refine Br.decT ?_ ?_;(focus first | assumption | omega))
   | (refine Br.decF ?_ ?_;(focus first | assumption | omega))
   | refine Br.dec (fun _ => ?_) (fun _ => ?_)
   | refine Br.not ?_
   | refine call_fun rfl rfl h1 (.inl rfl) ?_
   | refine call_fun rfl rfl h2 (.inl rfl) ?_
   | refine call_fun rfl rfl h3 (.inl rfl) ?_
   | refine call_fun rfl rfl h4 (.inl rfl) ?_
   | refine call_fun rfl rfl i1 (.inl rfl) ?_
   | refine call_fun rfl rfl i2 (.inl rfl) ?_
   | refine call_fun rfl rfl h5 (.inl rfl) ?_
   | refine Get.mk _ rfl ?_
   | refine Leaves.of ?_
   | refine Vw.bool ?_)
 all_goals first | rfl | (exact absurd rfl (by assumption)) | simp
end Go.Dr.T
