/- Chapter 06: arguments as elements and lists of them. -/
import Derived.Test.YtcjhgcjmomildaaGreatDoorG2
import Derived.Test.YtcjhgcjmomildaaGreatDoorDrE
import Derived.Test.YtcjhgcjmomildaaGreatDoorG22
namespace Go.Dr.T
theorem hasInt {l:List V} (h:(Ty.int .i64).has l):∃ n:Int,l=[.int .i64 n]:=by
 simp only [Ty.has] at h
 obtain ⟨n,rfl,h1,h2⟩:=h
 exact ⟨n,rfl⟩
theorem hasStr {l:List V} (h:Ty.str.has l):∃ s,l=[.str s]:=by
 simpa only [Ty.has] using h
theorem int_val {v:V} (h:(Ty.int .i64).val v):∃ n,v = .int .i64 n:=by
 obtain ⟨n,e⟩:=hasInt (l:=[v]) h
 simp only [List.cons.injEq,and_true] at e
 exact ⟨n,e⟩
theorem two_has {x:List V} (h:(Ty.agg [.int .i64,.int .i64]).has x):∃ a b:Int,x=[.int .i64 a,.int .i64 b]:=by
 simp only [Ty.has,Ty.hasAll] at h
 obtain ⟨a,b,rfl,⟨n,rfl,_⟩,c,d,rfl,⟨m,rfl,_⟩,rfl⟩:=h
 exact ⟨n,m,rfl⟩
theorem pairs_cells:∀ {xs:List (List V)},(∀ x∈xs,x.length=2∧(Ty.agg [.int .i64,.int .i64]).has x)→∃ l:List (Int × Int),xs.flatten=shC l∧xs.length=l.length
 | [],_=>⟨[],rfl,rfl⟩
 | x :: xs,h=>by
  obtain ⟨l,h1,h2⟩:=pairs_cells (xs:=xs) fun y hy=>h y (by simp [hy])
  obtain ⟨_,hx⟩:=h x (by simp)
  obtain ⟨a,b,rfl⟩:=two_has hx
  exact ⟨(a,b) :: l,by simp only [List.flatten_cons,h1];rfl,by simp [h2]⟩
abbrev TyP:Ty:=.slice 2 (.agg [.int .i64,.int .i64])
theorem pairs_has {v:List V} (h:TyP.has v):∃ l:List (Int × Int),v=[.sl false l.length (shC l)]:=by
 rw [TyP,Ty.has] at h
 obtain ⟨xs,rfl,hx⟩:=h
 obtain ⟨l,h1,h2⟩:=pairs_cells (xs:=xs) hx
 exact ⟨l,by rw [h1,h2]⟩
theorem pairs_val {v:V} (h:TyP.val v):∃ l:List (Int × Int),v = .sl false l.length (shC l):=by
 obtain ⟨l,e⟩:=pairs_has (v:=[v]) h
 simp only [List.cons.injEq,and_true] at e
 exact ⟨l,e⟩
abbrev TyEl:Ty:=.agg [.str,TyP,.int .i64]
def elA (x:El):V:=.agg x.v
theorem el_all {l:List V} (h:Ty.hasAll [.str,TyP,.int .i64] l):∃ x:El,l=x.v:=by
 simp only [Ty.hasAll] at h
 obtain ⟨a,b,rfl,ha,c,d,rfl,hc,e,f,rfl,he,rfl⟩:=h
 obtain ⟨s,rfl⟩:=hasStr ha
 obtain ⟨l,rfl⟩:=pairs_has hc
 obtain ⟨n,rfl⟩:=hasInt he
 exact ⟨⟨s,false,l,n⟩,rfl⟩
theorem el_val {v:V} (h:TyEl.val v):∃ x:El,v=elA x:=by
 simp only [Ty.val] at h
 obtain ⟨l,rfl,h⟩:=h
 obtain ⟨x,rfl⟩:=el_all h
 exact ⟨x,rfl⟩
theorem els_cells:∀ {xs:List (List V)},(∀ x∈xs,x.length=3∧TyEl.has x)→∃ l:List El,xs.flatten=elC l∧xs.length=l.length
 | [],_=>⟨[],rfl,rfl⟩
 | x :: xs,h=>by
  obtain ⟨l,h1,h2⟩:=els_cells (xs:=xs) fun y hy=>h y (by simp [hy])
  obtain ⟨_,hx⟩:=h x (by simp)
  obtain ⟨y,rfl⟩:=el_all (by simpa only [Ty.has] using hx)
  exact ⟨y :: l,by simp only [List.flatten_cons,h1];rfl,by simp [h2]⟩
abbrev TyEls:Ty:=.slice 3 TyEl
theorem els_val {v:V} (h:TyEls.val v):∃ l:List El,v=elsV false l:=by
 rw [TyEls] at h
 simp only [Ty.val] at h
 rw [Ty.has] at h
 obtain ⟨xs,e,hx⟩:=h
 simp only [List.cons.injEq,and_true] at e
 subst e
 obtain ⟨l,h1,h2⟩:=els_cells (xs:=xs) hx
 exact ⟨l,by rw [h1,h2]⟩
theorem two_val {v:V} (h:(Ty.agg [TyEl,TyEl]).val v):∃ x y:El,v = .agg (x.v++y.v):=by
 simp only [Ty.val,Ty.hasAll] at h
 obtain ⟨l,rfl,a,b,rfl,ha,c,d,rfl,hc,rfl⟩:=h
 obtain ⟨x,rfl⟩:=el_all (by simpa only [Ty.has] using ha)
 obtain ⟨y,rfl⟩:=el_all (by simpa only [Ty.has] using hc)
 exact ⟨x,y,by rw [List.append_nil]⟩
end Go.Dr.T
namespace Go.Dr.T
def elN:El:=⟨[110,101,103],true,[(1,100),(2,50),(3,80),(4,60)],0⟩
def elP:El:=⟨[112,114,105,110,116,45,98],true,[(1,96),(3,80),(0,58),(5,40)],2⟩
def elQ:El:=⟨[99,117,116],true,[(2,48),(5,44),(4,60)],1⟩
def elU:El:=⟨[117],true,[(0,60)],0⟩
def el3:List El:=[elN,elP,elQ]
def D3:List PE:=pAll el3
theorem vld3:vldE el3=0:=by decide +kernel
theorem keys3:keysOf (pAll el3)=[1,2,3,4,5]:=by decide +kernel
theorem len3:(pAll el3).length=5:=by decide +kernel
theorem way3 {a t ab:Int} {r:Option (List Int)} (h:wayGo (pAll el3) a t ab 1002 0 []=some r):Fun FB1 md 36 [gatV (pAll el3),.int .i64 a,.int .i64 t,.int .i64 ab] (wayV (wayP (pAll el3) a t ab)):=by
 have e:wayP (pAll el3) a t ab=r:=by unfold wayP;rw [h];rfl
 rw [e]
 exact way_fun (by rw [len3];decide) (by decide +kernel) (by decide +kernel) (by rw [show (pAll el3).map (·.k)=[1,2,3,4,5] from keys3];decide) h
theorem wayGo_ne {D:List PE} {a t ab:Int}:∀ {n p:Nat} {bf:List (Int × Int)},wayGo D a t ab n p bf≠some (some [])
 | 0,_,_=>by unfold wayGo;simp
 | n+1,p,bf=>by
  unfold wayGo
  split
  ·simp
  ·split
   ·intro h
    obtain ⟨cs,_,h2⟩:=map_some h
    simp at h2
   ·exact wayGo_ne
theorem wayP_ne {D:List PE} {a t ab:Int}:wayP D a t ab≠some []:=by
 unfold wayP
 intro h
 cases hg:wayGo D a t ab 1002 0 [] with
 | none=>rw [hg] at h;cases h
 | some r=>rw [hg] at h;exact wayGo_ne (hg.trans (congrArg some h))
theorem whole3 {c:Bool}:WholeOk c el3:=by
 refine whole_all (A:=[1,2,3,5,4]) vld3 (by rw [len3];decide) (by decide +kernel) (by rw [keys3];decide) (fun k hk => ?_) (fun k=>wayP_ne) (by decide +kernel) (by decide +kernel) (fun i h0 hi => ?_)
 ·rw [keys3] at hk
  simp only [List.mem_cons,List.not_mem_nil,or_false] at hk
  rcases hk with rfl | rfl | rfl | rfl | rfl <;> exact way3 (r:=none) (by decide +kernel)
 ·simp only [List.length_cons,List.length_nil] at hi
  obtain rfl | rfl | rfl | rfl:i=1∨i=2∨i=3∨i=4:=by omega
  ·exact way3 (r:=some [1]) (by decide +kernel)
  ·exact way3 (r:=some [2]) (by decide +kernel)
  ·exact way3 (r:=some [3]) (by decide +kernel)
  ·exact way3 (r:=some [5]) (by decide +kernel)
theorem whole3_v:wholeV el3 = .tup [.sl false 5 (ofInts [1,2,3,5,4]),.bool true,.int .i64 0]:=veq_eq (by decide +kernel)
theorem whole3_doc:Fun FB2 md 14 [elsV false el3] (wholeV el3):=whole_fun whole3 (by rw [whole3_v];intro h;cases h)
theorem gather3_doc:Fun FB2 md 32 [elsV false el3] (gatherV el3):=(gather_fun gatherV_view).tab sub2
end Go.Dr.T
namespace Go.Dr.T
def kwn (l:List V) (v:V) (as:List V):Option V:=match veqs as l with
 | true=>some v
 | false=>none
theorem kwn_eq {l:List V} {v w:V} {as:List V} (h:kwn l v as=some w):as=l∧w=v:=by
 unfold kwn at h
 split at h <;> cases h
 rename_i e
 exact ⟨veqs_eq e,rfl⟩
noncomputable def S1 (n:Nat):Option (List V→Option V) :=
 match n with
 | 14=>some (kwn [elsV false el3] (wholeV el3))
 | 32=>some (kwn [elsV false el3] (gatherV el3))
 | _=>none
theorem known1:Known FB9 md S1:=by
 intro fn g hg as v h
 unfold S1 at hg
 split at hg
 ·cases hg
  obtain ⟨rfl,rfl⟩:=kwn_eq h
  exact whole3_doc.tab sub9
 ·cases hg
  obtain ⟨rfl,rfl⟩:=kwn_eq h
  exact gather3_doc.tab sub9
 ·cases hg
theorem best_doc:Fun FB9 md 8 [elA elN,elA elP,.int .i64 10] (.tup [.int .i64 205,.int .i64 1,.int .i64 0]):=fun_is known1 (n:=300) (by decide +kernel)
theorem judge_doc:Fun FB9 md 15 [elA elN,elA elP,.int .i64 10,.sl true 1 (ofInts [1,1])] (.tup [.int .i64 0,.int .i64 160]):=fun_is known1 (n:=300) (by decide +kernel)
def allR:V:=.tup [.sl false 1 [.sl false 1 (ofInts [2,0])],.int .i64 0]
theorem all_doc:Fun FB9 md 9 [elA elN,elA elU,.int .i64 20,.int .i64 1] allR:=by
 have hL:allL elN elU 20 1=[[(2,0)]]:=by decide +kernel
 have:=all_fun (x:=elN) (y:=elU) (s:=20) (most:=1) (by decide +kernel) (by decide +kernel) (by rw [hL];simp)
 rw [hL] at this
 exact this
def verR:V:=.tup [.sl false 5 (ofInts [1,0,0,2,0,1,3,0,2,5,2,1,4,0,3]),.int .i64 334,.int .i64 0]
theorem ver_doc:Fun FB9 md 17 [elsV false el3,.sl true 5 (ofInts [1,2,3,5,4])] verR:=fun_is known1 (n:=300) (by decide +kernel)
noncomputable def S2 (n:Nat):Option (List V→Option V) :=
 match n with
 | 8=>some (kwn [elA elN,elA elP,.int .i64 10] (.tup [.int .i64 205,.int .i64 1,.int .i64 0]))
 | 15=>some (kwn [elA elN,elA elP,.int .i64 10,.sl true 1 (ofInts [1,1])] (.tup [.int .i64 0,.int .i64 160]))
 | 9=>some (kwn [elA elN,elA elU,.int .i64 20,.int .i64 1] allR)
 | 17=>some (kwn [elsV false el3,.sl true 5 (ofInts [1,2,3,5,4])] verR)
 | n=>S1 n
theorem known2:Known FB9 md S2:=by
 intro fn g hg as v h
 unfold S2 at hg
 split at hg
 ·cases hg
  obtain ⟨rfl,rfl⟩:=kwn_eq h
  exact best_doc
 ·cases hg
  obtain ⟨rfl,rfl⟩:=kwn_eq h
  exact judge_doc
 ·cases hg
  obtain ⟨rfl,rfl⟩:=kwn_eq h
  exact all_doc
 ·cases hg
  obtain ⟨rfl,rfl⟩:=kwn_eq h
  exact ver_doc
 ·exact known1 _ _ hg as v h
theorem awake:Fun FB9 md 5 [] (.bool true):=fun_is known2 (n:=300) (by decide +kernel)
end Go.Dr.T
