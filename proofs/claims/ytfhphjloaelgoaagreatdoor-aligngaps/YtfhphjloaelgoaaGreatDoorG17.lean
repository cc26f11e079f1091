/- Chapter 06: Awake: the calls of which the document says what they return. -/
import Derived.Test.YtfhphjloaelgoaaGreatDoorG10
import Derived.Test.YtfhphjloaelgoaaGreatDoorG13
namespace Go.Dr.T
def elN:El:=⟨[110,101,103],true,[(1,100),(2,50),(3,80),(4,60)],0⟩
def elP:El:=⟨[112,114,105,110,116,45,98],true,[(1,96),(3,80),(0,58),(5,40)],2⟩
def elQ:El:=⟨[99,117,116],true,[(2,48),(5,44),(4,60)],1⟩
def elU:El:=⟨[117],true,[(0,60)],0⟩
def el3:List El:=[elN,elP,elQ]
def D3:List PE:=pAll el3
theorem vld3:vldE el3=0:=by decide +kernel
theorem keys3:keysOf (pAll el3)=[1,2,3,4,5]:=by decide +kernel
theorem len3:(pAll el3).length=5:=by decide +kernel
theorem way3 {a t ab:Int} {r:Option (List Int)} (h:wayGo (pAll el3) a t ab 1002 0 []=some r):Fun FB1 md 69 [gatV (pAll el3),.int .i64 a,.int .i64 t,.int .i64 ab] (wayV (wayP (pAll el3) a t ab)):=by
 have e:wayP (pAll el3) a t ab=r:=by unfold wayP;rw [h];rfl
 rw [e]
 exact way_fun (by rw [len3];decide) (by decide +kernel) (by decide +kernel) (by rw [show (pAll el3).map (·.k)=[1,2,3,4,5] from keys3];decide) h
theorem wayGo_ne {D:List PE} {a t ab:Int}:∀ {n p:Nat} {bf:List (Int × Int)},wayGo D a t ab n p bf≠some (some [])
 | 0,_,_=>by unfold wayGo;simp
 | n+1,p,bf=>by
  unfold wayGo
  split
  ·simp
  ·split
   ·intro h
    obtain ⟨cs,_,h2⟩:=map_some h
    simp at h2
   ·exact wayGo_ne
theorem wayP_ne {D:List PE} {a t ab:Int}:wayP D a t ab≠some []:=by
 unfold wayP
 intro h
 cases hg:wayGo D a t ab 1002 0 [] with
 | none=>rw [hg] at h;cases h
 | some r=>rw [hg] at h;exact wayGo_ne (hg.trans (congrArg some h))
theorem whole3 {c:Bool}:WholeOk c el3:=by
 refine whole_all (A:=[1,2,3,5,4]) vld3 (by rw [len3];decide) (by decide +kernel) (by rw [keys3];decide) (fun k hk => ?_) (fun k=>wayP_ne) (by decide +kernel) (by decide +kernel) (fun i h0 hi => ?_)
 ·rw [keys3] at hk
  simp only [List.mem_cons,List.not_mem_nil,or_false] at hk
  rcases hk with rfl | rfl | rfl | rfl | rfl <;> exact way3 (r:=none) (by decide +kernel)
 ·simp only [List.length_cons,List.length_nil] at hi
  obtain rfl | rfl | rfl | rfl:i=1∨i=2∨i=3∨i=4:=by omega
  ·exact way3 (r:=some [1]) (by decide +kernel)
  ·exact way3 (r:=some [2]) (by decide +kernel)
  ·exact way3 (r:=some [3]) (by decide +kernel)
  ·exact way3 (r:=some [5]) (by decide +kernel)
theorem whole3_v:wholeV el3 = .tup [.sl false 5 (ofInts [1,2,3,5,4]),.bool true,.int .i64 0]:=veq_eq (by decide +kernel)
theorem whole3_doc:Fun FB2 md 33 [elsV false el3] (wholeV el3):=whole_fun whole3 (by rw [whole3_v];intro h;cases h)
theorem gather3_doc:Fun FB2 md 65 [elsV false el3] (gatherV el3):=(gather_fun gatherV_view).tab sub2
end Go.Dr.T
namespace Go.Dr.T
def kwn (l:List V) (v:V) (as:List V):Option V:=match veqs as l with
 | true=>some v
 | false=>none
theorem kwn_eq {l:List V} {v w:V} {as:List V} (h:kwn l v as=some w):as=l∧w=v:=by
 unfold kwn at h
 split at h <;> cases h
 rename_i e
 exact ⟨veqs_eq e,rfl⟩
noncomputable def S1 (n:Nat):Option (List V→Option V) :=
 match n with
 | 33=>some (kwn [elsV false el3] (wholeV el3))
 | 65=>some (kwn [elsV false el3] (gatherV el3))
 | _=>none
theorem known1:Known FB2 md S1:=by
 intro fn g hg as v h
 unfold S1 at hg
 split at hg
 ·cases hg
  obtain ⟨rfl,rfl⟩:=kwn_eq h
  exact whole3_doc
 ·cases hg
  obtain ⟨rfl,rfl⟩:=kwn_eq h
  exact gather3_doc
 ·cases hg
theorem best_doc:Fun FB2 md 21 [elA elN,elA elP,.int .i64 10] (.tup [.int .i64 205,.int .i64 1,.int .i64 0]):=fun_is known1 (n:=300) (by decide +kernel)
theorem judge_doc:Fun FB2 md 26 [elA elN,elA elP,.int .i64 10,.sl true 1 (ofInts [1,1])] (.tup [.int .i64 0,.int .i64 160]):=fun_is known1 (n:=300) (by decide +kernel)
def allR:V:=.tup [.sl false 1 [.sl false 1 (ofInts [2,0])],.int .i64 0]
theorem all_doc:Fun FB2 md 23 [elA elN,elA elU,.int .i64 20,.int .i64 1] allR:=fun_is known1 (n:=400) (by decide +kernel)
def verR:V:=.tup [.sl false 5 (ofInts [1,0,0,2,0,1,3,0,2,5,2,1,4,0,3]),.int .i64 334,.int .i64 0]
theorem ver_doc:Fun FB2 md 42 [elsV false el3,.sl true 5 (ofInts [1,2,3,5,4])] verR:=fun_is known1 (n:=300) (by decide +kernel)
noncomputable def S2 (n:Nat):Option (List V→Option V) :=
 match n with
 | 21=>some (kwn [elA elN,elA elP,.int .i64 10] (.tup [.int .i64 205,.int .i64 1,.int .i64 0]))
 | 26=>some (kwn [elA elN,elA elP,.int .i64 10,.sl true 1 (ofInts [1,1])] (.tup [.int .i64 0,.int .i64 160]))
 | 23=>some (kwn [elA elN,elA elU,.int .i64 20,.int .i64 1] allR)
 | 42=>some (kwn [elsV false el3,.sl true 5 (ofInts [1,2,3,5,4])] verR)
 | n=>S1 n
theorem known2:Known FB2 md S2:=by
 intro fn g hg as v h
 unfold S2 at hg
 split at hg
 ·cases hg
  obtain ⟨rfl,rfl⟩:=kwn_eq h
  exact best_doc
 ·cases hg
  obtain ⟨rfl,rfl⟩:=kwn_eq h
  exact judge_doc
 ·cases hg
  obtain ⟨rfl,rfl⟩:=kwn_eq h
  exact all_doc
 ·cases hg
  obtain ⟨rfl,rfl⟩:=kwn_eq h
  exact ver_doc
 ·exact known1 _ _ hg as v h
theorem awake:Fun FB2 md 20 [] (.bool true):=fun_is known2 (n:=300) (by decide +kernel)
end Go.Dr.T
