/- Chapter 06: the examples of the document, part 5: Surely of the first two elements. -/
import Derived.Test.YtfhphjloaelgoaaGreatDoorG9
import Derived.Test.YtfhphjloaelgoaaGreatDoorR06S2
namespace Go.Dr.T
def sure1A:List V:=[elA elN,elA elP,.int .i64 10]
def sure1R:V:=.tup [.sl false 3 (ofInts [0,0,2,1,3,2]),.sl false 3 (ofInts [0,0,2,1,3,2]),.int .i64 0]
theorem sure1_v:surelyV elN elP 10=sure1R:=veq_eq (by decide +kernel)
theorem sure1_doc:Fun FB2 md 45 sure1A sure1R:=by
 have h:=((surely_ok (x:=elN) (y:=elP) (s:=10)).tab sub1).tab sub2
 rw [sure1_v] at h
 exact h
end Go.Dr.T
namespace Go.Dr.T
def sure2A:List V:=[elA elN,elA elU,.int .i64 20]
def sure2R:V:=.tup [.sl true 0 [],.sl false 2 (ofInts [2,0,3,0]),.int .i64 0]
theorem sure2_v:surelyV elN elU 20=sure2R:=veq_eq (by decide +kernel)
theorem sure2_doc:Fun FB2 md 45 sure2A sure2R:=by
 have h:=((surely_ok (x:=elN) (y:=elU) (s:=20)).tab sub1).tab sub2
 rw [sure2_v] at h
 exact h
end Go.Dr.T
namespace Go.Dr.T
def kwL:List (List V × V)→List V→Option V
 | [],_=>none
 | p :: l,as=>match veqs as p.1 with
  | true=>some p.2
  | false=>kwL l as
theorem kwL_eq:∀ {l:List (List V × V)} {as:List V} {v:V},kwL l as=some v→(as,v)∈l
 | p :: l,as,v,h=>by
  unfold kwL at h
  split at h
  ·rename_i e
   cases h
   rw [veqs_eq e];simp
  ·exact List.mem_cons_of_mem _ (kwL_eq h)
noncomputable def S4 (n:Nat):Option (List V→Option V) :=
 match n with
 | 20=>some (kwL [([],.bool true)])
 | 21=>some (kwL [(best1A,best1R),(best2A,best2R),(best3A,best3R)])
 | 23=>some (kwL [(all1A,all1R)])
 | 45=>some (kwL [(sure1A,sure1R),(sure2A,sure2R)])
 | 26=>some (kwL [([elA elN,elA elP,.int .i64 10,.sl false 2 (ofInts [0,0,2,1])],.tup [.int .i64 176,.int .i64 0])])
 | 33=>some (kwL [([elsV false el2],wholeV el2)])
 | 36=>some (kwL [([elsV true elr],.tup [.sl false 2 (ofInts [4,5]),.int .i64 0])])
 | 39=>some (kwL [([elsV false el2,.sl true 5 (ofInts [1,9,2,7,8])],.tup [.sl false 3 (ofInts [9,1,2,7,2,0,8,2,0]),.int .i64 0])])
 | 42=>some (kwL [([elsV false el3,.sl true 5 (ofInts [1,2,3,5,4])],verR)])
 | _=>none
theorem known4:Known FB2 md S4:=by
 intro fn g hg as v h
 unfold S4 at hg
 split at hg
 all_goals cases hg
 all_goals have hm:=kwL_eq h
 all_goals simp only [List.mem_cons,List.not_mem_nil,or_false,Prod.mk.injEq] at hm
 all_goals first
  | (obtain ⟨rfl,rfl⟩:=hm;first | exact awake | exact all1_doc | exact judge_doc2 | exact whole2_doc | exact round_doc | exact lost_doc | exact ver_doc)
  | (rcases hm with ⟨rfl,rfl⟩ | ⟨rfl,rfl⟩ <;> first | exact sure1_doc | exact sure2_doc)
  | (rcases hm with ⟨rfl,rfl⟩ | ⟨rfl,rfl⟩ | ⟨rfl,rfl⟩ <;> first | exact best1_doc | exact best2_doc | exact best3_doc)
theorem law_known:Fun FB2 md 17 [] (.bool true):=fun_is known4 (n:=500) (by decide +kernel)
end Go.Dr.T
