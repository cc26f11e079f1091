/- Chapter 06: Whole as a function of what it is given; the table with it. -/
import Derived.Test.YtfhphjloaelgoaaGreatDoorR06T4
import Derived.Test.YtfhphjloaelgoaaGreatDoorG2
import Derived.Test.YtfhphjloaelgoaaGreatDoorDrE
import Derived.Test.YtfhphjloaelgoaaGreatDoorG5
import Derived.Test.YtfhphjloaelgoaaGreatDoorG6
import Derived.Test.YtfhphjloaelgoaaGreatDoorR06V5
import Derived.Test.YtfhphjloaelgoaaGreatDoorR06S2
namespace Go.Dr.T
def wayP (D:List PE) (a t ab:Int):Option (List Int):=(wayGo D a t ab 1002 0 []).getD none
def keysOf (D:List PE):List Int:=D.map (·.k)
def wholeV (l:List El):V :=
 if vldE l≠0 then .tup [.sl true 0 [],.bool false,.int .i64 (vldE l)] else
 match roundP (fun k=>wayP (pAll l) k k k) (isort (keysOf (pAll l))) with
 | some _=>.tup [.sl true 0 [],.bool false,.int .i64 161]
 | none=>match wgo (pAll l) (pAll l).length (keysOf (pAll l)) [] with
  | some A=>.tup [lw false A,.bool (onlyN (fun a b=>wayP (pAll l) a b 0) A A.length),.int .i64 0]
  | none=>.dead
def WholeOk (c:Bool) (l:List El):Prop:=wpm FB1 md 0 c33.body ⟨[elsV c l]++deads (c33.ntm - c33.np),[]⟩ (Leaves c33.res (wholeV l))
open Classical in
noncomputable def whoG (as:List V):Option V:=if h:∃ p:Bool × List El,as=[elsV p.1 p.2]∧WholeOk p.1 p.2 then some (wholeV (Classical.choose h).2) else none
theorem whoG_eq {c:Bool} {l:List El} (hw:WholeOk c l):whoG [elsV c l]=some (wholeV l):=by
 have h:∃ p:Bool × List El,[elsV c l]=[elsV p.1 p.2]∧WholeOk p.1 p.2:=⟨(c,l),rfl,hw⟩
 have e:=(Classical.choose_spec h).1
 unfold whoG
 rw [dif_pos h]
 generalize Classical.choose h=q at *
 simp only [elsV,List.cons.injEq,V.sl.injEq,and_true] at e
 rw [elC_inj e.2.2]
theorem whoG_some {as:List V} {v:V} (h:whoG as=some v):∃ c l,as=[elsV c l]∧WholeOk c l∧v=wholeV l:=by
 unfold whoG at h
 split at h
 ·rename_i hx
  cases h
  obtain ⟨h1,h2⟩:=Classical.choose_spec hx
  exact ⟨_,_,h1,h2,rfl⟩
 ·cases h
noncomputable def FB2:Nat→Option Fc
 | 33=>some (knFc 1 33 (plainKn whoG))
 | n=>FB1 n
theorem sub2:Sub' FB1 FB2:=by
 intro f fc h
 unfold FB2
 split
 ·cases h
 ·exact h
theorem view_none {h:List B} {d:Nat} (l:List El) (hw:wholeV l ≠ .dead):V.view h (d+2) (wholeV l)=some (wholeV l):=by
 have key:∀ (A:List Int) (b:Bool),V.view h (d+2) (.tup [lw false A,.bool b,.int .i64 0])=some (.tup [lw false A,.bool b,.int .i64 0]):=fun A b =>
  (Vw.tup (VwL.cons ⟨view_lw _ _⟩ (VwL.cons (Vw.bool rfl) (VwL.cons (Vw.int rfl) VwL.nil)))).1
 unfold wholeV at hw ⊢
 split at hw
 ·rename_i h1;rw [if_pos h1];rfl
 ·rename_i h1
  rw [if_neg h1]
  split at hw
  ·rfl
  ·split at hw
   ·exact key _ _
   ·exact absurd rfl hw
theorem whole_fun {c:Bool} {l:List El} (hw:WholeOk c l) (hd:wholeV l ≠ .dead):Fun FB2 md 33 [elsV c l] (wholeV l):=fun_kn rfl rfl (whoG_eq hw) (view_none l hd)
theorem gatherV_view {l:List El}:V.view [] depth (gatherV l)=some (gatherV l):=by
 unfold gatherV
 split <;> rfl
set_option maxRecDepth 100000 in
set_option maxHeartbeats 20000000 in
theorem whole_err {c:Bool} {l:List El} (hv:vldE l≠0):WholeOk c l:=by
 have hg:=gather_fun (c:=c) (l:=l) gatherV_view
 unfold gatherV at hg
 rw [if_pos hv] at hg
 unfold WholeOk wholeV
 rw [if_pos hv]
 generalize vldE l=e at *
 refine (fV_eq (K:=fun tm=>wpm FB1 md 0 _ ⟨tm,[]⟩ _)).1 ?_
 repeat' (first
 | (conv=>whnf)
   first
   | (refine Br.decF ?_ ?_;(focus first | assumption | omega))
   | refine Br.not ?_
   | refine call_fun rfl rfl hg (.inl rfl) ?_
   | refine Get.mk _ rfl ?_
   | refine Leaves.of ?_
   | refine Vw.bool ?_
   | refine Vw.int ?_
   | refine Vw.nil
   | refine Vw.tup ?_
   | refine VwL.cons ?_ ?_
   | refine VwL.nil)
 all_goals first | rfl | (exfalso;omega;done)
set_option maxRecDepth 100000 in
set_option maxHeartbeats 20000000 in
theorem whole_rnd {c:Bool} {l:List El} (hv:vldE l=0) (hn:(pAll l).length≤1000000)
  (hw:∀ k∈keysOf (pAll l),Fun FB1 md 69 [gatV (pAll l),.int .i64 k,.int .i64 k,.int .i64 k] (wayV (wayP (pAll l) k k k))) (hne:∀ k,wayP (pAll l) k k k≠some [])
  {x:List Int} (hr:roundP (fun k=>wayP (pAll l) k k k) (isort (keysOf (pAll l)))=some x):WholeOk c l:=by
 have hg:=gather_fun (c:=c) (l:=l) gatherV_view
 unfold gatherV at hg
 rw [if_neg (fun h=>h hv)] at hg
 unfold WholeOk wholeV
 rw [if_neg (fun h=>h hv),hr]
 have hxn:x≠[]:=fun h=>by
  subst h
  exact round_ne (w:=fun k=>wayP (pAll l) k k k) hne _ none (by simp) hr
 obtain ⟨y,r,rfl⟩:∃ y r,x=y :: r:=by
  cases x with
  | nil=>exact absurd rfl hxn
  | cons y r=>exact ⟨y,r,rfl⟩
 generalize pAll l=D at *
 have hrc:∀ {h:List B} {ro:Nat} {K:V→List B→Prop},K (bestV (some (y :: r))) h→CallP FB1 md ro (.fn 66 []) [gatV D] h K:=fun hk=>round_call hn hw hne (by rw [show isort (D.map (·.k))=isort (keysOf D) from rfl,hr];exact hk)
 refine (fV_eq (K:=fun tm=>wpm FB1 md 0 _ ⟨tm,[]⟩ _)).1 ?_
 repeat' (first
 | (conv=>whnf)
   first
   | refine Br.t ?_
   | refine Br.f ?_
   | refine call_fun rfl rfl hg (.inl rfl) ?_
   | refine hrc ?_
   | refine Get.mk _ rfl ?_
   | refine Leaves.of ?_
   | refine Vw.bool ?_
   | refine Vw.int ?_
   | refine Vw.nil
   | refine Vw.tup ?_
   | refine VwL.cons ?_ ?_
   | refine VwL.nil)
 all_goals first | rfl | (exfalso;omega;done)
theorem whole_all {c:Bool} {l:List El} {A:List Int} (hv:vldE l=0) (hn:(pAll l).length≤100000) (hL:∀ e∈pAll l,e.L.length≤100000) (nd:(keysOf (pAll l)).Nodup)
  (hw:∀ k∈keysOf (pAll l),Fun FB1 md 69 [gatV (pAll l),.int .i64 k,.int .i64 k,.int .i64 k] (wayV (wayP (pAll l) k k k))) (hne:∀ k,wayP (pAll l) k k k≠some [])
  (hr:roundP (fun k=>wayP (pAll l) k k k) (isort (keysOf (pAll l)))=none) (hgo:wgo (pAll l) (pAll l).length (keysOf (pAll l)) []=some A)
  (hw2:∀ i,0<i→i<A.length→Fun FB1 md 69 [gatV (pAll l),.int .i64 (kAt A (i - 1)),.int .i64 (kAt A i),.int .i64 0] (wayV (wayP (pAll l) (kAt A (i - 1)) (kAt A i) 0))):WholeOk c l:=by
 have hg:=gather_fun (c:=c) (l:=l) gatherV_view
 unfold gatherV at hg
 rw [if_neg (fun h=>h hv)] at hg
 unfold WholeOk wholeV
 rw [if_neg (fun h=>h hv),hr,hgo]
 exact whole_walk hg hn hL nd hw hne hr hgo (w2:=fun a b=>wayP (pAll l) a b 0) hw2 c33 rfl
end Go.Dr.T
namespace Go.Dr.T
theorem hasInt {l:List V} (h:(Ty.int .i64).has l):∃ n:Int,l=[.int .i64 n]:=by
 simp only [Ty.has] at h
 obtain ⟨n,rfl,h1,h2⟩:=h
 exact ⟨n,rfl⟩
theorem hasStr {l:List V} (h:Ty.str.has l):∃ s,l=[.str s]:=by
 simpa only [Ty.has] using h
theorem int_val {v:V} (h:(Ty.int .i64).val v):∃ n,v = .int .i64 n:=by
 obtain ⟨n,e⟩:=hasInt (l:=[v]) h
 simp only [List.cons.injEq,and_true] at e
 exact ⟨n,e⟩
theorem two_has {x:List V} (h:(Ty.agg [.int .i64,.int .i64]).has x):∃ a b:Int,x=[.int .i64 a,.int .i64 b]:=by
 simp only [Ty.has,Ty.hasAll] at h
 obtain ⟨a,b,rfl,⟨n,rfl,_⟩,c,d,rfl,⟨m,rfl,_⟩,rfl⟩:=h
 exact ⟨n,m,rfl⟩
theorem pairs_cells:∀ {xs:List (List V)},(∀ x∈xs,x.length=2∧(Ty.agg [.int .i64,.int .i64]).has x)→∃ l:List (Int × Int),xs.flatten=shC l∧xs.length=l.length
 | [],_=>⟨[],rfl,rfl⟩
 | x :: xs,h=>by
  obtain ⟨l,h1,h2⟩:=pairs_cells (xs:=xs) fun y hy=>h y (by simp [hy])
  obtain ⟨_,hx⟩:=h x (by simp)
  obtain ⟨a,b,rfl⟩:=two_has hx
  exact ⟨(a,b) :: l,by simp only [List.flatten_cons,h1];rfl,by simp [h2]⟩
abbrev TyP:Ty:=.slice 2 (.agg [.int .i64,.int .i64])
theorem pairs_has {v:List V} (h:TyP.has v):∃ l:List (Int × Int),v=[.sl false l.length (shC l)]:=by
 rw [TyP,Ty.has] at h
 obtain ⟨xs,rfl,hx⟩:=h
 obtain ⟨l,h1,h2⟩:=pairs_cells (xs:=xs) hx
 exact ⟨l,by rw [h1,h2]⟩
theorem pairs_val {v:V} (h:TyP.val v):∃ l:List (Int × Int),v = .sl false l.length (shC l):=by
 obtain ⟨l,e⟩:=pairs_has (v:=[v]) h
 simp only [List.cons.injEq,and_true] at e
 exact ⟨l,e⟩
abbrev TyEl:Ty:=.agg [.str,TyP,.int .i64]
def elA (x:El):V:=.agg x.v
theorem el_all {l:List V} (h:Ty.hasAll [.str,TyP,.int .i64] l):∃ x:El,l=x.v:=by
 simp only [Ty.hasAll] at h
 obtain ⟨a,b,rfl,ha,c,d,rfl,hc,e,f,rfl,he,rfl⟩:=h
 obtain ⟨s,rfl⟩:=hasStr ha
 obtain ⟨l,rfl⟩:=pairs_has hc
 obtain ⟨n,rfl⟩:=hasInt he
 exact ⟨⟨s,false,l,n⟩,rfl⟩
theorem el_val {v:V} (h:TyEl.val v):∃ x:El,v=elA x:=by
 simp only [Ty.val] at h
 obtain ⟨l,rfl,h⟩:=h
 obtain ⟨x,rfl⟩:=el_all h
 exact ⟨x,rfl⟩
theorem els_cells:∀ {xs:List (List V)},(∀ x∈xs,x.length=3∧TyEl.has x)→∃ l:List El,xs.flatten=elC l∧xs.length=l.length
 | [],_=>⟨[],rfl,rfl⟩
 | x :: xs,h=>by
  obtain ⟨l,h1,h2⟩:=els_cells (xs:=xs) fun y hy=>h y (by simp [hy])
  obtain ⟨_,hx⟩:=h x (by simp)
  obtain ⟨y,rfl⟩:=el_all (by simpa only [Ty.has] using hx)
  exact ⟨y :: l,by simp only [List.flatten_cons,h1];rfl,by simp [h2]⟩
abbrev TyEls:Ty:=.slice 3 TyEl
theorem els_val {v:V} (h:TyEls.val v):∃ l:List El,v=elsV false l:=by
 rw [TyEls] at h
 simp only [Ty.val] at h
 rw [Ty.has] at h
 obtain ⟨xs,e,hx⟩:=h
 simp only [List.cons.injEq,and_true] at e
 subst e
 obtain ⟨l,h1,h2⟩:=els_cells (xs:=xs) hx
 exact ⟨l,by rw [h1,h2]⟩
theorem two_val {v:V} (h:(Ty.agg [TyEl,TyEl]).val v):∃ x y:El,v = .agg (x.v++y.v):=by
 simp only [Ty.val,Ty.hasAll] at h
 obtain ⟨l,rfl,a,b,rfl,ha,c,d,rfl,hc,rfl⟩:=h
 obtain ⟨x,rfl⟩:=el_all (by simpa only [Ty.has] using ha)
 obtain ⟨y,rfl⟩:=el_all (by simpa only [Ty.has] using hc)
 exact ⟨x,y,by rw [List.append_nil]⟩
end Go.Dr.T
namespace Go.Dr.T
def elN:El:=⟨[110,101,103],true,[(1,100),(2,50),(3,80),(4,60)],0⟩
def elP:El:=⟨[112,114,105,110,116,45,98],true,[(1,96),(3,80),(0,58),(5,40)],2⟩
def elQ:El:=⟨[99,117,116],true,[(2,48),(5,44),(4,60)],1⟩
def elU:El:=⟨[117],true,[(0,60)],0⟩
def el3:List El:=[elN,elP,elQ]
def D3:List PE:=pAll el3
theorem vld3:vldE el3=0:=by decide +kernel
theorem keys3:keysOf (pAll el3)=[1,2,3,4,5]:=by decide +kernel
theorem len3:(pAll el3).length=5:=by decide +kernel
theorem way3 {a t ab:Int} {r:Option (List Int)} (h:wayGo (pAll el3) a t ab 1002 0 []=some r):Fun FB1 md 69 [gatV (pAll el3),.int .i64 a,.int .i64 t,.int .i64 ab] (wayV (wayP (pAll el3) a t ab)):=by
 have e:wayP (pAll el3) a t ab=r:=by unfold wayP;rw [h];rfl
 rw [e]
 exact way_fun (by rw [len3];decide) (by decide +kernel) (by decide +kernel) (by rw [show (pAll el3).map (·.k)=[1,2,3,4,5] from keys3];decide) h
theorem wayGo_ne {D:List PE} {a t ab:Int}:∀ {n p:Nat} {bf:List (Int × Int)},wayGo D a t ab n p bf≠some (some [])
 | 0,_,_=>by unfold wayGo;simp
 | n+1,p,bf=>by
  unfold wayGo
  split
  ·simp
  ·split
   ·intro h
    obtain ⟨cs,_,h2⟩:=map_some h
    simp at h2
   ·exact wayGo_ne
theorem wayP_ne {D:List PE} {a t ab:Int}:wayP D a t ab≠some []:=by
 unfold wayP
 intro h
 cases hg:wayGo D a t ab 1002 0 [] with
 | none=>rw [hg] at h;cases h
 | some r=>rw [hg] at h;exact wayGo_ne (hg.trans (congrArg some h))
theorem whole3 {c:Bool}:WholeOk c el3:=by
 refine whole_all (A:=[1,2,3,5,4]) vld3 (by rw [len3];decide) (by decide +kernel) (by rw [keys3];decide) (fun k hk => ?_) (fun k=>wayP_ne) (by decide +kernel) (by decide +kernel) (fun i h0 hi => ?_)
 ·rw [keys3] at hk
  simp only [List.mem_cons,List.not_mem_nil,or_false] at hk
  rcases hk with rfl | rfl | rfl | rfl | rfl <;> exact way3 (r:=none) (by decide +kernel)
 ·simp only [List.length_cons,List.length_nil] at hi
  obtain rfl | rfl | rfl | rfl:i=1∨i=2∨i=3∨i=4:=by omega
  ·exact way3 (r:=some [1]) (by decide +kernel)
  ·exact way3 (r:=some [2]) (by decide +kernel)
  ·exact way3 (r:=some [3]) (by decide +kernel)
  ·exact way3 (r:=some [5]) (by decide +kernel)
theorem whole3_v:wholeV el3 = .tup [.sl false 5 (ofInts [1,2,3,5,4]),.bool true,.int .i64 0]:=veq_eq (by decide +kernel)
theorem whole3_doc:Fun FB2 md 33 [elsV false el3] (wholeV el3):=whole_fun whole3 (by rw [whole3_v];intro h;cases h)
theorem gather3_doc:Fun FB2 md 65 [elsV false el3] (gatherV el3):=(gather_fun gatherV_view).tab sub2
end Go.Dr.T
namespace Go.Dr.T
def kwn (l:List V) (v:V) (as:List V):Option V:=match veqs as l with
 | true=>some v
 | false=>none
theorem kwn_eq {l:List V} {v w:V} {as:List V} (h:kwn l v as=some w):as=l∧w=v:=by
 unfold kwn at h
 split at h <;> cases h
 rename_i e
 exact ⟨veqs_eq e,rfl⟩
noncomputable def S1 (n:Nat):Option (List V→Option V) :=
 match n with
 | 33=>some (kwn [elsV false el3] (wholeV el3))
 | 65=>some (kwn [elsV false el3] (gatherV el3))
 | _=>none
theorem known1:Known FB2 md S1:=by
 intro fn g hg as v h
 unfold S1 at hg
 split at hg
 ·cases hg
  obtain ⟨rfl,rfl⟩:=kwn_eq h
  exact whole3_doc
 ·cases hg
  obtain ⟨rfl,rfl⟩:=kwn_eq h
  exact gather3_doc
 ·cases hg
theorem best_doc:Fun FB2 md 21 [elA elN,elA elP,.int .i64 10] (.tup [.int .i64 205,.int .i64 1,.int .i64 0]):=fun_is known1 (n:=300) (by decide +kernel)
theorem judge_doc:Fun FB2 md 26 [elA elN,elA elP,.int .i64 10,.sl true 1 (ofInts [1,1])] (.tup [.int .i64 0,.int .i64 160]):=fun_is known1 (n:=300) (by decide +kernel)
def allR:V:=.tup [.sl false 1 [.sl false 1 (ofInts [2,0])],.int .i64 0]
theorem all_doc:Fun FB2 md 23 [elA elN,elA elU,.int .i64 20,.int .i64 1] allR:=fun_is known1 (n:=400) (by decide +kernel)
def verR:V:=.tup [.sl false 5 (ofInts [1,0,0,2,0,1,3,0,2,5,2,1,4,0,3]),.int .i64 334,.int .i64 0]
theorem ver_doc:Fun FB2 md 42 [elsV false el3,.sl true 5 (ofInts [1,2,3,5,4])] verR:=fun_is known1 (n:=300) (by decide +kernel)
noncomputable def S2 (n:Nat):Option (List V→Option V) :=
 match n with
 | 21=>some (kwn [elA elN,elA elP,.int .i64 10] (.tup [.int .i64 205,.int .i64 1,.int .i64 0]))
 | 26=>some (kwn [elA elN,elA elP,.int .i64 10,.sl true 1 (ofInts [1,1])] (.tup [.int .i64 0,.int .i64 160]))
 | 23=>some (kwn [elA elN,elA elU,.int .i64 20,.int .i64 1] allR)
 | 42=>some (kwn [elsV false el3,.sl true 5 (ofInts [1,2,3,5,4])] verR)
 | n=>S1 n
theorem known2:Known FB2 md S2:=by
 intro fn g hg as v h
 unfold S2 at hg
 split at hg
 ·cases hg
  obtain ⟨rfl,rfl⟩:=kwn_eq h
  exact best_doc
 ·cases hg
  obtain ⟨rfl,rfl⟩:=kwn_eq h
  exact judge_doc
 ·cases hg
  obtain ⟨rfl,rfl⟩:=kwn_eq h
  exact all_doc
 ·cases hg
  obtain ⟨rfl,rfl⟩:=kwn_eq h
  exact ver_doc
 ·exact known1 _ _ hg as v h
theorem awake:Fun FB2 md 20 [] (.bool true):=fun_is known2 (n:=300) (by decide +kernel)
end Go.Dr.T
namespace Go.Dr.T
set_option maxRecDepth 100000 in
set_option maxHeartbeats 20000000 in
theorem pairs_ok {c d:Bool} {l:List (Int × Int)} (hl:l.length≤1000000):Fun FB md 29 [.sl c l.length (shC l),.sl d l.length (shC l)] (.bool true):=by
 refine fun_of rfl rfl ?_
 repeat' (first
 | (conv=>whnf)
   first
   | (refine Br.decT ?_ ?_;(focus first | assumption | omega))
   | refine Br.not ?_)
 all_goals try (exfalso;omega;done)
 refine LoopP.by (fun i:Nat=>i≤l.length) (fun i=>[(5,.int .i64 (i:Nat))]) (fun _=>[]) (fun i=>l.length - i) 0 (Nat.zero_le _) rfl ?_
 rintro i hi'
 dsimp only
 by_cases hi:i<l.length
 rotate_left
 ·repeat' (first
 | (conv=>whnf)
   first
   | (refine Br.decF ?_ ?_;(focus first | assumption | omega))
   | refine Get.mk _ rfl ?_
   | refine Leaves.of ?_
   | refine Vw.bool ?_)
  all_goals first | rfl | (exfalso;omega)
 obtain ⟨p,hp⟩:∃ p,l[i]?=some p:=⟨_,List.getElem?_eq_getElem hi⟩
 have hpp:=shC_part hp
 repeat' (first
 | (conv=>whnf)
   first
   | refine Br.t ?_
   | (refine Br.decT ?_ ?_;(focus first | assumption | omega))
   | refine Br.not ?_
   | refine Br.and ?_
   | (refine Bnd.i64 ?_ ?_ ?_;(focus omega);(focus omega))
   | refine Get.mk _ hpp ?_
   | (refine Idx.nat ?_ ?_;(focus omega))
   | refine Get.mk _ rfl ?_
   | (refine Req.mk ?_ ?_;(focus first | rfl | decide | exact ⟨rfl,rfl⟩ | exact ⟨rfl,by decide⟩ | exact (fun _=>rfl) | exact (fun h=>nomatch h) | (simp;done) | omega | (simp [big];done) | exact le_big (by omega) | exact lt_big (by omega))))
 all_goals first | (exfalso;omega;done) | exact NextP.mk (i+1) hi (by omega) rfl
end Go.Dr.T
namespace Go.Dr.T
theorem suRow_len {W V Sh Wb:Nat→Nat→Int} {m i:Nat}:∀ (l:Nat) (p:List (Int × Int) × List (Int × Int)),(suRow W V Sh Wb m i l p).1.length≤p.1.length+l∧(suRow W V Sh Wb m i l p).2.length≤p.2.length+l
 | 0,p=>⟨Nat.le_refl _,Nat.le_refl _⟩
 | l+1,p=>by
  have h1:=suRow_len (W:=W) (V:=V) (Sh:=Sh) (Wb:=Wb) (m:=m) (i:=i) l (suStep W V Sh Wb i (m - (l+1)) p)
  have h2:=suStep_len (W:=W) (V:=V) (Sh:=Sh) (Wb:=Wb) (i:=i) (j:=m - (l+1)) (p:=p)
  unfold suRow
  omega
theorem suAll_len {W V Sh Wb:Nat→Nat→Int} {n m:Nat} (hm:m≤40):∀ (k:Nat) (p:List (Int × Int) × List (Int × Int)),(suAll W V Sh Wb n m k p).1.length≤p.1.length+40 * k∧(suAll W V Sh Wb n m k p).2.length≤p.2.length+40 * k
 | 0,p=>⟨Nat.le_refl _,Nat.le_refl _⟩
 | k+1,p=>by
  have h1:=suAll_len (W:=W) (V:=V) (Sh:=Sh) (Wb:=Wb) (n:=n) hm k (suRow W V Sh Wb m (n - (k+1)) m p)
  have h2:=suRow_len (W:=W) (V:=V) (Sh:=Sh) (Wb:=Wb) (m:=m) (i:=n - (k+1)) m p
  unfold suAll
  omega
theorem rSurely_len {x y:El} {s:Int} (ha:shOk x.l) (hb:shOk y.l):(rSurely x y s).1.length≤1600∧(rSurely x y s).2.length≤1600:=by
 have h:=suAll_len (W:=openT x y s) (V:=vT (shA x.l y.l s)) (Sh:=shA x.l y.l s) (Wb:=wbT x.l y.l s) (n:=x.l.length) hb.1 x.l.length ([],[])
 have:=ha.1
 unfold rSurely
 simp only [List.length_nil] at h
 omega
theorem surelyV_eq {x y:El} {s:Int}:surelyV x y s=rSurelyV x y s:=by
 unfold surelyV rSurelyV
 by_cases he:openE x y s=0
 ·rw [if_neg (fun h=>h he),if_neg (fun h=>h he)]
  obtain ⟨ha,hb,_⟩:=open_good he
  rw [← surely_same ha hb]
 ·rw [if_pos he,if_pos he]
set_option maxRecDepth 100000 in
theorem law_surely {x y:El} {s:Int}:Fun FB2 md 14 [elA x,elA y,.int .i64 s] (.bool true):=by
 have h1:=((surely_ok (x:=x) (y:=y) (s:=s)).tab sub1).tab sub2
 have h2:=((refSurely_ok (x:=x) (y:=y) (s:=s)).tab sub1).tab sub2
 have h3:=awake
 rw [surelyV_eq] at h1
 unfold rSurelyV at h1 h2
 by_cases he:openE x y s=0
 ·rw [if_neg (fun h=>h he)] at h1 h2
  obtain ⟨ha,hb,_⟩:=open_good he
  obtain ⟨l1,l2⟩:=rSurely_len (s:=s) ha hb
  generalize rSurely x y s=p at *
  obtain ⟨M,S⟩:=p
  dsimp only at *
  obtain ⟨c,hc⟩:=lsP_eq M
  obtain ⟨d,hd⟩:=lsP_eq S
  rw [hc,hd] at h1 h2
  have p1:=((pairs_ok (c:=c) (d:=c) (l:=M) (by omega)).tab sub1).tab sub2
  have p2:=((pairs_ok (c:=d) (d:=d) (l:=S) (by omega)).tab sub1).tab sub2
  refine fun_of rfl rfl ?_
  repeat' (first
 | (conv=>whnf)
   first
   | refine Br.t ?_
   | refine call_fun rfl rfl h1 (.inl rfl) ?_
   | refine call_fun rfl rfl h2 (.inl rfl) ?_
   | refine call_fun rfl rfl p1 (.inl rfl) ?_
   | refine call_fun rfl rfl p2 (.inl rfl) ?_
   | refine call_fun rfl rfl h3 (.inl rfl) ?_
   | refine Get.mk _ rfl ?_
   | refine Leaves.of ?_
   | refine Vw.bool ?_
   | (refine Req.mk ?_ ?_;(focus first | rfl | decide | exact ⟨rfl,rfl⟩ | exact ⟨rfl,by decide⟩ | exact (fun _=>rfl) | exact (fun h=>nomatch h) | (simp;done) | omega | (simp [big];done) | exact le_big (by omega) | exact lt_big (by omega))))
  all_goals first | rfl | simp
 ·rw [if_pos he] at h1 h2
  have p1:=((pairs_ok (c:=true) (d:=true) (l:=[]) (by decide)).tab sub1).tab sub2
  generalize openE x y s=e at *
  refine fun_of rfl rfl ?_
  repeat' (first
 | (conv=>whnf)
   first
   | refine Br.t ?_
   | (refine Br.decT ?_ ?_;(focus first | assumption | omega))
   | refine call_fun rfl rfl h1 (.inl rfl) ?_
   | refine call_fun rfl rfl h2 (.inl rfl) ?_
   | refine call_fun rfl rfl p1 (.inl rfl) ?_
   | refine call_fun rfl rfl h3 (.inl rfl) ?_
   | refine Get.mk _ rfl ?_
   | refine Leaves.of ?_
   | refine Vw.bool ?_
   | (refine Req.mk ?_ ?_;(focus first | rfl | decide | exact ⟨rfl,rfl⟩ | exact ⟨rfl,by decide⟩ | exact (fun _=>rfl) | exact (fun h=>nomatch h) | (simp;done) | omega | (simp [big];done) | exact le_big (by omega) | exact lt_big (by omega))))
  all_goals first | rfl | simp
end Go.Dr.T
