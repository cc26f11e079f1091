/- Chapter 06: Whole as a function of what it is given; the table with it. -/
import Derived.Test.YtfhphjloaelgoaaGreatDoorR06T4
import Derived.Test.YtfhphjloaelgoaaGreatDoorG2
import Derived.Test.YtfhphjloaelgoaaGreatDoorDrE
import Derived.Test.YtfhphjloaelgoaaGreatDoorG5
import Derived.Test.YtfhphjloaelgoaaGreatDoorG8
import Derived.Test.YtfhphjloaelgoaaGreatDoorDrJ
namespace Go.Dr.T
def wayP (D:List PE) (a t ab:Int):Option (List Int):=(wayGo D a t ab 1002 0 []).getD none
def keysOf (D:List PE):List Int:=D.map (·.k)
def wholeV (l:List El):V :=
 if vldE l≠0 then .tup [.sl true 0 [],.bool false,.int .i64 (vldE l)] else
 match roundP (fun k=>wayP (pAll l) k k k) (isort (keysOf (pAll l))) with
 | some _=>.tup [.sl true 0 [],.bool false,.int .i64 161]
 | none=>match wgo (pAll l) (pAll l).length (keysOf (pAll l)) [] with
  | some A=>.tup [lw false A,.bool (onlyN (fun a b=>wayP (pAll l) a b 0) A A.length),.int .i64 0]
  | none=>.dead
def WholeOk (c:Bool) (l:List El):Prop:=wpm FB1 md 0 c33.body ⟨[elsV c l]++deads (c33.ntm - c33.np),[]⟩ (Leaves c33.res (wholeV l))
open Classical in
noncomputable def whoG (as:List V):Option V:=if h:∃ p:Bool × List El,as=[elsV p.1 p.2]∧WholeOk p.1 p.2 then some (wholeV (Classical.choose h).2) else none
theorem whoG_eq {c:Bool} {l:List El} (hw:WholeOk c l):whoG [elsV c l]=some (wholeV l):=by
 have h:∃ p:Bool × List El,[elsV c l]=[elsV p.1 p.2]∧WholeOk p.1 p.2:=⟨(c,l),rfl,hw⟩
 have e:=(Classical.choose_spec h).1
 unfold whoG
 rw [dif_pos h]
 generalize Classical.choose h=q at *
 simp only [elsV,List.cons.injEq,V.sl.injEq,and_true] at e
 rw [elC_inj e.2.2]
theorem whoG_some {as:List V} {v:V} (h:whoG as=some v):∃ c l,as=[elsV c l]∧WholeOk c l∧v=wholeV l:=by
 unfold whoG at h
 split at h
 ·rename_i hx
  cases h
  obtain ⟨h1,h2⟩:=Classical.choose_spec hx
  exact ⟨_,_,h1,h2,rfl⟩
 ·cases h
noncomputable def FB2:Nat→Option Fc
 | 33=>some (knFc 1 33 (plainKn whoG))
 | n=>FB1 n
theorem sub2:Sub' FB1 FB2:=by
 intro f fc h
 unfold FB2
 split
 ·cases h
 ·exact h
theorem view_none {h:List B} {d:Nat} (l:List El) (hw:wholeV l ≠ .dead):V.view h (d+2) (wholeV l)=some (wholeV l):=by
 have key:∀ (A:List Int) (b:Bool),V.view h (d+2) (.tup [lw false A,.bool b,.int .i64 0])=some (.tup [lw false A,.bool b,.int .i64 0]):=fun A b =>
  (Vw.tup (VwL.cons ⟨view_lw _ _⟩ (VwL.cons (Vw.bool rfl) (VwL.cons (Vw.int rfl) VwL.nil)))).1
 unfold wholeV at hw ⊢
 split at hw
 ·rename_i h1;rw [if_pos h1];rfl
 ·rename_i h1
  rw [if_neg h1]
  split at hw
  ·rfl
  ·split at hw
   ·exact key _ _
   ·exact absurd rfl hw
theorem whole_fun {c:Bool} {l:List El} (hw:WholeOk c l) (hd:wholeV l ≠ .dead):Fun FB2 md 33 [elsV c l] (wholeV l):=fun_kn rfl rfl (whoG_eq hw) (view_none l hd)
theorem gatherV_view {l:List El}:V.view [] depth (gatherV l)=some (gatherV l):=by
 unfold gatherV
 split <;> rfl
theorem whole_all {c:Bool} {l:List El} {A:List Int} (hv:vldE l=0) (hn:(pAll l).length≤100000) (hL:∀ e∈pAll l,e.L.length≤100000) (nd:(keysOf (pAll l)).Nodup)
  (hw:∀ k∈keysOf (pAll l),Fun FB1 md 69 [gatV (pAll l),.int .i64 k,.int .i64 k,.int .i64 k] (wayV (wayP (pAll l) k k k))) (hne:∀ k,wayP (pAll l) k k k≠some [])
  (hr:roundP (fun k=>wayP (pAll l) k k k) (isort (keysOf (pAll l)))=none) (hgo:wgo (pAll l) (pAll l).length (keysOf (pAll l)) []=some A)
  (hw2:∀ i,0<i→i<A.length→Fun FB1 md 69 [gatV (pAll l),.int .i64 (kAt A (i - 1)),.int .i64 (kAt A i),.int .i64 0] (wayV (wayP (pAll l) (kAt A (i - 1)) (kAt A i) 0))):WholeOk c l:=by
 have hg:=gather_fun (c:=c) (l:=l) gatherV_view
 unfold gatherV at hg
 rw [if_neg (fun h=>h hv)] at hg
 unfold WholeOk wholeV
 rw [if_neg (fun h=>h hv),hr,hgo]
 exact whole_walk hg hn hL nd hw hne hr hgo (w2:=fun a b=>wayP (pAll l) a b 0) hw2 c33 rfl
end Go.Dr.T
namespace Go.Dr.T
theorem hasInt {l:List V} (h:(Ty.int .i64).has l):∃ n:Int,l=[.int .i64 n]:=by
 simp only [Ty.has] at h
 obtain ⟨n,rfl,h1,h2⟩:=h
 exact ⟨n,rfl⟩
theorem hasStr {l:List V} (h:Ty.str.has l):∃ s,l=[.str s]:=by
 simpa only [Ty.has] using h
theorem int_val {v:V} (h:(Ty.int .i64).val v):∃ n,v = .int .i64 n:=by
 obtain ⟨n,e⟩:=hasInt (l:=[v]) h
 simp only [List.cons.injEq,and_true] at e
 exact ⟨n,e⟩
theorem two_has {x:List V} (h:(Ty.agg [.int .i64,.int .i64]).has x):∃ a b:Int,x=[.int .i64 a,.int .i64 b]:=by
 simp only [Ty.has,Ty.hasAll] at h
 obtain ⟨a,b,rfl,⟨n,rfl,_⟩,c,d,rfl,⟨m,rfl,_⟩,rfl⟩:=h
 exact ⟨n,m,rfl⟩
theorem pairs_cells:∀ {xs:List (List V)},(∀ x∈xs,x.length=2∧(Ty.agg [.int .i64,.int .i64]).has x)→∃ l:List (Int × Int),xs.flatten=shC l∧xs.length=l.length
 | [],_=>⟨[],rfl,rfl⟩
 | x :: xs,h=>by
  obtain ⟨l,h1,h2⟩:=pairs_cells (xs:=xs) fun y hy=>h y (by simp [hy])
  obtain ⟨_,hx⟩:=h x (by simp)
  obtain ⟨a,b,rfl⟩:=two_has hx
  exact ⟨(a,b) :: l,by simp only [List.flatten_cons,h1];rfl,by simp [h2]⟩
abbrev TyP:Ty:=.slice 2 (.agg [.int .i64,.int .i64])
theorem pairs_has {v:List V} (h:TyP.has v):∃ l:List (Int × Int),v=[.sl false l.length (shC l)]:=by
 rw [TyP,Ty.has] at h
 obtain ⟨xs,rfl,hx⟩:=h
 obtain ⟨l,h1,h2⟩:=pairs_cells (xs:=xs) hx
 exact ⟨l,by rw [h1,h2]⟩
theorem pairs_val {v:V} (h:TyP.val v):∃ l:List (Int × Int),v = .sl false l.length (shC l):=by
 obtain ⟨l,e⟩:=pairs_has (v:=[v]) h
 simp only [List.cons.injEq,and_true] at e
 exact ⟨l,e⟩
abbrev TyEl:Ty:=.agg [.str,TyP,.int .i64]
def elA (x:El):V:=.agg x.v
theorem el_all {l:List V} (h:Ty.hasAll [.str,TyP,.int .i64] l):∃ x:El,l=x.v:=by
 simp only [Ty.hasAll] at h
 obtain ⟨a,b,rfl,ha,c,d,rfl,hc,e,f,rfl,he,rfl⟩:=h
 obtain ⟨s,rfl⟩:=hasStr ha
 obtain ⟨l,rfl⟩:=pairs_has hc
 obtain ⟨n,rfl⟩:=hasInt he
 exact ⟨⟨s,false,l,n⟩,rfl⟩
theorem el_val {v:V} (h:TyEl.val v):∃ x:El,v=elA x:=by
 simp only [Ty.val] at h
 obtain ⟨l,rfl,h⟩:=h
 obtain ⟨x,rfl⟩:=el_all h
 exact ⟨x,rfl⟩
theorem els_cells:∀ {xs:List (List V)},(∀ x∈xs,x.length=3∧TyEl.has x)→∃ l:List El,xs.flatten=elC l∧xs.length=l.length
 | [],_=>⟨[],rfl,rfl⟩
 | x :: xs,h=>by
  obtain ⟨l,h1,h2⟩:=els_cells (xs:=xs) fun y hy=>h y (by simp [hy])
  obtain ⟨_,hx⟩:=h x (by simp)
  obtain ⟨y,rfl⟩:=el_all (by simpa only [Ty.has] using hx)
  exact ⟨y :: l,by simp only [List.flatten_cons,h1];rfl,by simp [h2]⟩
abbrev TyEls:Ty:=.slice 3 TyEl
theorem els_val {v:V} (h:TyEls.val v):∃ l:List El,v=elsV false l:=by
 rw [TyEls] at h
 simp only [Ty.val] at h
 rw [Ty.has] at h
 obtain ⟨xs,e,hx⟩:=h
 simp only [List.cons.injEq,and_true] at e
 subst e
 obtain ⟨l,h1,h2⟩:=els_cells (xs:=xs) hx
 exact ⟨l,by rw [h1,h2]⟩
theorem two_val {v:V} (h:(Ty.agg [TyEl,TyEl]).val v):∃ x y:El,v = .agg (x.v++y.v):=by
 simp only [Ty.val,Ty.hasAll] at h
 obtain ⟨l,rfl,a,b,rfl,ha,c,d,rfl,hc,rfl⟩:=h
 obtain ⟨x,rfl⟩:=el_all (by simpa only [Ty.has] using ha)
 obtain ⟨y,rfl⟩:=el_all (by simpa only [Ty.has] using hc)
 exact ⟨x,y,by rw [List.append_nil]⟩
end Go.Dr.T
namespace Go.Dr.T
def elN:El:=⟨[110,101,103],true,[(1,100),(2,50),(3,80),(4,60)],0⟩
def elP:El:=⟨[112,114,105,110,116,45,98],true,[(1,96),(3,80),(0,58),(5,40)],2⟩
def elQ:El:=⟨[99,117,116],true,[(2,48),(5,44),(4,60)],1⟩
def elU:El:=⟨[117],true,[(0,60)],0⟩
def el3:List El:=[elN,elP,elQ]
def D3:List PE:=pAll el3
theorem vld3:vldE el3=0:=by decide +kernel
theorem keys3:keysOf (pAll el3)=[1,2,3,4,5]:=by decide +kernel
theorem len3:(pAll el3).length=5:=by decide +kernel
theorem way3 {a t ab:Int} {r:Option (List Int)} (h:wayGo (pAll el3) a t ab 1002 0 []=some r):Fun FB1 md 69 [gatV (pAll el3),.int .i64 a,.int .i64 t,.int .i64 ab] (wayV (wayP (pAll el3) a t ab)):=by
 have e:wayP (pAll el3) a t ab=r:=by unfold wayP;rw [h];rfl
 rw [e]
 exact way_fun (by rw [len3];decide) (by decide +kernel) (by decide +kernel) (by rw [show (pAll el3).map (·.k)=[1,2,3,4,5] from keys3];decide) h
theorem wayGo_ne {D:List PE} {a t ab:Int}:∀ {n p:Nat} {bf:List (Int × Int)},wayGo D a t ab n p bf≠some (some [])
 | 0,_,_=>by unfold wayGo;simp
 | n+1,p,bf=>by
  unfold wayGo
  split
  ·simp
  ·split
   ·intro h
    obtain ⟨cs,_,h2⟩:=map_some h
    simp at h2
   ·exact wayGo_ne
theorem wayP_ne {D:List PE} {a t ab:Int}:wayP D a t ab≠some []:=by
 unfold wayP
 intro h
 cases hg:wayGo D a t ab 1002 0 [] with
 | none=>rw [hg] at h;cases h
 | some r=>rw [hg] at h;exact wayGo_ne (hg.trans (congrArg some h))
theorem whole3 {c:Bool}:WholeOk c el3:=by
 refine whole_all (A:=[1,2,3,5,4]) vld3 (by rw [len3];decide) (by decide +kernel) (by rw [keys3];decide) (fun k hk => ?_) (fun k=>wayP_ne) (by decide +kernel) (by decide +kernel) (fun i h0 hi => ?_)
 ·rw [keys3] at hk
  simp only [List.mem_cons,List.not_mem_nil,or_false] at hk
  rcases hk with rfl | rfl | rfl | rfl | rfl <;> exact way3 (r:=none) (by decide +kernel)
 ·simp only [List.length_cons,List.length_nil] at hi
  obtain rfl | rfl | rfl | rfl:i=1∨i=2∨i=3∨i=4:=by omega
  ·exact way3 (r:=some [1]) (by decide +kernel)
  ·exact way3 (r:=some [2]) (by decide +kernel)
  ·exact way3 (r:=some [3]) (by decide +kernel)
  ·exact way3 (r:=some [5]) (by decide +kernel)
theorem whole3_v:wholeV el3 = .tup [.sl false 5 (ofInts [1,2,3,5,4]),.bool true,.int .i64 0]:=veq_eq (by decide +kernel)
theorem whole3_doc:Fun FB2 md 33 [elsV false el3] (wholeV el3):=whole_fun whole3 (by rw [whole3_v];intro h;cases h)
theorem gather3_doc:Fun FB2 md 65 [elsV false el3] (gatherV el3):=(gather_fun gatherV_view).tab sub2
end Go.Dr.T
namespace Go.Dr.T
def kwn (l:List V) (v:V) (as:List V):Option V:=match veqs as l with
 | true=>some v
 | false=>none
theorem kwn_eq {l:List V} {v w:V} {as:List V} (h:kwn l v as=some w):as=l∧w=v:=by
 unfold kwn at h
 split at h <;> cases h
 rename_i e
 exact ⟨veqs_eq e,rfl⟩
noncomputable def S1 (n:Nat):Option (List V→Option V) :=
 match n with
 | 33=>some (kwn [elsV false el3] (wholeV el3))
 | 65=>some (kwn [elsV false el3] (gatherV el3))
 | _=>none
theorem known1:Known FB2 md S1:=by
 intro fn g hg as v h
 unfold S1 at hg
 split at hg
 ·cases hg
  obtain ⟨rfl,rfl⟩:=kwn_eq h
  exact whole3_doc
 ·cases hg
  obtain ⟨rfl,rfl⟩:=kwn_eq h
  exact gather3_doc
 ·cases hg
theorem best_doc:Fun FB2 md 21 [elA elN,elA elP,.int .i64 10] (.tup [.int .i64 205,.int .i64 1,.int .i64 0]):=fun_is known1 (n:=300) (by decide +kernel)
theorem judge_doc:Fun FB2 md 26 [elA elN,elA elP,.int .i64 10,.sl true 1 (ofInts [1,1])] (.tup [.int .i64 0,.int .i64 160]):=fun_is known1 (n:=300) (by decide +kernel)
def allR:V:=.tup [.sl false 1 [.sl false 1 (ofInts [2,0])],.int .i64 0]
theorem all_doc:Fun FB2 md 23 [elA elN,elA elU,.int .i64 20,.int .i64 1] allR:=fun_is known1 (n:=400) (by decide +kernel)
def verR:V:=.tup [.sl false 5 (ofInts [1,0,0,2,0,1,3,0,2,5,2,1,4,0,3]),.int .i64 334,.int .i64 0]
theorem ver_doc:Fun FB2 md 42 [elsV false el3,.sl true 5 (ofInts [1,2,3,5,4])] verR:=fun_is known1 (n:=300) (by decide +kernel)
noncomputable def S2 (n:Nat):Option (List V→Option V) :=
 match n with
 | 21=>some (kwn [elA elN,elA elP,.int .i64 10] (.tup [.int .i64 205,.int .i64 1,.int .i64 0]))
 | 26=>some (kwn [elA elN,elA elP,.int .i64 10,.sl true 1 (ofInts [1,1])] (.tup [.int .i64 0,.int .i64 160]))
 | 23=>some (kwn [elA elN,elA elU,.int .i64 20,.int .i64 1] allR)
 | 42=>some (kwn [elsV false el3,.sl true 5 (ofInts [1,2,3,5,4])] verR)
 | n=>S1 n
theorem known2:Known FB2 md S2:=by
 intro fn g hg as v h
 unfold S2 at hg
 split at hg
 ·cases hg
  obtain ⟨rfl,rfl⟩:=kwn_eq h
  exact best_doc
 ·cases hg
  obtain ⟨rfl,rfl⟩:=kwn_eq h
  exact judge_doc
 ·cases hg
  obtain ⟨rfl,rfl⟩:=kwn_eq h
  exact all_doc
 ·cases hg
  obtain ⟨rfl,rfl⟩:=kwn_eq h
  exact ver_doc
 ·exact known1 _ _ hg as v h
theorem awake:Fun FB2 md 20 [] (.bool true):=fun_is known2 (n:=300) (by decide +kernel)
end Go.Dr.T
namespace Go.Dr.T
def rowC (m:Nat) (f:Nat→Int):List V:=ofInts ((List.range (m+1)).map f)
def up1 (f:Nat→Int) (j:Nat) (v:Int):Nat→Int:=fun k=>if k=j then v else f k
theorem rowC_len {m:Nat} {f:Nat→Int}:(rowC m f).length=m+1:=by simp [rowC,ofInts]
theorem rowC_get {m j:Nat} {f:Nat→Int} (h:j≤m):cellAt (rowC m f) (0+j * 1)=some (.int .i64 (f j)):=by
 rw [Nat.zero_add,Nat.mul_one]
 obtain ⟨y,h1,h2⟩:=cells_ints (l:=(List.range (m+1)).map f) (n:=j) (by simp;omega)
 have:((List.range (m+1)).map f)[j]?=some (f j):=by simp [show j<m+1 by omega]
 rw [this] at h1
 cases h1
 exact h2
theorem rowC_set {m j:Nat} {f:Nat→Int} {v:Int} (h:j≤m):over (rowC m f) (0+j * 1) [.int .i64 v]=rowC m (up1 f j v):=by
 unfold rowC
 rw [Nat.zero_add,Nat.mul_one,over_ints]
 congr 1
 apply List.ext_getElem?
 intro k
 rw [List.getElem?_set]
 by_cases hk:j=k
 ·subst hk
  simp [up1,show j<m+1 by omega]
 ·rw [if_neg hk]
  by_cases hk2:k<m+1
  ·simp [hk2,up1,show ¬ k=j from fun e=>hk e.symm]
  ·rw [List.getElem?_eq_none (by simp;omega),List.getElem?_eq_none (by simp;omega)]
theorem rowC_zero {m:Nat}:reps (m+1) [.int .i64 0]=rowC m (fun _=>0):=by
 have key:∀ k,reps k [V.int .i64 0]=ofInts (List.replicate k 0):=by
  intro k
  induction k with
  | zero=>rfl
  | succ k ih=>rw [reps,ih];rfl
 unfold rowC
 rw [key]
 congr 1
 rw [List.map_const']
 simp
theorem rowC_blo {m n:Nat} {f:Nat→Int}:(B.blk (rowC m f) true).blo n=true:=rfl
def outC (n m:Nat) (rid:Nat→Nat) (hv:Nat→Bool):List V:=(List.range (n+1)).map fun i=>if hv i=true then .ms 1 (rid i) ((m+1) * 1) 0 (m+1) true else .nilsl
theorem outC_len {n m:Nat} {rid:Nat→Nat} {hv:Nat→Bool}:(outC n m rid hv).length=n+1:=by simp [outC]
theorem cellAt_eq:∀ {l:List V} {n:Nat},cellAt l n=l[n]?
 | [],n=>by cases n <;> rfl
 | _ :: l,0=>rfl
 | _ :: l,n+1=>by simpa [cellAt] using cellAt_eq (l:=l) (n:=n)
theorem over_one:∀ {l:List V} {i:Nat} {v:V},over l i [v]=l.set i v
 | [],i,v=>by cases i <;> rfl
 | _ :: l,0,v=>by cases l <;> rfl
 | _ :: l,i+1,v=>by simp only [over,List.set_cons_succ,over_one (l:=l)]
theorem outC_get {n m i:Nat} {rid:Nat→Nat} {hv:Nat→Bool} (h:i≤n) (hi:hv i=true):cellAt (outC n m rid hv) (0+i * 1)=some (.ms 1 (rid i) ((m+1) * 1) 0 (m+1) true):=by
 rw [Nat.zero_add,Nat.mul_one i,cellAt_eq]
 simp [outC,show i<n+1 by omega,hi]
theorem outC_set {n m i:Nat} {rid:Nat→Nat} {hv:Nat→Bool} (h:i≤n):over (outC n m rid hv) (0+i * 1) [.ms 1 (rid i) ((m+1) * 1) 0 (m+1) true]=outC n m rid (fun k=>decide (k=i) || hv k):=by
 unfold outC
 rw [Nat.zero_add,Nat.mul_one i,over_one]
 apply List.ext_getElem?
 intro k
 rw [List.getElem?_set]
 by_cases hk:i=k
 ·subst hk
  simp [show i<n+1 by omega]
 ·rw [if_neg hk]
  by_cases hk2:k<n+1
  ·simp [hk2,show ¬ k=i from fun e=>hk e.symm]
  ·rw [List.getElem?_eq_none (by simp;omega),List.getElem?_eq_none (by simp;omega)]
theorem outC_none {n m:Nat} {rid:Nat→Nat}:reps (n+1) [.nilsl]=outC n m rid (fun _=>false):=by
 have key:∀ k,reps k [V.nilsl]=List.replicate k .nilsl:=by
  intro k
  induction k with
  | zero=>rfl
  | succ k ih=>rw [reps,ih];rfl
 unfold outC
 rw [key]
 simp only [Bool.false_eq_true,if_false]
 rw [List.map_const']
 simp
theorem outC_ext {n m:Nat} {rid:Nat→Nat} {hv hv' : Nat→Bool} (h:∀ k,k≤n→hv k=hv' k):outC n m rid hv=outC n m rid hv' := by
 unfold outC
 apply List.map_congr_left
 intro k hk
 rw [h k (by simp at hk;omega)]
theorem blos_mem {k:Nat}:∀ {l:List V} {v:V},blos k l=true→v∈l→v.blo k=true
 | x :: l,v,h,hm=>by
  simp only [blos,Bool.and_eq_true] at h
  rcases List.mem_cons.1 hm with e | e
  ·subst e;exact h.1
  ·exact blos_mem h.2 e
theorem outC_blo {n m i k:Nat} {rid:Nat→Nat} {hv:Nat→Bool} (h:(B.blk (outC n m rid hv) false).blo k=true) (hi:i≤n) (hh:hv i=true):rid i<k:=by
 simp only [B.blo,Bool.false_or] at h
 have:=blos_mem (v:=.ms 1 (rid i) ((m+1) * 1) 0 (m+1) true) h (by unfold outC;exact List.mem_map.2 ⟨i,by simp;omega,by rw [if_pos hh]⟩)
 simpa [V.blo] using this
theorem blos_of:∀ {k:Nat} {l:List V},(∀ v∈l,v.blo k=true)→blos k l=true
 | k,[],_=>rfl
 | k,x :: l,h=>by simp only [blos,Bool.and_eq_true];exact ⟨h x (by simp),blos_of fun v hv=>h v (by simp [hv])⟩
theorem outC_ok {n m k:Nat} {rid:Nat→Nat} {hv:Nat→Bool} (h:∀ i,i≤n→hv i=true→rid i<k):(B.blk (outC n m rid hv) false).blo k=true:=by
 simp only [B.blo,Bool.false_or]
 refine blos_of fun v hv' => ?_
 unfold outC at hv'
 obtain ⟨i,hi,rfl⟩:=List.mem_map.1 hv'
 split
 ·rename_i hh
  simpa [V.blo] using h i (by simp at hi;omega) hh
 ·rfl
theorem norm_all {mk:List Bool} {n o r:Nat} {tm:List V} {h:List B} {b:B} (hr:h.length=r+1) (hn:n≤r) (ho:o<n) (hb:bget h o=some b) (hv:∀ k,b.blo k=true→r<k):norm mk n ⟨tm,h⟩=⟨masked mk tm,h⟩:=by
 unfold norm trunc
 dsimp only
 obtain ⟨d,hd⟩:∃ d,h.length - n=d+1:=⟨h.length - n - 1,by omega⟩
 rw [hd]
 unfold strip
 rw [show n+d=r by omega]
 have:hbelow r (h.take r)=false:=by
  cases hc:hbelow r (h.take r) with
  | false=>rfl
  | true =>
   have h1:bget (h.take r) o=some b:=by rw [bget_take (by omega)];exact hb
   have hm:b∈h.take r:=by
    have key:∀ {l:List B} {i:Nat} {b:B},bget l i=some b→b∈l:=by
     intro l
     induction l with
     | nil=>intro i b e;cases e
     | cons x l ih =>
      intro i b e
      cases i with
      | zero=>simp only [bget,Option.some.injEq] at e;subst e;simp
      | succ i=>exact List.mem_cons_of_mem _ (ih e)
    exact key h1
   exact absurd (hv r (blo_of_hbelow hc hm)) (Nat.lt_irrefl r)
 rw [this,Bool.and_false]
 rfl
def rowV (m:Nat) (f:Nat→Int):V:=.sl true (m+1) (rowC m f)
def tabV (n m:Nat) (T:Nat→Nat→Int):V:=.sl true (n+1) ((List.range (n+1)).map fun i=>rowV m (T i))
theorem VwLF.ints {h:List B} {d:Nat}:∀ l:List Int,VwLF h (d+1) (ofInts l) (ofInts l)
 | []=>VwLF.nil
 | _ :: l=>VwLF.cons (VwF.int rfl) (VwLF.ints l)
theorem VwLF.map {h:List B} {d:Nat} {α:Type} {f g:α→V}:∀ {l:List α},(∀ x∈l,VwF h d (f x) (g x))→VwLF h d (l.map f) (l.map g)
 | [],_=>VwLF.nil
 | x :: l,h=>VwLF.cons (h x (by simp)) (VwLF.map fun y hy=>h y (by simp [hy]))
theorem tab_view {h:List B} {d o n m:Nat} {rid:Nat→Nat} {hv:Nat→Bool} {T:Nat→Nat→Int} {c:Bool} (hc:c=true) (ho:bget h o=some (.blk (outC n m rid hv) false)) (hall:∀ i,i≤n→hv i=true) (hr:∀ i,i≤n→bget h (rid i)=some (.blk (rowC m (T i)) true)) :
  VwF h (d+3) (.ms 1 o ((n+1) * 1) 0 (n+1) c) (tabV n m T):=by
 subst hc
 refine VwF.ms (d:=d+2) ho (by rw [outC_len,Nat.mul_one]) (part_all (by rw [outC_len,Nat.mul_one])) ?_
 unfold outC
 refine VwLF.map fun i hi => ?_
 have hi' : i≤n:=by simp at hi;omega
 rw [if_pos (hall i hi')]
 exact VwF.ms (d:=d+1) (hr i hi') (by rw [rowC_len,Nat.mul_one]) (part_all (by rw [rowC_len,Nat.mul_one])) (VwLF.ints _)
theorem rowC_ext {m:Nat} {f g:Nat→Int} (h:∀ j,j≤m→f j=g j):rowC m f=rowC m g:=by
 unfold rowC
 congr 1
 apply List.map_congr_left
 intro k hk
 exact h k (by simp at hk;omega)
theorem up1_same {f:Nat→Int} {j:Nat} {v:Int}:up1 f j v j=v:=by unfold up1;rw [if_pos rfl]
theorem up1_other {f:Nat→Int} {j k:Nat} {v:Int} (h:k≠j):up1 f j v k=f k:=by unfold up1;rw [if_neg h]
theorem up1_two {f:Nat→Int} {j:Nat} {v w:Int}:up1 (up1 f j v) j w=up1 f j w:=by
 funext k
 unfold up1
 split <;> rfl
end Go.Dr.T
