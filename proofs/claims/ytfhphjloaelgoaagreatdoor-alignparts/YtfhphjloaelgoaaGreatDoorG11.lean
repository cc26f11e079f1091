/- Chapter 06: Whole as a function of what it is given; the table with it. -/
import Derived.Test.YtfhphjloaelgoaaGreatDoorR06T4
namespace Go.Dr.T
def wayP (D:List PE) (a t ab:Int):Option (List Int):=(wayGo D a t ab 1002 0 []).getD none
def keysOf (D:List PE):List Int:=D.map (·.k)
def wholeV (l:List El):V :=
 if vldE l≠0 then .tup [.sl true 0 [],.bool false,.int .i64 (vldE l)] else
 match roundP (fun k=>wayP (pAll l) k k k) (isort (keysOf (pAll l))) with
 | some _=>.tup [.sl true 0 [],.bool false,.int .i64 161]
 | none=>match wgo (pAll l) (pAll l).length (keysOf (pAll l)) [] with
  | some A=>.tup [lw false A,.bool (onlyN (fun a b=>wayP (pAll l) a b 0) A A.length),.int .i64 0]
  | none=>.dead
def WholeOk (c:Bool) (l:List El):Prop:=wpm FB1 md 0 c33.body ⟨[elsV c l]++deads (c33.ntm - c33.np),[]⟩ (Leaves c33.res (wholeV l))
open Classical in
noncomputable def whoG (as:List V):Option V:=if h:∃ p:Bool × List El,as=[elsV p.1 p.2]∧WholeOk p.1 p.2 then some (wholeV (Classical.choose h).2) else none
theorem whoG_eq {c:Bool} {l:List El} (hw:WholeOk c l):whoG [elsV c l]=some (wholeV l):=by
 have h:∃ p:Bool × List El,[elsV c l]=[elsV p.1 p.2]∧WholeOk p.1 p.2:=⟨(c,l),rfl,hw⟩
 have e:=(Classical.choose_spec h).1
 unfold whoG
 rw [dif_pos h]
 generalize Classical.choose h=q at *
 simp only [elsV,List.cons.injEq,V.sl.injEq,and_true] at e
 rw [elC_inj e.2.2]
theorem whoG_some {as:List V} {v:V} (h:whoG as=some v):∃ c l,as=[elsV c l]∧WholeOk c l∧v=wholeV l:=by
 unfold whoG at h
 split at h
 ·rename_i hx
  cases h
  obtain ⟨h1,h2⟩:=Classical.choose_spec hx
  exact ⟨_,_,h1,h2,rfl⟩
 ·cases h
noncomputable def FB2:Nat→Option Fc
 | 33=>some (knFc 1 33 (plainKn whoG))
 | n=>FB1 n
theorem sub2:Sub' FB1 FB2:=by
 intro f fc h
 unfold FB2
 split
 ·cases h
 ·exact h
theorem view_none {h:List B} {d:Nat} (l:List El) (hw:wholeV l ≠ .dead):V.view h (d+2) (wholeV l)=some (wholeV l):=by
 have key:∀ (A:List Int) (b:Bool),V.view h (d+2) (.tup [lw false A,.bool b,.int .i64 0])=some (.tup [lw false A,.bool b,.int .i64 0]):=fun A b =>
  (Vw.tup (VwL.cons ⟨view_lw _ _⟩ (VwL.cons (Vw.bool rfl) (VwL.cons (Vw.int rfl) VwL.nil)))).1
 unfold wholeV at hw ⊢
 split at hw
 ·rename_i h1;rw [if_pos h1];rfl
 ·rename_i h1
  rw [if_neg h1]
  split at hw
  ·rfl
  ·split at hw
   ·exact key _ _
   ·exact absurd rfl hw
theorem whole_fun {c:Bool} {l:List El} (hw:WholeOk c l) (hd:wholeV l ≠ .dead):Fun FB2 md 33 [elsV c l] (wholeV l):=fun_kn rfl rfl (whoG_eq hw) (view_none l hd)
theorem gatherV_view {l:List El}:V.view [] depth (gatherV l)=some (gatherV l):=by
 unfold gatherV
 split <;> rfl
set_option maxRecDepth 100000 in
set_option maxHeartbeats 20000000 in
theorem whole_err {c:Bool} {l:List El} (hv:vldE l≠0):WholeOk c l:=by
 have hg:=gather_fun (c:=c) (l:=l) gatherV_view
 unfold gatherV at hg
 rw [if_pos hv] at hg
 unfold WholeOk wholeV
 rw [if_pos hv]
 generalize vldE l=e at *
 refine (fV_eq (K:=fun tm=>wpm FB1 md 0 _ ⟨tm,[]⟩ _)).1 ?_
 repeat' (first
 | (conv=>whnf)
   first
   | (refine Br.decF ?_ ?_;(focus first | assumption | omega))
   | refine Br.not ?_
   | refine call_fun rfl rfl hg (.inl rfl) ?_
   | refine Get.mk _ rfl ?_
   | refine Leaves.of ?_
   | refine Vw.bool ?_
   | refine Vw.int ?_
   | refine Vw.nil
   | refine Vw.tup ?_
   | refine VwL.cons ?_ ?_
   | refine VwL.nil)
 all_goals first | rfl | (exfalso;omega;done)
set_option maxRecDepth 100000 in
set_option maxHeartbeats 20000000 in
theorem whole_rnd {c:Bool} {l:List El} (hv:vldE l=0) (hn:(pAll l).length≤1000000)
  (hw:∀ k∈keysOf (pAll l),Fun FB1 md 69 [gatV (pAll l),.int .i64 k,.int .i64 k,.int .i64 k] (wayV (wayP (pAll l) k k k))) (hne:∀ k,wayP (pAll l) k k k≠some [])
  {x:List Int} (hr:roundP (fun k=>wayP (pAll l) k k k) (isort (keysOf (pAll l)))=some x):WholeOk c l:=by
 have hg:=gather_fun (c:=c) (l:=l) gatherV_view
 unfold gatherV at hg
 rw [if_neg (fun h=>h hv)] at hg
 unfold WholeOk wholeV
 rw [if_neg (fun h=>h hv),hr]
 have hxn:x≠[]:=fun h=>by
  subst h
  exact round_ne (w:=fun k=>wayP (pAll l) k k k) hne _ none (by simp) hr
 obtain ⟨y,r,rfl⟩:∃ y r,x=y :: r:=by
  cases x with
  | nil=>exact absurd rfl hxn
  | cons y r=>exact ⟨y,r,rfl⟩
 generalize pAll l=D at *
 have hrc:∀ {h:List B} {ro:Nat} {K:V→List B→Prop},K (bestV (some (y :: r))) h→CallP FB1 md ro (.fn 66 []) [gatV D] h K:=fun hk=>round_call hn hw hne (by rw [show isort (D.map (·.k))=isort (keysOf D) from rfl,hr];exact hk)
 refine (fV_eq (K:=fun tm=>wpm FB1 md 0 _ ⟨tm,[]⟩ _)).1 ?_
 repeat' (first
 | (conv=>whnf)
   first
   | refine Br.t ?_
   | refine Br.f ?_
   | refine call_fun rfl rfl hg (.inl rfl) ?_
   | refine hrc ?_
   | refine Get.mk _ rfl ?_
   | refine Leaves.of ?_
   | refine Vw.bool ?_
   | refine Vw.int ?_
   | refine Vw.nil
   | refine Vw.tup ?_
   | refine VwL.cons ?_ ?_
   | refine VwL.nil)
 all_goals first | rfl | (exfalso;omega;done)
theorem whole_all {c:Bool} {l:List El} {A:List Int} (hv:vldE l=0) (hn:(pAll l).length≤100000) (hL:∀ e∈pAll l,e.L.length≤100000) (nd:(keysOf (pAll l)).Nodup)
  (hw:∀ k∈keysOf (pAll l),Fun FB1 md 69 [gatV (pAll l),.int .i64 k,.int .i64 k,.int .i64 k] (wayV (wayP (pAll l) k k k))) (hne:∀ k,wayP (pAll l) k k k≠some [])
  (hr:roundP (fun k=>wayP (pAll l) k k k) (isort (keysOf (pAll l)))=none) (hgo:wgo (pAll l) (pAll l).length (keysOf (pAll l)) []=some A)
  (hw2:∀ i,0<i→i<A.length→Fun FB1 md 69 [gatV (pAll l),.int .i64 (kAt A (i - 1)),.int .i64 (kAt A i),.int .i64 0] (wayV (wayP (pAll l) (kAt A (i - 1)) (kAt A i) 0))):WholeOk c l:=by
 have hg:=gather_fun (c:=c) (l:=l) gatherV_view
 unfold gatherV at hg
 rw [if_neg (fun h=>h hv)] at hg
 unfold WholeOk wholeV
 rw [if_neg (fun h=>h hv),hr,hgo]
 exact whole_walk hg hn hL nd hw hne hr hgo (w2:=fun a b=>wayP (pAll l) a b 0) hw2 c33 rfl
end Go.Dr.T
namespace Go.Dr.T
theorem keys_up (F:List PE) (a m:Int):keysOf (pUp F a m)=keysOf F:=by
 unfold keysOf pUp
 rw [List.map_map]
 apply List.map_congr_left
 intro e _
 dsimp only [Function.comp]
 split
 ·rfl
 ·rfl
theorem find_map' {p:PE→Bool} {f:PE→PE} (h:∀ e,p (f e)=p e):∀ l:List PE,(l.map f).find? p=(l.find? p).map f
 | []=>rfl
 | e :: l=>by
  rw [List.map_cons,List.find?_cons,List.find?_cons,h]
  split
  ·rfl
  ·exact find_map' h l
theorem pM_none {F:List PE} {o:Int} (h:o ∉ keysOf F):pM F o=[]:=by
 unfold pM
 rw [List.find?_eq_none.2 (fun e he=>by
  simp only [decide_eq_true_eq]
  exact fun hk=>h (hk ▸ List.mem_map.2 ⟨e,he,rfl⟩))]
theorem pM_key {F:List PE} {o:Int} (h:o∈keysOf F):∃ e∈F,e.k=o∧F.find? (fun e=>decide (e.k=o))=some e∧pM F o=e.L:=by
 unfold pM
 cases hf:F.find? (fun e=>decide (e.k=o)) with
 | none =>
  obtain ⟨e,he,hk⟩:=List.mem_map.1 h
  have:=List.find?_eq_none.1 hf e he
  simp [hk] at this
 | some e =>
  exact ⟨e,List.mem_of_find?_eq_some hf,by simpa using List.find?_some hf,rfl,rfl⟩
theorem pM_up {F:List PE} {a m o:Int}:pM (pUp F a m) o=if o=a∧a∈keysOf F∧m ∉ pM F a then pM F o++[m] else pM F o:=by
 have e:(pUp F a m).find? (fun e=>decide (e.k=o))=(F.find? (fun e=>decide (e.k=o))).map fun e=>if e.k=a∧m ∉ e.L then ⟨e.k,false,e.L++[m]⟩ else e:=by
  unfold pUp
  refine find_map' (fun e => ?_) F
  split <;> rfl
 by_cases ho:o∈keysOf F
 ·obtain ⟨e1,he,hk,hf,hL⟩:=pM_key ho
  rw [show pM (pUp F a m) o=(match (pUp F a m).find? (fun e=>decide (e.k=o)) with | some e=>e.L | none=>[]) from rfl,e,hf,hL]
  dsimp only [Option.map]
  by_cases hoa:o=a
  ·subst hoa
   by_cases hm:m∈e1.L
   ·rw [if_neg (fun h=>h.2 hm),if_neg (fun h=>h.2.2 (by rw [hL];exact hm))]
   ·rw [if_pos ⟨hk,hm⟩,if_pos ⟨rfl,ho,by rw [hL];exact hm⟩]
  ·rw [if_neg (fun h=>hoa (hk.symm.trans h.1)),if_neg (fun h=>hoa h.1)]
 ·rw [pM_none (F:=pUp F a m) (by rw [keys_up];exact ho),if_neg (show ¬ (o=a∧a∈keysOf F∧m ∉ pM F a) from fun h=>ho (by rw [h.1];exact h.2.1)),pM_none ho]
theorem pM_cl {F:List PE} {m o:Int}:pM (pCl F m) o=pM F o:=by
 unfold pCl
 split
 ·have e:=find_map' (p:=fun e=>decide (e.k=o)) (f:=fun e:PE=>if e.k=m then ⟨e.k,true,e.L⟩ else e) (fun e=>by split <;> rfl) F
  unfold pM
  rw [e]
  cases F.find? (fun e=>decide (e.k=o)) with
  | none=>rfl
  | some e1 =>
   dsimp only [Option.map]
   split <;> rfl
 ·rename_i hm
  unfold pM
  rw [List.find?_append]
  cases hf:F.find? (fun e=>decide (e.k=o)) with
  | some e1=>rfl
  | none =>
   rw [Option.none_or,List.find?_cons,List.find?_nil]
   dsimp only
   by_cases h:m=o
   ·rw [decide_eq_true h]
   ·rw [decide_eq_false h]
theorem keys_cl {F:List PE} {m:Int}:keysOf (pCl F m)=if m∈keysOf F then keysOf F else keysOf F++[m]:=by
 unfold pCl
 by_cases h:m∈keysOf F
 ·rw [if_pos h,if_pos (show m∈F.map (·.k) from h)]
  unfold keysOf
  rw [List.map_map]
  apply List.map_congr_left
  intro e _
  dsimp only [Function.comp]
  split <;> rfl
 ·rw [if_neg h,if_neg (show ¬ m∈F.map (·.k) from h)]
  simp [keysOf]
structure PI (F:List PE) (A:List Int) (D:List (Int × Int)):Prop where
 nd:(keysOf F).Nodup
 ks:∀ k,k∈keysOf F ↔ k∈A
 ls:∀ o b,b∈pM F o ↔ (o,b)∈D
 ln:∀ o,(pM F o).Nodup
theorem PI.up {F:List PE} {A:List Int} {D:List (Int × Int)} (g:PI F A D) {a m:Int} (ha:a∈keysOf F):PI (pUp F a m) A (D++[(a,m)]):=by
 refine ⟨by rw [keys_up];exact g.nd,fun k=>by rw [keys_up];exact g.ks k,fun o b => ?_,fun o => ?_⟩
 ·rw [pM_up,List.mem_append, ← g.ls o b,List.mem_singleton,Prod.mk.injEq]
  by_cases hoa:o=a
  ·subst hoa
   by_cases hm:m∈pM F o
   ·rw [if_neg (fun h=>h.2.2 hm)]
    constructor
    ·exact .inl
    ·rintro (h | ⟨_,rfl⟩)
     ·exact h
     ·exact hm
   ·rw [if_pos ⟨rfl,ha,hm⟩,List.mem_append,List.mem_singleton]
    constructor
    ·rintro (h | h)
     ·exact .inl h
     ·exact .inr ⟨rfl,h⟩
    ·rintro (h | ⟨_,h⟩)
     ·exact .inl h
     ·exact .inr h
  ·rw [if_neg (fun h=>hoa h.1)]
   constructor
   ·exact .inl
   ·rintro (h | ⟨h,_⟩)
    ·exact h
    ·exact absurd h hoa
 ·rw [pM_up]
  split
  ·rename_i h
   rw [List.nodup_append]
   refine ⟨g.ln o,by simp,fun x hx y hy => ?_⟩
   rw [List.mem_singleton] at hy
   subst hy
   intro e
   subst e
   exact h.2.2 (h.1 ▸ hx)
  ·exact g.ln o
theorem PI.cl {F:List PE} {A:List Int} {D:List (Int × Int)} (g:PI F A D) {m:Int}:PI (pCl F m) (A++[m]) D:=by
 refine ⟨?_,fun k => ?_,fun o b=>by rw [pM_cl];exact g.ls o b,fun o=>by rw [pM_cl];exact g.ln o⟩
 ·rw [keys_cl]
  split
  ·exact g.nd
  ·rename_i h
   rw [List.nodup_append]
   refine ⟨g.nd,by simp,fun x hx y hy => ?_⟩
   rw [List.mem_singleton] at hy
   subst hy
   intro e
   subst e
   exact h hx
 ·rw [keys_cl,List.mem_append,List.mem_singleton, ← g.ks k]
  split
  ·rename_i h
   constructor
   ·exact .inl
   ·rintro (h1 | rfl)
    ·exact h1
    ·exact h
  ·rw [List.mem_append,List.mem_singleton]
theorem PI.el {F:List PE} {A:List Int} {D:List (Int × Int)} (g:PI F A D) {x:El} (hx:∀ p∈x.l,0≤p.1):PI (pEl F x) (A++known x.l) (D++nexts (known x.l)):=by
 have key:∀ i,i≤x.l.length→PI ((x.l.take i).foldl pStep (F,0)).1 (A++known (x.l.take i)) (D++nexts (known (x.l.take i)))∧((x.l.take i).foldl pStep (F,0)).2=lastM (known (x.l.take i)):=by
  intro i
  induction i with
  | zero =>
   intro _
   refine ⟨?_,rfl⟩
   simpa [known,nexts] using g
  | succ i ih =>
   intro hi
   obtain ⟨g1,h2⟩:=ih (by omega)
   obtain ⟨p,hp⟩:∃ p,x.l[i]?=some p:=⟨_,List.getElem?_eq_getElem (by omega)⟩
   rw [fold_snoc hp,known_snoc hp]
   have hst:∀ s:List PE × Int,pStep s p=if p.1=0 then s else (pCl (if 0<s.2 then pUp s.1 s.2 p.1 else s.1) p.1,p.1):=fun s=>rfl
   rw [hst]
   by_cases h0:p.1=0
   ·rw [if_pos h0,if_pos h0]
    exact ⟨g1,h2⟩
   ·rw [if_neg h0,if_neg h0]
    refine ⟨?_,lastM_snoc.symm⟩
    rw [h2,nexts_snoc, ← List.append_assoc, ← List.append_assoc]
    by_cases hk:known (x.l.take i)=[]
    ·rw [if_pos hk,hk]
     rw [if_neg (show ¬ 0<lastM [] from by decide)]
     have:=g1.cl (m:=p.1)
     rw [hk] at this
     simpa using this
    ·rw [if_neg hk]
     have hl:=lastM_mem hk
     have hpos:0<lastM (known (x.l.take i)):=by
      have h3:=known_ne hl
      obtain ⟨q,hq,e⟩:=List.mem_map.1 (known_sub hl)
      have:=hx q (List.mem_of_mem_take hq)
      omega
     rw [if_pos hpos]
     exact (g1.up ((g1.ks _).2 (List.mem_append_right _ hl))).cl
 have:=(key x.l.length (Nat.le_refl _)).1
 rwa [List.take_length] at this
theorem pi_all {l:List El} (h:∀ x∈l,∀ p∈x.l,0≤p.1):PI (pAll l) (marksOf l) (dirsOf l):=by
 have key:∀ i,i≤l.length→PI (pAll (l.take i)) (marksOf (l.take i)) (dirsOf (l.take i)):=by
  intro i
  induction i with
  | zero=>intro _;exact ⟨List.nodup_nil,fun k=>Iff.rfl,fun o b=>by simp [pAll,pM,dirsOf],fun o=>by simp [pAll,pM]⟩
  | succ i ih =>
   intro hi
   obtain ⟨x,hx⟩:∃ x,l[i]?=some x:=⟨_,List.getElem?_eq_getElem (by omega)⟩
   rw [pAll_snoc hx,marks_snoc hx,dirs_snoc hx]
   exact (ih (by omega)).el (h x (List.mem_of_getElem? hx))
 have:=key l.length (Nat.le_refl _)
 rwa [List.take_length] at this
theorem vld_good {l:List El} (h:vldE l=0):l.length≤8∧ckd l=0∧dupF [] l=false:=by
 unfold vldE at h
 split at h
 ·cases h
 ·rename_i h1
  split at h
  ·rename_i h2;exact absurd h h2
  ·rename_i h2
   split at h
   ·cases h
   ·rename_i h3
    exact ⟨by omega,Classical.not_not.1 h2,by simpa using h3⟩
theorem vld_el {l:List El} (h:vldE l=0) {x:El} (hx:x∈l):x.l.length≤40∧∀ p∈x.l,0≤p.1∧p.1≤999∧1≤p.2∧p.2≤200000:=by
 obtain ⟨_,_,_,h4,h5⟩:=ck_good (ckd_good (vld_good h).2.1 x hx)
 refine ⟨h4,fun p hp => ?_⟩
 obtain ⟨i,hi⟩:=List.getElem?_of_mem hp
 have:=h5 i p hi
 exact ⟨this.1,this.2.1,this.2.2.1,this.2.2.2.1⟩
theorem nexts_mem {a b:Int}:∀ {l:List Int},(a,b)∈nexts l→a∈l∧b∈l
 | [],h=>by cases h
 | [x],h=>by cases h
 | x :: y :: l,h=>by
  rw [nexts] at h
  rcases List.mem_cons.1 h with h | h
  ·rw [Prod.mk.injEq] at h;obtain ⟨rfl,rfl⟩:=h;simp
  ·have:=nexts_mem h
   exact ⟨List.mem_cons_of_mem _ this.1,List.mem_cons_of_mem _ this.2⟩
theorem dirs_mem {l:List El} {a b:Int} (h:(a,b)∈dirsOf l):a∈marksOf l∧b∈marksOf l:=by
 obtain ⟨x,hx,hm⟩:=List.mem_flatMap.1 h
 have:=nexts_mem hm
 exact ⟨List.mem_flatMap.2 ⟨x,hx,this.1⟩,List.mem_flatMap.2 ⟨x,hx,this.2⟩⟩
theorem marks_rng {l:List El} (h:vldE l=0) {m:Int} (hm:m∈marksOf l):1≤m∧m≤999:=by
 obtain ⟨x,hx,hm⟩:=List.mem_flatMap.1 hm
 have h0:=known_ne hm
 obtain ⟨p,hp,rfl⟩:=List.mem_map.1 (List.mem_filter.1 hm).1
 have:=(vld_el h hx).2 p hp
 omega
end Go.Dr.T
