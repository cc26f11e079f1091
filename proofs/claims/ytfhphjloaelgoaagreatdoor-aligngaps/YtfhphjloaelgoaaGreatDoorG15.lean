/- Chapter 06: Round; the document's marks that are there. -/
import Derived.Test.YtfhphjloaelgoaaGreatDoorG14
import Derived.Test.YtfhphjloaelgoaaGreatDoorG13
namespace Go.Dr.T
def rdV:Option (List Int)→V
 | none=>.sl true 0 []
 | some l=>.sl false l.length (ofInts l)
def rndP (l:List El):Option (List Int):=roundP (fun k=>wayP (pAll l) k k k) mks
def rndV (l:List El):V:=if vldE l≠0 then .tup [.sl true 0 [],.int .i64 (vldE l)] else .tup [rdV (rndP l),.int .i64 0]
set_option maxRecDepth 100000 in
set_option maxHeartbeats 20000000 in
theorem alnRound_ok {c:Bool} {l:List El}:Fun FB1 md 36 [elsV c l] (rndV l):=by
 have hg:=gather_fun (c:=c) (l:=l) gatherV_view
 unfold gatherV at hg
 unfold rndV
 by_cases hv:vldE l=0
 ·rw [if_neg (fun h=>h hv)] at hg ⊢
  have w:=wg_all hv
  have hl:=w.len
  have hrn:=w.round
  have hne:rndP l≠some []:=round_ne (fun k=>w.ne) _ _ (by simp)
  unfold rndP at hne ⊢
  rw [← hrn] at hne ⊢
  have hrc:∀ {h:List B} {ro:Nat} {K:V→List B→Prop},K (bestV (roundP (fun k=>wayP (pAll l) k k k) (isort (keysOf (pAll l))))) h→CallP FB1 md ro (.fn 66 []) [gatV (pAll l)] h K:=fun hk=>round_call (w:=fun k=>wayP (pAll l) k k k) (by omega) (fun k _=>w.funs) (fun k=>w.ne) hk
  generalize roundP (fun k=>wayP (pAll l) k k k) (isort (keysOf (pAll l)))=r at *
  generalize pAll l=D at *
  cases r with
  | none =>
   refine fun_of rfl rfl ?_
   repeat' (first
 | (conv=>whnf)
   first
   | refine Br.f ?_
   | refine call_fun rfl rfl hg (.inl rfl) ?_
   | refine hrc ?_
   | refine Get.mk _ rfl ?_
   | refine Leaves.of ?_
   | refine Vw.int ?_
   | refine Vw.nil
   | refine Vw.tup ?_
   | refine VwL.cons ?_ ?_
   | refine VwL.nil)
   all_goals first | rfl | (exfalso;omega;done)
  | some x =>
   obtain ⟨y,r,rfl⟩:∃ y r,x=y :: r:=by
    cases x with
    | nil=>exact absurd rfl hne
    | cons y r=>exact ⟨y,r,rfl⟩
   refine fun_of rfl rfl ?_
   repeat' (first
 | (conv=>whnf)
   first
   | refine Br.f ?_
   | refine call_fun rfl rfl hg (.inl rfl) ?_
   | refine hrc ?_
   | refine Get.mk _ rfl ?_
   | refine Leaves.of ?_
   | refine Vw.int ?_
   | refine Vw.sl
   | refine Vw.tup ?_
   | refine VwL.cons ?_ ?_
   | refine VwL.nil)
   all_goals first | rfl | (exfalso;omega;done)
 ·rw [if_pos hv] at hg ⊢
  generalize vldE l=e at *
  refine fun_of rfl rfl ?_
  repeat' (first
 | (conv=>whnf)
   first
   | (refine Br.decF ?_ ?_;(focus first | assumption | omega))
   | refine Br.not ?_
   | refine call_fun rfl rfl hg (.inl rfl) ?_
   | refine Get.mk _ rfl ?_
   | refine Leaves.of ?_
   | refine Vw.int ?_
   | refine Vw.nil
   | refine Vw.tup ?_
   | refine VwL.cons ?_ ?_
   | refine VwL.nil)
  all_goals first | rfl | (exfalso;omega;done)
def boC (n:Nat) (f:Nat→Bool):List V:=(List.range n).map fun i=>.bool (f i)
theorem boC_len {n:Nat} {f:Nat→Bool}:(boC n f).length=n:=by simp [boC]
theorem boC_get {n j:Nat} {f:Nat→Bool} (h:j<n):cellAt (boC n f) (0+j * 1)=some (.bool (f j)):=by
 rw [Nat.zero_add,Nat.mul_one,cellAt_eq]
 simp [boC,h]
theorem boC_get' {n j:Nat} {f:Nat→Bool} (h:j<n):cellAt (boC n f) (j * 1)=some (.bool (f j)):=by
 have:=boC_get (f:=f) h
 rwa [Nat.zero_add] at this
def upB (f:Nat→Bool) (j:Nat) (v:Bool):Nat→Bool:=fun k=>if k=j then v else f k
theorem boC_set {n j:Nat} {f:Nat→Bool} {v:Bool} (h:j<n):over (boC n f) (0+j * 1) [.bool v]=boC n (upB f j v):=by
 unfold boC
 rw [Nat.zero_add,Nat.mul_one j,over_one]
 apply List.ext_getElem?
 intro k
 rw [List.getElem?_set]
 by_cases hk:j=k
 ·subst hk
  simp [upB,h]
 ·rw [if_neg hk]
  by_cases hk2:k<n
  ·simp [hk2,upB,show ¬ k=j from fun e=>hk e.symm]
  ·rw [List.getElem?_eq_none (by simp;omega),List.getElem?_eq_none (by simp;omega)]
theorem boC_zero {n:Nat}:reps n [.bool false]=boC n (fun _=>false):=by
 have key:∀ k,reps k [V.bool false]=List.replicate k (.bool false):=by
  intro k
  induction k with
  | zero=>rfl
  | succ k ih=>rw [reps,ih];rfl
 unfold boC
 rw [key,List.map_const']
 simp
theorem boC_blo {m n:Nat} {f:Nat→Bool}:(B.blk (boC m f) true).blo n=true:=rfl
theorem boC_ext {n:Nat} {f g:Nat→Bool} (h:∀ j,j<n→f j=g j):boC n f=boC n g:=by
 unfold boC
 apply List.map_congr_left
 intro k hk
 rw [h k (by simpa using hk)]
theorem VwLF.bools {h:List B} {d:Nat} {n:Nat} {f:Nat→Bool}:VwLF h (d+1) (boC n f) (boC n f):=by
 unfold boC
 generalize List.range n=l
 induction l with
 | nil=>exact VwLF.nil
 | cons x l ih=>exact VwLF.cons (VwF.bool rfl) ih
def rowB (n:Nat) (f:Nat→Bool):V:=.sl true n (boC n f)
end Go.Dr.T
namespace Go.Dr.T
def verS (sr:Int→Option Src) (st:List T3 × Int) (m:Int):List T3 × Int:=match sr m with
 | none=>st
 | some o=>(st.1++[(m,((o.e:Nat):Int),((o.k:Nat):Int))],st.2+o.f)
def verF (sr:Int→Option Src) (s:List Int):List T3 × Int:=s.foldl (verS sr) ([],0)
theorem verF_snoc {sr:Int→Option Src} {s:List Int} {i:Nat} {m:Int} (h:s[i]?=some m):verF sr (s.take (i+1))=verS sr (verF sr (s.take i)) m:=by
 have:s.take (i+1)=s.take i++[m]:=by rw [List.take_add_one,h];rfl
 rw [this,verF,List.foldl_append]
 rfl
theorem verF_bd {sr:Int→Option Src} (hs:∀ m,SrOk (sr m)) {s:List Int}:∀ i,i≤s.length→(verF sr (s.take i)).1.length≤i∧0≤(verF sr (s.take i)).2∧(verF sr (s.take i)).2≤200000 * (i:Int)
 | 0,_=>by
  rw [List.take_zero]
  exact ⟨Nat.le_refl _,Int.le_refl _,by show (0:Int)≤200000 * ((0:Nat):Int);decide⟩
 | i+1,hi=>by
  obtain ⟨h1,h2,h3⟩:=verF_bd hs (s:=s) i (by omega)
  rw [verF_snoc (List.getElem?_eq_getElem (show i<s.length by omega))]
  unfold verS
  split
  ·refine ⟨by omega,h2,by omega⟩
  ·rename_i o ho
   have:=hs _ o ho
   refine ⟨by rw [List.length_append,List.length_singleton];omega,by dsimp only;omega,by dsimp only;omega⟩
def verV (l:List El) (s:List Int):V :=
 if vldE l≠0 then .tup [.sl true 0 [],.int .i64 0,.int .i64 (vldE l)] else
 if scrE s≠0 then .tup [.sl true 0 [],.int .i64 0,.int .i64 (scrE s)] else
 match rndP l with
 | some _=>.tup [.sl true 0 [],.int .i64 0,.int .i64 161]
 | none=>.tup [gapV (verF (fun m=>srcAll m l l.length) s).1,.int .i64 (verF (fun m=>srcAll m l l.length) s).2,.int .i64 0]
theorem lostV_eq {l:List El} {s:List Int}:∃ (G:List T3) (e:Int),lostV l s = .tup [gapV G,.int .i64 e]∧G.length≤60:=by
 unfold lostV
 by_cases hv:vldE l=0
 ·rw [if_neg (fun h=>h hv)]
  by_cases hs:scrE s=0
  ·rw [if_neg (fun h=>h hs)]
   refine ⟨_,_,rfl,?_⟩
   rw [← docG_all]
   have:=docG_len (is:=isM l) (s:=s) s.length
   have:=(scr_ok hs).1
   omega
  ·rw [if_pos hs];exact ⟨[],_,rfl,by simp⟩
 ·rw [if_pos hv];exact ⟨[],_,rfl,by simp⟩
theorem verV_eq {l:List El} {s:List Int}:∃ (G:List T3) (n e:Int),verV l s = .tup [gapV G,.int .i64 n,.int .i64 e]∧G.length≤60:=by
 unfold verV
 by_cases hv:vldE l=0
 ·rw [if_neg (fun h=>h hv)]
  by_cases hs:scrE s=0
  ·rw [if_neg (fun h=>h hs)]
   cases rndP l with
   | some p=>exact ⟨[],_,_,rfl,by simp⟩
   | none =>
    refine ⟨_,_,_,rfl,?_⟩
    have:=(verF_bd (sr:=fun m=>srcAll m l l.length) (fun m=>srcAll_ok hv _ (Nat.le_refl _)) (s:=s) s.length (Nat.le_refl _)).1
    rw [List.take_length] at this
    have:=(scr_ok hs).1
    omega
  ·rw [if_pos hs];exact ⟨[],_,_,rfl,by simp⟩
 ·rw [if_pos hv];exact ⟨[],_,_,rfl,by simp⟩
end Go.Dr.T
namespace Go.Dr.T
def vL (sr:Int→Option Src):List Int→List T3
 | []=>[]
 | m :: s=>match sr m with
  | none=>vL sr s
  | some o=>(m,((o.e:Nat):Int),((o.k:Nat):Int)) :: vL sr s
theorem vL_n {sr:Int→Option Src} {m:Int} {s:List Int} (h:sr m=none):vL sr (m :: s)=vL sr s:=by rw [vL,h]
theorem vL_s {sr:Int→Option Src} {m:Int} {s:List Int} {o:Src} (h:sr m=some o):vL sr (m :: s)=(m,((o.e:Nat):Int),((o.k:Nat):Int)) :: vL sr s:=by rw [vL,h]
theorem vL_app {sr:Int→Option Src}:∀ {a b:List Int},vL sr (a++b)=vL sr a++vL sr b
 | [],_=>rfl
 | m :: a,b=>by
  have:=vL_app (sr:=sr) (a:=a) (b:=b)
  rw [List.cons_append]
  cases h:sr m with
  | none=>rw [vL_n h,vL_n h];exact this
  | some o=>rw [vL_s h,vL_s h,this];rfl
theorem verF_vL {sr:Int→Option Src}:∀ (s:List Int) (p:List T3 × Int),(s.foldl (verS sr) p).1=p.1++vL sr s
 | [],p=>by simp [vL]
 | m :: s,p=>by
  rw [List.foldl_cons,verF_vL s]
  unfold verS
  cases h:sr m with
  | none=>rw [vL_n h]
  | some o=>rw [vL_s h];simp
theorem verF_1 {sr:Int→Option Src} {s:List Int}:(verF sr s).1=vL sr s:=verF_vL s ([],0)
theorem vL_mem {sr:Int→Option Src} {t:T3}:∀ {s:List Int},t∈vL sr s→t.1∈s∧∃ o,sr t.1=some o∧t.2.1=(o.e:Nat)∧t.2.2=(o.k:Nat)
 | [],h=>by cases h
 | m :: s,h=>by
  cases ho:sr m with
  | none =>
   rw [vL_n ho] at h
   have:=vL_mem h
   exact ⟨List.mem_cons_of_mem _ this.1,this.2⟩
  | some o =>
   rw [vL_s ho] at h
   rcases List.mem_cons.1 h with h | h
   ·subst h
    exact ⟨by simp,o,ho,rfl,rfl⟩
   ·have:=vL_mem h
    exact ⟨List.mem_cons_of_mem _ this.1,this.2⟩
theorem vL_head {sr:Int→Option Src} {is:Int→Bool}:∀ {s:List Int},(∀ m∈s,is m=(sr m).isSome)→(∀ t,(vL sr s)[0]?=some t→t.1=firstI is s)∧((vL sr s)[0]?=none→firstI is s=0)
 | [],_=>⟨fun t h=>(by cases h),fun _=>rfl⟩
 | m :: s,hs=>by
  have hm:=hs m (by simp)
  have ih:=vL_head (sr:=sr) (is:=is) (s:=s) fun x hx=>hs x (List.mem_cons_of_mem _ hx)
  unfold firstI
  cases ho:sr m with
  | none =>
   rw [ho] at hm
   rw [show is m=false from hm,vL_n ho]
   exact ih
  | some o =>
   rw [ho] at hm
   rw [show is m=true from hm,vL_s ho]
   refine ⟨fun t h => ?_,fun h=>by cases h⟩
   cases h
   rfl
theorem vL_split {sr:Int→Option Src} {s:List Int} {i:Nat} {m:Int} (h:s[i]?=some m):vL sr s=vL sr (s.take i)++vL sr (m :: s.drop (i+1)):=by
 obtain ⟨h1,h2⟩:=List.getElem?_eq_some_iff.1 h
 rw [← vL_app]
 congr 1
 rw [← h2, ← List.drop_eq_getElem_cons h1,List.take_append_drop]
theorem vL_yes {sr:Int→Option Src} {s:List Int} {i:Nat} {m:Int} {o:Src} (h:s[i]?=some m) (ho:sr m=some o):(vL sr s)[(vL sr (s.take i)).length]?=some (m,((o.e:Nat):Int),((o.k:Nat):Int))∧(vL sr (s.take (i+1))).length=(vL sr (s.take i)).length+1:=by
 constructor
 ·rw [vL_split h,List.getElem?_append_right (Nat.le_refl _),Nat.sub_self]
  rw [vL_s ho]
  rfl
 ·have:s.take (i+1)=s.take i++[m]:=by rw [List.take_add_one,h];rfl
  rw [this,vL_app,List.length_append,vL_s ho]
  rfl
theorem vL_no {sr:Int→Option Src} {s:List Int} {i:Nat} {m:Int} (h:s[i]?=some m) (ho:sr m=none):(vL sr s)[(vL sr (s.take i)).length]?=(vL sr (s.drop (i+1)))[0]?∧(vL sr (s.take (i+1))).length=(vL sr (s.take i)).length:=by
 constructor
 ·rw [vL_split h,List.getElem?_append_right (Nat.le_refl _),Nat.sub_self]
  rw [vL_n ho]
 ·have:s.take (i+1)=s.take i++[m]:=by rw [List.take_add_one,h];rfl
  rw [this,vL_app,List.length_append]
  rw [vL_n ho]
  rfl
theorem not_drop {s:List Int} (nd:s.Nodup) {i:Nat} {m:Int} (h:s[i]?=some m):m ∉ s.drop (i+1):=fun hm=>by
 obtain ⟨h1,h2⟩:=List.getElem?_eq_some_iff.1 h
 obtain ⟨j,hj⟩:=List.getElem?_of_mem hm
 rw [List.getElem?_drop] at hj
 have:=(List.getElem?_inj (i:=i) (j:=i+1+j) h1 nd).1 (by rw [h,hj])
 omega
theorem gap_at {is:Int→Bool} {s:List Int} {i:Nat} {m:Int} (h:s[i]?=some m) (hb:is m=false):(docG is s s.length)[(docG is s i).length]?=some (m,lastI is (s.take i),firstI is (s.drop (i+1)))∧(docG is s (i+1)).length=(docG is s i).length+1:=by
 have hi:=(List.getElem?_eq_some_iff.1 h).1
 have h1:docG is s (i+1)=docG is s i++[(m,lastI is (s.take i),firstI is (s.drop (i+1)))]:=by rw [docG,h];dsimp only;rw [hb,if_neg (by simp)]
 have key:∀ j,i+1≤j→j≤s.length→(docG is s j)[(docG is s i).length]?=some (m,lastI is (s.take i),firstI is (s.drop (i+1))):=by
  intro j hj
  induction j with
  | zero=>omega
  | succ j ih =>
   intro hjl
   by_cases e:i=j
   ·subst e
    rw [h1,List.getElem?_append_right (Nat.le_refl _),Nat.sub_self]
    rfl
   ·have:=ih (by omega) (by omega)
    have hlt:=(List.getElem?_eq_some_iff.1 this).1
    have e2:docG is s (j+1)=docG is s j∨∃ t,docG is s (j+1)=docG is s j++[t]:=by
     rw [docG]
     split
     ·exact .inl rfl
     ·split
      ·exact .inl rfl
      ·exact .inr ⟨_,rfl⟩
    rcases e2 with e2 | ⟨t,e2⟩
    ·rw [e2];exact this
    ·rw [e2,List.getElem?_append_left hlt];exact this
 exact ⟨key s.length hi (Nat.le_refl _),by rw [h1,List.length_append];rfl⟩
theorem gap_not {is:Int→Bool} {s:List Int} {i:Nat} {m:Int} (h:s[i]?=some m) (hb:is m=true):docG is s (i+1)=docG is s i:=by rw [docG,h];dsimp only;rw [hb,if_pos rfl]
theorem both_len {is:Int→Bool} {sr:Int→Option Src} {s:List Int} (hs:∀ m∈s,is m=(sr m).isSome):∀ i,i≤s.length→(docG is s i).length+(vL sr (s.take i)).length=i
 | 0,_=>rfl
 | i+1,hi=>by
  have ih:=both_len hs i (by omega)
  obtain ⟨m,hm⟩:∃ m,s[i]?=some m:=⟨_,List.getElem?_eq_getElem (by omega)⟩
  have h1:=hs m (List.mem_of_getElem? hm)
  cases ho:sr m with
  | none =>
   rw [ho] at h1
   rw [(gap_at hm h1).2,(vL_no hm ho).2]
   omega
  | some o =>
   rw [ho] at h1
   rw [gap_not hm h1,(vL_yes hm ho).2]
   omega
def SrIn (m:Int) (l:List El) (o:Option Src):Prop:=∀ s,o=some s→∃ x p,l[s.e]?=some x∧x.l[s.k]?=some p∧p.1=m∧p.2=s.f
theorem srU_cases {o:Option Src} {n s:Src} (h:srU o n=some s):s=n∨o=some s:=by
 unfold srU at h
 split at h
 ·cases h;exact .inl rfl
 ·split at h
  ·cases h;exact .inl rfl
  ·cases h;exact .inr rfl
theorem srU_some {o:Option Src} {n:Src}:(srU o n).isSome=true:=by
 unfold srU
 split
 ·rfl
 ·split <;> rfl
theorem srEl_in {m:Int} {l:List El} {i:Nat} {x:El} {b:Option Src} (hx:l[i]?=some x) (hb:SrIn m l b):∀ n,SrIn m l (srcEl m i x b n)
 | 0=>hb
 | n+1=>by
  have ih:=srEl_in hx hb n
  unfold srcEl
  split
  ·exact ih
  ·rename_i p hp
   split
   ·rename_i hm
    intro s hs
    rcases srU_cases hs with h | h
    ·subst h
     exact ⟨x,p,hx,hp,hm,rfl⟩
    ·exact ih s h
   ·exact ih
theorem srAll_in {m:Int} {l:List El}:∀ i,SrIn m l (srcAll m l i)
 | 0=>fun s h=>by cases h
 | i+1=>by
  have ih:=srAll_in (m:=m) (l:=l) i
  unfold srcAll
  split
  ·exact ih
  ·rename_i x hx
   exact srEl_in hx ih _
theorem srEl_some {m:Int} {i:Nat} {x:El} {b:Option Src}:∀ n,n≤x.l.length→((srcEl m i x b n).isSome=true ↔ b.isSome=true∨∃ p∈x.l.take n,p.1=m)
 | 0,_=>by simp [srcEl]
 | n+1,hn=>by
  have ih:=srEl_some (m:=m) (i:=i) (x:=x) (b:=b) n (by omega)
  obtain ⟨p,hp⟩:∃ p,x.l[n]?=some p:=⟨_,List.getElem?_eq_getElem (by omega)⟩
  have ht:x.l.take (n+1)=x.l.take n++[p]:=by rw [List.take_add_one,hp];rfl
  unfold srcEl
  rw [hp,ht]
  dsimp only
  split
  ·rename_i e
   rw [srU_some]
   simp [e]
  ·rename_i e
   rw [ih]
   constructor
   ·rintro (h | ⟨q,h1,h2⟩)
    ·exact .inl h
    ·exact .inr ⟨q,List.mem_append_left _ h1,h2⟩
   ·rintro (h | ⟨q,h1,h2⟩)
    ·exact .inl h
    ·rcases List.mem_append.1 h1 with h1 | h1
     ·exact .inr ⟨q,h1,h2⟩
     ·rw [List.mem_singleton] at h1;subst h1;exact absurd h2 e
theorem srAll_some {m:Int} (hm:m≠0) {l:List El}:∀ i,i≤l.length→((srcAll m l i).isSome=true ↔ m∈marksOf (l.take i))
 | 0,_=>by simp [srcAll,marksOf]
 | i+1,hi=>by
  have ih:=srAll_some hm (l:=l) i (by omega)
  obtain ⟨x,hx⟩:∃ x,l[i]?=some x:=⟨_,List.getElem?_eq_getElem (by omega)⟩
  unfold srcAll
  rw [hx,marks_snoc hx,List.mem_append, ← ih]
  dsimp only
  rw [srEl_some _ (Nat.le_refl _),List.take_length]
  refine or_congr_right ?_
  unfold known
  rw [List.mem_filter,List.mem_map]
  constructor
  ·rintro ⟨p,h1,h2⟩
   exact ⟨⟨p,h1,h2⟩,by simpa using hm⟩
  ·rintro ⟨⟨p,h1,h2⟩,_⟩
   exact ⟨p,h1,h2⟩
theorem srEl_up {m:Int} {i:Nat} {x:El} {b:Option Src} {o:Src} (hb:b=some o):∀ n,∃ o', srcEl m i x b n=some o' ∧ o.f≤o'.f
 | 0=>⟨o,hb,Int.le_refl _⟩
 | n+1=>by
  obtain ⟨o', h1,h2⟩:=srEl_up (m:=m) (i:=i) (x:=x) hb n
  unfold srcEl
  split
  ·exact ⟨o', h1,h2⟩
  ·split
   ·rw [h1]
    unfold srU
    dsimp only
    split
    ·rename_i p _ _ hw
     refine ⟨_,rfl,?_⟩
     unfold wrs at hw
     simp only [Bool.or_eq_true,decide_eq_true_eq,Bool.and_eq_true] at hw
     dsimp only
     omega
    ·exact ⟨o', rfl,h2⟩
   ·exact ⟨o', h1,h2⟩
theorem srAll_ext {m:Int} {l:List El} {x:El}:∀ i,i≤l.length→srcAll m (l++[x]) i=srcAll m l i
 | 0,_=>rfl
 | i+1,hi=>by
  unfold srcAll
  rw [srAll_ext i (by omega),List.getElem?_append_left (by omega)]
theorem srAll_up {m:Int} {l:List El} {x:El} {o:Src} (h:srcAll m l l.length=some o):∃ o', srcAll m (l++[x]) (l++[x]).length=some o' ∧ o.f≤o'.f:=by
 rw [show (l++[x]).length=l.length+1 by simp]
 unfold srcAll
 rw [List.getElem?_append_right (Nat.le_refl _),Nat.sub_self]
 dsimp only [List.getElem?_cons_zero]
 rw [srAll_ext _ (Nat.le_refl _)]
 exact srEl_up h _
theorem vL_sub {sr sr' : Int→Option Src} (h:∀ m,(sr m).isSome=true→(sr' m).isSome=true):∀ s:List Int,vL sr ((vL sr' s).map (·.1))=vL sr s
 | []=>rfl
 | m :: s=>by
  have ih:=vL_sub h s
  cases h1:sr' m with
  | none =>
   have:sr m=none:=by
    cases h2:sr m with
    | none=>rfl
    | some o =>
     have:=h m (by rw [h2];rfl)
     rw [h1] at this
     cases this
   rw [vL_n h1,vL_n this]
   exact ih
  | some o' =>
   rw [vL_s h1,List.map_cons]
   cases h2:sr m with
   | none=>rw [vL_n h2,vL_n h2];exact ih
   | some o=>rw [vL_s h2,vL_s h2,ih]
theorem vL_nodup {sr:Int→Option Src}:∀ {s:List Int},s.Nodup→((vL sr s).map (·.1)).Nodup
 | [],_=>.nil
 | m :: s,nd=>by
  rw [List.nodup_cons] at nd
  have ih:=vL_nodup (sr:=sr) nd.2
  cases h:sr m with
  | none=>rw [vL_n h];exact ih
  | some o =>
   rw [vL_s h,List.map_cons,List.nodup_cons]
   refine ⟨fun hm => ?_,ih⟩
   obtain ⟨t,h1,h2⟩:=List.mem_map.1 hm
   have:=(vL_mem h1).1
   rw [h2] at this
   exact nd.1 this
theorem vL_le {sr sr' : Int→Option Src} (h:∀ m,(sr m).isSome=true→(sr' m).isSome=true):∀ s:List Int,(vL sr s).length≤(vL sr' s).length
 | []=>Nat.le_refl _
 | m :: s=>by
  have ih:=vL_le h s
  cases h1:sr m with
  | none =>
   rw [vL_n h1]
   cases h2:sr' m with
   | none=>rw [vL_n h2];exact ih
   | some o' => rw [vL_s h2,List.length_cons];omega
  | some o =>
   have:=h m (by rw [h1];rfl)
   cases h2:sr' m with
   | none=>rw [h2] at this;cases this
   | some o' => rw [vL_s h1,vL_s h2,List.length_cons,List.length_cons];omega
end Go.Dr.T
