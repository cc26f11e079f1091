/- Chapter 06: all best alignments, plain: the list, in order. -/
import Derived.Test.YtfhphjloaelgoaaGreatDoorG6
import Derived.Test.YtfhphjloaelgoaaGreatDoorG3
import Derived.Test.YtfhphjloaelgoaaGreatDoorG5
namespace Go.Dr.T
def goR {σ τ:Type} (ok:σ→τ→Bool) (nx:σ→τ→σ):σ→List τ→σ × Bool
 | s,[]=>(s,true)
 | s,p :: ps=>if ok s p=true then goR ok nx (nx s p) ps else (nx s p,false)
theorem goR_t {σ τ:Type} {ok:σ→τ→Bool} {nx:σ→τ→σ} {p:τ} {l:List τ} {s:σ} (h:ok s p=true):goR ok nx s (p :: l)=goR ok nx (nx s p) l:=by
 conv=>lhs;unfold goR
 rw [if_pos h]
theorem goR_f {σ τ:Type} {ok:σ→τ→Bool} {nx:σ→τ→σ} {p:τ} {l:List τ} {s:σ} (h:ok s p=false):goR ok nx s (p :: l)=(nx s p,false):=by
 conv=>lhs;unfold goR
 rw [if_neg (by simp [h])]
theorem goR_app_t {σ τ:Type} {ok:σ→τ→Bool} {nx:σ→τ→σ}:∀ {l k:List τ} {s s' : σ},goR ok nx s l=(s', true)→goR ok nx s (l++k)=goR ok nx s' k
 | [],k,s,s', h=>by
  simp only [goR,Prod.mk.injEq] at h
  rw [h.1];rfl
 | p :: l,k,s,s', h=>by
  cases hp:ok s p with
  | true=>rw [goR_t hp] at h;rw [List.cons_append,goR_t hp];exact goR_app_t h
  | false=>rw [goR_f hp] at h;simp at h
theorem goR_app_f {σ τ:Type} {ok:σ→τ→Bool} {nx:σ→τ→σ}:∀ {l k:List τ} {s s' : σ},goR ok nx s l=(s', false)→goR ok nx s (l++k)=(s', false)
 | [],k,s,s', h=>by simp [goR] at h
 | p :: l,k,s,s', h=>by
  cases hp:ok s p with
  | true=>rw [goR_t hp] at h;rw [List.cons_append,goR_t hp];exact goR_app_f h
  | false=>rw [goR_f hp] at h;rw [List.cons_append,goR_f hp];exact h
theorem goR_inv {σ τ:Type} {ok:σ→τ→Bool} {nx:σ→τ→σ} {Iv:σ→Prop} (hn:∀ s p,Iv s→ok s p=true→Iv (nx s p)):∀ {l:List τ} {s:σ},Iv s→(goR ok nx s l).2=true→Iv (goR ok nx s l).1
 | [],s,h,_=>h
 | p :: l,s,h,e=>by
  cases hp:ok s p with
  | true=>rw [goR_t hp] at e ⊢; exact goR_inv hn (hn s p h hp) e
  | false=>rw [goR_f hp] at e;simp at e
theorem goY_flat {σ τ:Type} {ok:σ→τ→Bool} {nx:σ→τ→σ} {f:Nat × Nat→List τ}:∀ {l:List (Nat × Nat)} {s:σ},goY (σ:=σ × Bool) (fun q p=>(goR ok nx q.1 (f p)).2) (fun q p=>goR ok nx q.1 (f p)) (s,true) l=goR ok nx s (l.flatMap f)
 | [],s=>rfl
 | p :: l,s=>by
  unfold goY
  dsimp only
  rw [List.flatMap_cons]
  cases h:goR ok nx s (f p) with
  | mk s' b =>
   cases b with
   | true=>rw [if_pos rfl,goR_app_t h];exact goY_flat
   | false=>rw [if_neg (by simp),goR_app_f h]
theorem goY_R {σ:Type} {ok:σ→Nat × Nat→Bool} {nx:σ→Nat × Nat→σ}:∀ {l:List (Nat × Nat)} {s:σ},goY ok nx s l=(goR ok nx s l).1
 | [],s=>rfl
 | p :: l,s=>by
  cases h:ok s p with
  | true=>rw [goR_t h];unfold goY;rw [if_pos h];exact goY_R
  | false=>rw [goR_f h];unfold goY;rw [if_neg (by simp [h])]
theorem flat_ext {α β:Type} {f g:α→List β}:∀ {l:List α},(∀ a∈l,f a=g a)→l.flatMap f=l.flatMap g
 | [],_=>rfl
 | a :: l,h=>by rw [List.flatMap_cons,List.flatMap_cons,h a (by simp),flat_ext fun b hb=>h b (by simp [hb])]
def alsF (S W:Nat→Nat→Int) (n m:Nat):Nat→Nat→Nat→List (Nat × Nat)→List (List (Nat × Nat))
 | 0,_,_,_=>[]
 | d+1,i,j,bef=>if W i j=0 then [bef] else (bgs S W n m i j).flatMap fun p=>alsF S W n m d (p.1+1) (p.2+1) (bef++[p])
theorem alsF_more {S W:Nat→Nat→Int} {n m:Nat}:∀ {d d' i j:Nat} {bef:List (Nat × Nat)},i≤n→n - i<d→n - i<d' → alsF S W n m d i j bef=alsF S W n m d' i j bef
 | 0,_,_,_,_,_,h,_=>absurd h (by omega)
 | _+1,0,_,_,_,_,_,h=>absurd h (by omega)
 | d+1,d' + 1,i,j,bef,hi,h1,h2=>by
  unfold alsF
  split
  ·rfl
  ·refine flat_ext fun p hp => ?_
   have:=bgs_mem hp
   exact alsF_more (by omega) (by omega) (by omega)
def als (S W:Nat→Nat→Int) (n m i j:Nat) (bef:List (Nat × Nat)):List (List (Nat × Nat)):=alsF S W n m (n - i+1) i j bef
theorem als_end {S W:Nat→Nat→Int} {n m i j:Nat} {bef:List (Nat × Nat)} (h:W i j=0):als S W n m i j bef=[bef]:=by unfold als alsF;rw [if_pos h]
theorem als_step {S W:Nat→Nat→Int} {n m i j:Nat} {bef:List (Nat × Nat)} (h:W i j≠0):als S W n m i j bef=(bgs S W n m i j).flatMap fun p=>als S W n m (p.1+1) (p.2+1) (bef++[p]):=by
 unfold als
 conv=>lhs;unfold alsF
 rw [if_neg h]
 refine flat_ext fun p hp => ?_
 have:=bgs_mem hp
 exact alsF_more (by omega) (by omega) (by omega)
theorem als_front {S W:Nat→Nat→Int} {n m:Nat}:∀ (d i j:Nat) (bef:List (Nat × Nat)),n - i=d→als S W n m i j bef=(als S W n m i j []).map (bef ++ ·):=by
 intro d
 induction d using Nat.strongRecOn with
 | ind d ih =>
  intro i j bef hd
  by_cases h:W i j=0
  ·rw [als_end h,als_end h];simp
  ·rw [als_step h,als_step h,List.map_flatMap]
   refine flat_ext fun p hp => ?_
   have:=bgs_mem hp
   rw [ih (n - (p.1+1)) (by omega) _ _ (bef++[p]) rfl,ih (n - (p.1+1)) (by omega) _ _ ([]++[p]) rfl,List.map_map]
   simp [Function.comp_def]
theorem als_cons {S W:Nat→Nat→Int} {n m i j:Nat} (h:W i j≠0):als S W n m i j []=(bgs S W n m i j).flatMap fun p=>(als S W n m (p.1+1) (p.2+1) []).map (p :: ·):=by
 rw [als_step h]
 refine flat_ext fun p _ => ?_
 rw [als_front _ _ _ ([]++[p]) rfl]
 simp
end Go.Dr.T
namespace Go.Dr.T
def Ch (S:Nat→Nat→Int) (n m:Nat):Nat→Nat→List (Nat × Nat)→Prop
 | _,_,[]=>True
 | i,j,p :: l=>i≤p.1∧p.1<n∧j≤p.2∧p.2<m∧0<S p.1 p.2∧Ch S n m (p.1+1) (p.2+1) l
def wo (S:Nat→Nat→Int):List (Nat × Nat)→Int
 | []=>0
 | p :: l=>S p.1 p.2+wo S l
theorem Ch.pos {S:Nat→Nat→Int} {n m:Nat}:∀ {l:List (Nat × Nat)} {i j:Nat},Ch S n m i j l→0≤wo S l∧(l≠[]→0<wo S l)
 | [],_,_,_=>⟨Int.le_refl _,fun h=>absurd rfl h⟩
 | p :: l,i,j,⟨_,_,_,_,h,c⟩=>by
  have:=(Ch.pos c).1
  simp only [wo]
  exact ⟨by omega,fun _=>by omega⟩
theorem bgA_mem {S W:Nat→Nat→Int} {n m i j:Nat} {p:Nat × Nat}:p∈bgA S W n m i j ↔ i≤p.1∧p.1<n∧j≤p.2∧p.2<m∧0<S p.1 p.2∧S p.1 p.2+W (p.1+1) (p.2+1)=W i j:=by
 unfold bgA bgR
 simp only [List.mem_flatMap,List.mem_map,List.mem_filter,List.mem_range'_1,decide_eq_true_eq]
 constructor
 ·rintro ⟨k,⟨h1,h2⟩,l,⟨⟨h3,h4⟩,h5,h6⟩,rfl⟩
  exact ⟨h1,by omega,h3,by omega,h5,h6⟩
 ·rintro ⟨h1,h2,h3,h4,h5,h6⟩
  exact ⟨p.1,⟨h1,by omega⟩,p.2,⟨⟨h3,by omega⟩,h5,h6⟩,rfl⟩
theorem Ch.len {S:Nat→Nat→Int} {n m:Nat}:∀ {l:List (Nat × Nat)} {i j:Nat},Ch S n m i j l→i≤n→l.length≤n - i
 | [],_,_,_,_=>Nat.zero_le _
 | p :: l,i,j,⟨h1,h2,_,_,_,c⟩,_=>by
  have:=Ch.len c (by omega)
  rw [List.length_cons]
  omega
section
variable {x y:El} {s:Int}
theorem ch_le (ha:shOk x.l) (hb:shOk y.l):∀ {l:List (Nat × Nat)} {i j:Nat},Ch (shA x.l y.l s) x.l.length y.l.length i j l→wo (shA x.l y.l s) l≤openT x y s i j
 | [],i,j,_=>(openT_rng ha hb i j).1
 | p :: l,i,j,⟨h1,h2,h3,h4,h5,c⟩=>by
  have i1:=ch_le ha hb c
  simp only [wo]
  rw [openT_eq] at i1 ⊢
  have i2:=wT_take ha hb h2 h4 h5
  have i3:=wT_mono1 (s:=s) ha hb (j:=p.2) i p.1 h1
  have i4:=wT_mono2 (s:=s) ha hb (i:=i) j p.2 h3
  omega
theorem als_mem (ha:shOk x.l) (hb:shOk y.l):∀ (d i j:Nat) (l:List (Nat × Nat)),x.l.length - i=d→i≤x.l.length→j≤y.l.length→(l∈als (shA x.l y.l s) (openT x y s) x.l.length y.l.length i j [] ↔ Ch (shA x.l y.l s) x.l.length y.l.length i j l∧wo (shA x.l y.l s) l=openT x y s i j):=by
 intro d
 induction d using Nat.strongRecOn with
 | ind d ih =>
  intro i j l hd hi hj
  by_cases h:openT x y s i j=0
  ·rw [als_end h,List.mem_singleton,h]
   constructor
   ·rintro rfl;exact ⟨trivial,rfl⟩
   ·rintro ⟨c,e⟩
    by_cases hl:l=[]
    ·exact hl
    ·have:=c.pos.2 hl;omega
  ·rw [als_cons h,begins_same ha hb,List.mem_flatMap]
   constructor
   ·rintro ⟨p,hp,hl⟩
    obtain ⟨l', hl', rfl⟩:=List.mem_map.1 hl
    obtain ⟨h1,h2,h3,h4,h5,h6⟩:=bgA_mem.1 hp
    obtain ⟨c,e⟩:=(ih (x.l.length - (p.1+1)) (by omega) _ _ l' rfl (by omega) (by omega)).1 hl'
    exact ⟨⟨h1,h2,h3,h4,h5,c⟩,by simp only [wo];omega⟩
   ·rintro ⟨c,e⟩
    cases l with
    | nil=>exact absurd e.symm h
    | cons p l =>
     obtain ⟨h1,h2,h3,h4,h5,c⟩:=c
     have i1:=ch_le ha hb c
     simp only [wo] at e
     have i5:=i1
     rw [openT_eq] at i5 e
     have i2:=wT_take ha hb h2 h4 h5
     have i3:=wT_mono1 (s:=s) ha hb (j:=p.2) i p.1 h1
     have i4:=wT_mono2 (s:=s) ha hb (i:=i) j p.2 h3
     have e2:wo (shA x.l y.l s) l=openT x y s (p.1+1) (p.2+1):=by rw [openT_eq];omega
     refine ⟨p,bgA_mem.2 ⟨h1,h2,h3,h4,h5,?_⟩,List.mem_map.2 ⟨l,(ih (x.l.length - (p.1+1)) (by omega) _ _ l rfl (by omega) (by omega)).2 ⟨c,e2⟩,rfl⟩⟩
     rw [openT_eq,openT_eq]
     omega
end
def ltP (p q:Nat × Nat):Prop:=p.1<q.1∨p.1=q.1∧p.2<q.2
def bfP:List (Nat × Nat)→List (Nat × Nat)→Prop
 | [],[]=>False
 | [],_ :: _=>True
 | _ :: _,[]=>False
 | p :: a,q :: b=>if p=q then bfP a b else ltP p q
theorem bgA_order {S W:Nat→Nat→Int} {n m i j:Nat}:(bgA S W n m i j).Pairwise ltP:=by
 unfold bgA
 rw [List.pairwise_flatMap]
 refine ⟨fun k _ => ?_,?_⟩
 ·unfold bgR
  rw [List.pairwise_map]
  refine List.Pairwise.imp ?_ ((List.pairwise_lt_range' (s:=j) (n:=m - j)).filter _)
  intro a b h
  exact .inr ⟨rfl,h⟩
 ·refine List.Pairwise.imp ?_ (List.pairwise_lt_range' (s:=i) (n:=n - i))
  intro a b h p hp q hq
  have:=(bgR_mem hp).1
  have:=(bgR_mem hq).1
  exact .inl (by omega)
theorem als_order {x y:El} {s:Int} (ha:shOk x.l) (hb:shOk y.l):∀ (d i j:Nat),x.l.length - i=d→(als (shA x.l y.l s) (openT x y s) x.l.length y.l.length i j []).Pairwise bfP:=by
 intro d
 induction d using Nat.strongRecOn with
 | ind d ih =>
  intro i j hd
  by_cases h:openT x y s i j=0
  ·rw [als_end h];exact List.pairwise_singleton _ _
  ·rw [als_cons h,begins_same ha hb,List.pairwise_flatMap]
   refine ⟨fun p hp => ?_,?_⟩
   ·have:=bgA_mem.1 hp
    rw [List.pairwise_map]
    refine List.Pairwise.imp ?_ (ih (x.l.length - (p.1+1)) (by omega) (p.1+1) (p.2+1) rfl)
    intro a b h
    show bfP (p :: a) (p :: b)
    unfold bfP
    rw [if_pos rfl];exact h
   ·refine List.Pairwise.imp ?_ bgA_order
    intro p q h a ha b hb
    obtain ⟨a', _,rfl⟩:=List.mem_map.1 ha
    obtain ⟨b', _,rfl⟩:=List.mem_map.1 hb
    unfold bfP
    rw [if_neg]
    ·exact h
    ·rintro rfl
     unfold ltP at h
     omega
theorem min_sums {a:Nat × Nat→Int} (h:∀ p,0≤a p):∀ l:List (Nat × Nat),min 1000000 (sl l fun p=>min 1000000 (a p))=min 1000000 (sl l a)
 | []=>rfl
 | p :: l=>by
  have h1:=min_sums h l
  have h2:=sl_pos h l
  have h3:=sl_pos (f:=fun p=>min 1000000 (a p)) (fun p=>by have:=h p;show 0≤min 1000000 (a p);omega) l
  have:=h p
  simp only [sl]
  omega
theorem flat_len {α:Type} {g:Nat × Nat→List α}:∀ l:List (Nat × Nat),((l.flatMap g).length:Int)=sl l fun p=>((g p).length:Int)
 | []=>rfl
 | p :: l=>by rw [List.flatMap_cons,List.length_append];simp only [sl];rw [← flat_len l];omega
theorem sl_ext {f g:Nat × Nat→Int}:∀ {l:List (Nat × Nat)},(∀ p∈l,f p=g p)→sl l f=sl l g
 | [],_=>rfl
 | p :: l,h=>by simp only [sl];rw [h p (by simp),sl_ext fun q hq=>h q (by simp [hq])]
theorem als_count {x y:El} {s:Int} (ha:shOk x.l) (hb:shOk y.l):∀ (d i j:Nat),x.l.length - i=d→i≤x.l.length→j≤y.l.length→cT x y s i j=min 1000000 ((als (shA x.l y.l s) (openT x y s) x.l.length y.l.length i j []).length:Int):=by
 intro d
 induction d using Nat.strongRecOn with
 | ind d ih =>
  intro i j hd hi hj
  rw [cT_eq ha hb hi hj]
  by_cases h:openT x y s i j=0
  ·rw [if_pos h,als_end h];rfl
  ·rw [if_neg h,als_cons h,begins_same ha hb,fold_sum (f:=fun p=>cT x y s (p.1+1) (p.2+1)) (fun p=>cT_pos ha hb _ _) (by decide) (by decide),flat_len]
   rw [← min_sums (a:=fun p=>(((als (shA x.l y.l s) (openT x y s) x.l.length y.l.length (p.1+1) (p.2+1) []).map (p :: ·)).length:Int)) (fun p=>by show (0:Int)≤((_:Nat):Int);omega)]
   have:sl (bgA (shA x.l y.l s) (openT x y s) x.l.length y.l.length i j) (fun p=>cT x y s (p.1+1) (p.2+1))=sl (bgA (shA x.l y.l s) (openT x y s) x.l.length y.l.length i j) (fun p=>min 1000000 (((als (shA x.l y.l s) (openT x y s) x.l.length y.l.length (p.1+1) (p.2+1) []).map (p :: ·)).length:Int)):=sl_ext fun p hp=>by
    have:=bgA_mem.1 hp
    rw [ih (x.l.length - (p.1+1)) (by omega) _ _ rfl (by omega) (by omega),List.length_map]
   rw [this,Int.zero_add]
theorem Ch.low {S:Nat→Nat→Int} {n m i j i' j' : Nat} (hi:i≤i') (hj:j≤j'):∀ {l:List (Nat × Nat)},Ch S n m i' j' l→Ch S n m i j l
 | [],_=>trivial
 | _ :: _,⟨h1,h2,h3,h4,h5,c⟩=>⟨by omega,h2,by omega,h4,h5,c⟩
theorem max3 {a b c d:Int} (h:a=max (max b c) d):a=b∨a=c∨a=d:=by omega
theorem max2 {a b c:Int} (h:a=max b c):a=b∨a=c:=by omega
theorem ch_ex {x y:El} {s:Int} (ha:shOk x.l) (hb:shOk y.l):∀ (d i j:Nat),(x.l.length - i)+(y.l.length - j)=d→∃ l,Ch (shA x.l y.l s) x.l.length y.l.length i j l∧wo (shA x.l y.l s) l=openT x y s i j:=by
 intro d
 induction d using Nat.strongRecOn with
 | ind d ih =>
  intro i j hd
  by_cases hi:i<x.l.length
  ·by_cases hj:j<y.l.length
   ·have hc:=wT_cell (s:=s) ha hb hi hj
    obtain ⟨l1,c1,e1⟩:=ih (x.l.length - (i+1)+(y.l.length - j)) (by omega) (i+1) j rfl
    obtain ⟨l2,c2,e2⟩:=ih (x.l.length - i+(y.l.length - (j+1))) (by omega) i (j+1) rfl
    obtain ⟨l3,c3,e3⟩:=ih (x.l.length - (i+1)+(y.l.length - (j+1))) (by omega) (i+1) (j+1) rfl
    rw [openT_eq] at e1 e2 e3 ⊢
    have k1:wT x.l y.l s (-1) 0 i j=wT x.l y.l s (-1) 0 (i+1) j→∃ l,Ch (shA x.l y.l s) x.l.length y.l.length i j l∧wo (shA x.l y.l s) l=wT x.l y.l s (-1) 0 i j:=fun h=>⟨l1,c1.low (by omega) (by omega),e1.trans h.symm⟩
    have k2:wT x.l y.l s (-1) 0 i j=wT x.l y.l s (-1) 0 i (j+1)→∃ l,Ch (shA x.l y.l s) x.l.length y.l.length i j l∧wo (shA x.l y.l s) l=wT x.l y.l s (-1) 0 i j:=fun h=>⟨l2,c2.low (by omega) (by omega),e2.trans h.symm⟩
    by_cases hS:0<shA x.l y.l s i j
    ·rw [if_pos hS] at hc
     rcases max3 hc with q | q | q
     ·exact k1 q
     ·exact k2 q
     ·exact ⟨(i,j) :: l3,⟨Nat.le_refl _,hi,Nat.le_refl _,hj,hS,c3⟩,by rw [q, ← e3];rfl⟩
    ·rw [if_neg hS] at hc
     rcases max2 hc with q | q
     ·exact k1 q
     ·exact k2 q
   ·exact ⟨[],trivial,by rw [openT_eq,wT_end2 (by omega)];rfl⟩
  ·exact ⟨[],trivial,by rw [openT_eq,wT_end1 (by omega)];rfl⟩
theorem als_ne {x y:El} {s:Int} (ha:shOk x.l) (hb:shOk y.l) {i j:Nat} (hi:i≤x.l.length) (hj:j≤y.l.length):0<(als (shA x.l y.l s) (openT x y s) x.l.length y.l.length i j []).length:=by
 obtain ⟨l,h⟩:=ch_ex (s:=s) ha hb _ i j rfl
 exact List.length_pos_of_mem ((als_mem ha hb _ i j l rfl hi hj).2 h)
end Go.Dr.T
namespace Go.Dr.T
def lsP (l:List (Int × Int)):V:=if l=[] then .sl true 0 [] else .sl false l.length (shC l)
def idOf:V→Nat
 | .ms _ id _ _ _ _=>id
 | _=>0
theorem shC_appS:∀ {l m:List (Int × Int)},shC (l++m)=shC l++shC m
 | [],m=>rfl
 | p :: l,m=>by simp only [List.cons_append,shC,shC_appS (l:=l)]
theorem lsP_eq (l:List (Int × Int)):∃ c,lsP l = .sl c l.length (shC l):=by
 unfold lsP
 split
 ·rename_i h;subst h;exact ⟨true,rfl⟩
 ·exact ⟨false,rfl⟩
def pI (p:Nat × Nat):Int × Int:=((p.1:Int),(p.2:Int))
end Go.Dr.T
namespace Go.Dr.T
abbrev elB (x:El):B:=.blk [.str x.nm,.sl x.c x.l.length (shC x.l),.int .i64 x.g] false
set_option maxRecDepth 100000 in
theorem refShare_ok {s:Int} {x y:Int × Int} (hs:0≤s∧s≤200000) (hx:0≤x.1∧x.1≤999∧1≤x.2∧x.2≤200000) (hy:0≤y.1∧y.1≤999∧1≤y.2∧y.2≤200000):Fun FB md 64 [.agg [.int .i64 x.1,.int .i64 x.2],.agg [.int .i64 y.1,.int .i64 y.2],.int .i64 s] (.int .i64 (shr s x y)):=by
 obtain ⟨m,n⟩:=x
 obtain ⟨m', n'⟩:=y
 dsimp only at *
 have hw:IntKind.i64.wrap ((min n n').tdiv 2)=min n n' / 2:=by rw [Int.tdiv_eq_ediv_of_nonneg (by omega)];exact wrap_i64 (by omega) (by omega)
 refine fun_of rfl rfl ?_
 repeat' (first
 | (conv=>whnf)
   first
   | refine Br.t ?_
   | refine Br.f ?_
   | (refine Br.decT ?_ ?_;(focus first | assumption | omega))
   | (refine Br.decF ?_ ?_;(focus first | assumption | omega))
   | refine Br.dec (fun _ => ?_) (fun _ => ?_)
   | refine Br.not ?_
   | (refine Bnd.i64 ?_ ?_ ?_;(focus omega);(focus omega))
   | refine Bnd.any ?_
   | refine Get.mk _ rfl ?_
   | refine Leaves.of ?_
   | refine Vw.int ?_
   | (refine Req.mk ?_ ?_;(focus first | rfl | decide | exact ⟨rfl,rfl⟩ | exact ⟨rfl,by decide⟩ | exact (fun _=>rfl) | exact (fun h=>nomatch h) | (simp;done) | omega | (simp [big];done) | exact le_big (by omega) | exact lt_big (by omega))))
 all_goals rw [shr_case]
 all_goals (try rw [hw])
 all_goals first
  | (rw [if_pos (by omega)];done)
  | (rw [if_neg (by omega),if_pos (by omega)];omega)
  | (rw [if_neg (by omega),if_neg (by omega),if_pos (by omega)];done)
  | (rw [if_neg (by omega),if_neg (by omega),if_neg (by omega)];done)
  | (exfalso;omega)
theorem openE_1 {x y:El} {s:Int} (h:x.e≠0):openE x y s=x.e:=by simp [openE,ckd,h]
theorem openE_2 {x y:El} {s:Int} (h:x.e=0) (h2:y.e≠0):openE x y s=y.e:=by simp [openE,ckd,h,h2]
theorem openE_3 {x y:El} {s:Int} (h:x.e=0) (h2:y.e=0):openE x y s=if outB s 0 200000=true then 7 else 0:=by simp [openE,ckd,h,h2]
set_option maxRecDepth 100000 in
theorem two_ok {x y:El} {s:Int}:Fun FB md 55 [elA' x,elA' y,.int .i64 s] (.int .i64 (openE x y s)):=by
 have h1:Fun FB md 19 [elA' x] (.tup [.int .i64 (ckE x.nm x.l x.g).1,.int .i64 x.e]):=refCheck_ok (nm:=x.nm) (c:=x.c) (l:=x.l) (g:=x.g)
 have h2:Fun FB md 19 [elA' y] (.tup [.int .i64 (ckE y.nm y.l y.g).1,.int .i64 y.e]):=refCheck_ok (nm:=y.nm) (c:=y.c) (l:=y.l) (g:=y.g)
 have h3:=in_ok (n:=s) (lo:=0) (hi:=200000)
 generalize (ckE x.nm x.l x.g).1=ax at *
 generalize (ckE y.nm y.l y.g).1=ay at *
 by_cases hex:x.e=0
 ·by_cases hey:y.e=0
  ·rw [openE_3 hex hey]
   rw [hex] at h1
   rw [hey] at h2
   cases hs:outB s 0 200000 <;> rw [hs] at h3
   all_goals refine fun_of rfl rfl ?_
   all_goals
    repeat' (first
 | (conv=>whnf)
   first
   | refine Br.t ?_
   | refine Br.f ?_
   | refine call_fun rfl rfl h1 (.inl rfl) ?_
   | refine call_fun rfl rfl h2 (.inl rfl) ?_
   | refine call_fun rfl rfl h3 (.inl rfl) ?_
   | refine Get.mk _ rfl ?_
   | refine Leaves.of ?_
   | refine Vw.int ?_
   | (refine Req.mk ?_ ?_;(focus first | rfl | decide | exact ⟨rfl,rfl⟩ | exact ⟨rfl,by decide⟩ | exact (fun _=>rfl) | exact (fun h=>nomatch h) | (simp;done) | omega | (simp [big];done) | exact le_big (by omega) | exact lt_big (by omega))))
   all_goals first | rfl | (exfalso;omega)
  ·rw [openE_2 hex hey]
   rw [hex] at h1
   generalize y.e=ey at *
   refine fun_of rfl rfl ?_
   repeat' (first
 | (conv=>whnf)
   first
   | refine Br.t ?_
   | refine Br.f ?_
   | (refine Br.decF ?_ ?_;(focus first | assumption | omega))
   | refine call_fun rfl rfl h1 (.inl rfl) ?_
   | refine call_fun rfl rfl h2 (.inl rfl) ?_
   | refine Get.mk _ rfl ?_
   | refine Leaves.of ?_
   | refine Vw.int ?_
   | (refine Req.mk ?_ ?_;(focus first | rfl | decide | exact ⟨rfl,rfl⟩ | exact ⟨rfl,by decide⟩ | exact (fun _=>rfl) | exact (fun h=>nomatch h) | (simp;done) | omega | (simp [big];done) | exact le_big (by omega) | exact lt_big (by omega))))
   all_goals first | rfl | (exfalso;omega)
 ·rw [openE_1 hex]
  generalize x.e=ex at *
  refine fun_of rfl rfl ?_
  repeat' (first
 | (conv=>whnf)
   first
   | refine Br.f ?_
   | (refine Br.decF ?_ ?_;(focus first | assumption | omega))
   | refine call_fun rfl rfl h1 (.inl rfl) ?_
   | refine Get.mk _ rfl ?_
   | refine Leaves.of ?_
   | refine Vw.int ?_
   | (refine Req.mk ?_ ?_;(focus first | rfl | decide | exact ⟨rfl,rfl⟩ | exact ⟨rfl,by decide⟩ | exact (fun _=>rfl) | exact (fun h=>nomatch h) | (simp;done) | omega | (simp [big];done) | exact le_big (by omega) | exact lt_big (by omega))))
  all_goals first | rfl | (exfalso;omega)
end Go.Dr.T
