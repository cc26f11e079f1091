/- Chapter 06: Surely as the document has it: the places that a best alignment comes to. Plain. -/
import Derived.Test.YtfhphjloaelgoaaGreatDoorR06S1
import Derived.Test.YtfhphjloaelgoaaGreatDoorG6
namespace Go.Dr.T
def vT (S:Nat→Nat→Int):Nat→Nat→Int
 | 0,_=>0
 | _+1,0=>0
 | i+1,j+1=>if 0<S i j then max (max (vT S i (j+1)) (vT S (i+1) j)) (S i j+vT S i j) else max (vT S i (j+1)) (vT S (i+1) j)
termination_by i j=>i+j
theorem vT_0 {S:Nat→Nat→Int} {j:Nat}:vT S 0 j=0:=by unfold vT;rfl
theorem vT_1 {S:Nat→Nat→Int} {i:Nat}:vT S i 0=0:=by cases i <;> unfold vT <;> rfl
theorem vT_S {S:Nat→Nat→Int} {i j:Nat}:vT S (i+1) (j+1)=if 0<S i j then max (max (vT S i (j+1)) (vT S (i+1) j)) (S i j+vT S i j) else max (vT S i (j+1)) (vT S (i+1) j):=by
 conv=>lhs;unfold vT
def suStep (W V Sh Wb:Nat→Nat→Int) (i j:Nat) (p:List (Int × Int) × List (Int × Int)):List (Int × Int) × List (Int × Int) :=
 if Sh i j=0∨V i j+Sh i j+W (i+1) (j+1)≠W 0 0 then p else (p.1++[prI i j],if Wb i j<W 0 0 then p.2++[prI i j] else p.2)
def suRow (W V Sh Wb:Nat→Nat→Int) (m i:Nat):Nat→List (Int × Int) × List (Int × Int)→List (Int × Int) × List (Int × Int)
 | 0,p=>p
 | l+1,p=>suRow W V Sh Wb m i l (suStep W V Sh Wb i (m - (l+1)) p)
def suAll (W V Sh Wb:Nat→Nat→Int) (n m:Nat):Nat→List (Int × Int) × List (Int × Int)→List (Int × Int) × List (Int × Int)
 | 0,p=>p
 | k+1,p=>suAll W V Sh Wb n m k (suRow W V Sh Wb m (n - (k+1)) m p)
structure SWOk (W S:Nat→Nat→Int) (n m:Nat):Prop where
 h1:∀ i j,W (i+1) j≤W i j
 h2:∀ i j,W i (j+1)≤W i j
 h3:∀ i j,i<n→j<m→0<S i j→S i j+W (i+1) (j+1)≤W i j
 h0:∀ i j,i<n→j<m→0≤S i j
theorem reach_le {W S:Nat→Nat→Int} {n m:Nat} (w:SWOk W S n m):∀ i j,i≤n→j≤m→vT S i j+W i j≤W 0 0
 | 0,0,_,_=>by rw [vT_0];omega
 | 0,j+1,hi,hj=>by
  have:=reach_le w 0 j hi (by omega)
  have:=w.h2 0 j
  rw [vT_0] at *
  omega
 | i+1,0,hi,hj=>by
  have:=reach_le w i 0 (by omega) hj
  have:=w.h1 i 0
  rw [vT_1] at *
  omega
 | i+1,j+1,hi,hj=>by
  have a1:=reach_le w i (j+1) (by omega) hj
  have a2:=reach_le w (i+1) j hi (by omega)
  have a3:=reach_le w i j (by omega) (by omega)
  have b1:=w.h1 i (j+1)
  have b2:=w.h2 (i+1) j
  rw [vT_S]
  split
  ·rename_i hs
   have b3:=w.h3 i j (by omega) (by omega) hs
   omega
  ·omega
termination_by i j=>i+j
def rch (W S:Nat→Nat→Int) (i j:Nat):Prop:=vT S i j+W i j=W 0 0
def stp (W S:Nat→Nat→Int) (p q i j:Nat):Prop:=(i=p+1∧j=q∧W i j=W p q)∨(i=p∧j=q+1∧W i j=W p q)∨(i=p+1∧j=q+1∧0<S p q∧S p q+W i j=W p q)
def vis (n m i j p q:Nat):Prop:=p<n∧q<m∧(p<i∨p=i∧q<j)
theorem rch_step {W S:Nat→Nat→Int} {n m:Nat} (w:SWOk W S n m) {p q i j:Nat} (hp:p<n) (hq:q<m) (h:rch W S p q) (e:stp W S p q i j):rch W S i j:=by
 unfold rch at *
 rcases e with ⟨rfl,rfl,e⟩ | ⟨rfl,rfl,e⟩ | ⟨rfl,rfl,hs,e⟩
 ·have a:=reach_le w (p+1) j (by omega) (by omega)
  have b:vT S p j≤vT S (p+1) j:=by
   cases j with
   | zero=>rw [vT_1,vT_1];exact Int.le_refl _
   | succ j=>rw [vT_S];split <;> omega
  omega
 ·have a:=reach_le w i (q+1) (by omega) (by omega)
  have b:vT S i q≤vT S i (q+1):=by
   cases i with
   | zero=>rw [vT_0,vT_0];exact Int.le_refl _
   | succ i=>rw [vT_S];split <;> omega
  omega
 ·have a:=reach_le w (p+1) (q+1) (by omega) (by omega)
  have b:S p q+vT S p q≤vT S (p+1) (q+1):=by rw [vT_S,if_pos hs];omega
  omega
theorem rch_rec {W S:Nat→Nat→Int} {n m:Nat} (w:SWOk W S n m) {i j:Nat} (hi:i<n) (hj:j<m):rch W S i j ↔ (i=0∧j=0)∨∃ p q,vis n m i j p q∧rch W S p q∧stp W S p q i j:=by
 constructor
 ·intro h
  cases i with
  | zero =>
   cases j with
   | zero=>exact .inl ⟨rfl,rfl⟩
   | succ j =>
    refine .inr ⟨0,j,⟨hi,by omega,.inr ⟨rfl,by omega⟩⟩,?_⟩
    have a:=reach_le w 0 j (by omega) (by omega)
    have b:=w.h2 0 j
    unfold rch at *
    rw [vT_0] at *
    exact ⟨by omega,.inr (.inl ⟨rfl,rfl,by omega⟩)⟩
  | succ i =>
   cases j with
   | zero =>
    refine .inr ⟨i,0,⟨by omega,hj,.inl (by omega)⟩,?_⟩
    have a:=reach_le w i 0 (by omega) (by omega)
    have b:=w.h1 i 0
    unfold rch at *
    rw [vT_1] at *
    exact ⟨by omega,.inl ⟨rfl,rfl,by omega⟩⟩
   | succ j =>
    have a1:=reach_le w i (j+1) (by omega) (by omega)
    have a2:=reach_le w (i+1) j (by omega) (by omega)
    have a3:=reach_le w i j (by omega) (by omega)
    have b1:=w.h1 i (j+1)
    have b2:=w.h2 (i+1) j
    have up:vT S (i+1) (j+1)=vT S i (j+1)→(i+1=0∧j+1=0)∨∃ p q,vis n m (i+1) (j+1) p q∧rch W S p q∧stp W S p q (i+1) (j+1):=fun e=>by
     unfold rch at *
     exact .inr ⟨i,j+1,⟨by omega,hj,.inl (by omega)⟩,by omega,.inl ⟨rfl,rfl,by omega⟩⟩
    have lf:vT S (i+1) (j+1)=vT S (i+1) j→(i+1=0∧j+1=0)∨∃ p q,vis n m (i+1) (j+1) p q∧rch W S p q∧stp W S p q (i+1) (j+1):=fun e=>by
     unfold rch at *
     exact .inr ⟨i+1,j,⟨hi,by omega,.inr ⟨rfl,by omega⟩⟩,by omega,.inr (.inl ⟨rfl,rfl,by omega⟩)⟩
    by_cases hs:0<S i j
    ·have b3:=w.h3 i j (by omega) (by omega) hs
     by_cases e:vT S (i+1) (j+1)=S i j+vT S i j
     ·unfold rch at *
      exact .inr ⟨i,j,⟨by omega,by omega,.inl (by omega)⟩,by omega,.inr (.inr ⟨rfl,rfl,hs,by omega⟩)⟩
     ·by_cases e2:vT S (i+1) (j+1)=vT S i (j+1)
      ·exact up e2
      ·refine lf ?_
       rw [vT_S,if_pos hs] at *
       omega
    ·by_cases e2:vT S (i+1) (j+1)=vT S i (j+1)
     ·exact up e2
     ·refine lf ?_
      rw [vT_S,if_neg hs] at *
      omega
 ·rintro (⟨rfl,rfl⟩ | ⟨p,q,⟨hp,hq,_⟩,hr,he⟩)
  ·unfold rch;rw [vT_0];omega
  ·exact rch_step w hp hq hr he
def RInv (W S:Nat→Nat→Int) (n m i j:Nat) (R:Nat→Nat→Int):Prop:=∀ p q,0<R p q ↔ (p=0∧q=0)∨∃ p' q', vis n m i j p' q' ∧ rch W S p' q' ∧ stp W S p' q' p q
theorem upT_pos {R:Nat→Nat→Int} {i j p q:Nat}:0<upT R i j 1 p q ↔ 0<R p q∨(p=i∧q=j):=by
 unfold upT
 split
 ·rename_i h;exact ⟨fun _=>.inr h,fun _=>by decide⟩
 ·rename_i h;exact ⟨fun k=>.inl k,fun k=>k.resolve_right h⟩
theorem step_R {W Sh Wb:Nat→Nat→Int} {i j:Nat} {st:SS} {p q:Nat}:0<(sStep W Sh Wb i j st).R p q ↔ 0<st.R p q∨(0<st.R i j∧stp W Sh i j p q):=by
 have hD:∀ R:Nat→Nat→Int,0<sDown W i j R p q ↔ 0<R p q∨(p=i+1∧q=j∧W p q=W i j):=fun R=>by
  unfold sDown
  split
  ·rename_i h
   rw [upT_pos]
   constructor
   ·rintro (k | ⟨rfl,rfl⟩)
    ·exact .inl k
    ·exact .inr ⟨rfl,rfl,h⟩
   ·rintro (k | ⟨rfl,rfl,_⟩)
    ·exact .inl k
    ·exact .inr ⟨rfl,rfl⟩
  ·rename_i h
   constructor
   ·exact fun k=>.inl k
   ·rintro (k | ⟨rfl,rfl,e⟩)
    ·exact k
    ·exact absurd e h
 have hE:∀ R:Nat→Nat→Int,0<sRight W i j R p q ↔ 0<R p q∨(p=i∧q=j+1∧W p q=W i j):=fun R=>by
  unfold sRight
  split
  ·rename_i h
   rw [upT_pos]
   constructor
   ·rintro (k | ⟨rfl,rfl⟩)
    ·exact .inl k
    ·exact .inr ⟨rfl,rfl,h⟩
   ·rintro (k | ⟨rfl,rfl,_⟩)
    ·exact .inl k
    ·exact .inr ⟨rfl,rfl⟩
  ·rename_i h
   constructor
   ·exact fun k=>.inl k
   ·rintro (k | ⟨rfl,rfl,e⟩)
    ·exact k
    ·exact absurd e h
 unfold sStep stp
 split
 ·rename_i hR
  split
  ·rename_i hc
   dsimp only
   rw [upT_pos,hE,hD]
   constructor
   ·rintro (((k | k) | k) | ⟨rfl,rfl⟩)
    ·exact .inl k
    ·exact .inr ⟨hR,.inl k⟩
    ·exact .inr ⟨hR,.inr (.inl k)⟩
    ·exact .inr ⟨hR,.inr (.inr ⟨rfl,rfl,hc⟩)⟩
   ·rintro (k | ⟨_,k | k | ⟨rfl,rfl,_⟩⟩)
    ·exact .inl (.inl (.inl k))
    ·exact .inl (.inl (.inr k))
    ·exact .inl (.inr k)
    ·exact .inr ⟨rfl,rfl⟩
  ·rename_i hc
   dsimp only
   rw [hE,hD]
   constructor
   ·rintro ((k | k) | k)
    ·exact .inl k
    ·exact .inr ⟨hR,.inl k⟩
    ·exact .inr ⟨hR,.inr (.inl k)⟩
   ·rintro (k | ⟨_,k | k | ⟨rfl,rfl,k⟩⟩)
    ·exact .inl (.inl k)
    ·exact .inl (.inr k)
    ·exact .inr k
    ·exact absurd k hc
 ·rename_i hR
  constructor
  ·exact fun k=>.inl k
  ·rintro (k | ⟨k,_⟩)
   ·exact k
   ·exact absurd k hR
theorem RInv.step {W Sh Wb:Nat→Nat→Int} {n m i j:Nat} {st:SS} (w:SWOk W Sh n m) (hi:i<n) (hj:j<m) (h:RInv W Sh n m i j st.R):(0<st.R i j ↔ rch W Sh i j)∧RInv W Sh n m i (j+1) (sStep W Sh Wb i j st).R:=by
 have e:0<st.R i j ↔ rch W Sh i j:=by rw [h i j,rch_rec w hi hj]
 refine ⟨e,fun p q => ?_⟩
 rw [step_R,h p q,e]
 constructor
 ·rintro ((k | ⟨p', q', ⟨a,b,c⟩,d,f⟩) | ⟨a,b⟩)
  ·exact .inl k
  ·exact .inr ⟨p', q', ⟨a,b,by omega⟩,d,f⟩
  ·exact .inr ⟨i,j,⟨hi,hj,.inr ⟨rfl,by omega⟩⟩,a,b⟩
 ·rintro (k | ⟨p', q', ⟨a,b,c⟩,d,f⟩)
  ·exact .inl (.inl k)
  ·by_cases hc:p' = i∧q' = j
   ·obtain ⟨rfl,rfl⟩:=hc
    exact .inr ⟨d,f⟩
   ·exact .inl (.inr ⟨p', q', ⟨a,b,by omega⟩,d,f⟩)
theorem step_lists {W Sh Wb:Nat→Nat→Int} {n m i j:Nat} {st:SS} (w:SWOk W Sh n m) (hi:i<n) (hj:j<m) (h:0<st.R i j ↔ rch W Sh i j):((sStep W Sh Wb i j st).M,(sStep W Sh Wb i j st).S)=suStep W (vT Sh) Sh Wb i j (st.M,st.S):=by
 have a:=reach_le w i j (by omega) (by omega)
 have b:=w.h0 i j hi hj
 have c:=w.h3 i j hi hj
 unfold sStep suStep
 unfold rch at h
 by_cases hR:0<st.R i j
 ·rw [if_pos hR]
  have hr:=h.1 hR
  by_cases hc:0<Sh i j∧Sh i j+W (i+1) (j+1)=W i j
  ·rw [if_pos hc,if_neg (show ¬ (Sh i j=0∨vT Sh i j+Sh i j+W (i+1) (j+1)≠W 0 0) by omega)]
  ·rw [if_neg hc,if_pos]
   by_cases hs:Sh i j=0
   ·exact .inl hs
   ·exact .inr (by omega)
 ·rw [if_neg hR,if_pos]
  by_cases hs:Sh i j=0
  ·exact .inl hs
  ·refine .inr (fun e=>hR (h.2 ?_))
   have:=c (by omega)
   omega
theorem row_same {W Sh Wb:Nat→Nat→Int} {n m i:Nat} (w:SWOk W Sh n m) (hi:i<n):∀ (l:Nat) (st:SS),l≤m→RInv W Sh n m i (m - l) st.R→((sRow W Sh Wb m i l st).M,(sRow W Sh Wb m i l st).S)=suRow W (vT Sh) Sh Wb m i l (st.M,st.S)∧RInv W Sh n m i m (sRow W Sh Wb m i l st).R
 | 0,st,_,h=>⟨rfl,h⟩
 | l+1,st,hl,h=>by
  obtain ⟨h1,h2⟩:=h.step (Wb:=Wb) w hi (by omega)
  rw [show m - (l+1)+1=m - l by omega] at h2
  obtain ⟨h3,h4⟩:=row_same w hi l _ (by omega) h2
  refine ⟨?_,h4⟩
  show ((sRow W Sh Wb m i l _).M,(sRow W Sh Wb m i l _).S)=suRow W (vT Sh) Sh Wb m i l _
  rw [h3,step_lists w hi (by omega) h1]
theorem all_same {W Sh Wb:Nat→Nat→Int} {n m:Nat} (w:SWOk W Sh n m):∀ (k:Nat) (st:SS),k≤n→RInv W Sh n m (n - k) 0 st.R→((sAll W Sh Wb n m k st).M,(sAll W Sh Wb n m k st).S)=suAll W (vT Sh) Sh Wb n m k (st.M,st.S)
 | 0,st,_,_=>rfl
 | k+1,st,hk,h=>by
  obtain ⟨h1,h2⟩:=row_same (Wb:=Wb) w (i:=n - (k+1)) (by omega) m st (Nat.le_refl _) (by rw [Nat.sub_self];exact h)
  have h3:RInv W Sh n m (n - k) 0 (sRow W Sh Wb m (n - (k+1)) m st).R:=fun p q=>by
   rw [h2 p q]
   constructor
   ·rintro (e | ⟨p', q', ⟨a,b,c⟩,d⟩)
    ·exact .inl e
    ·exact .inr ⟨p', q', ⟨a,b,by omega⟩,d⟩
   ·rintro (e | ⟨p', q', ⟨a,b,c⟩,d⟩)
    ·exact .inl e
    ·exact .inr ⟨p', q', ⟨a,b,by omega⟩,d⟩
  have h4:=all_same (Wb:=Wb) w k _ (by omega) h3
  show ((sAll W Sh Wb n m k _).M,(sAll W Sh Wb n m k _).S)=suAll W (vT Sh) Sh Wb n m k _
  rw [h4,h1]
theorem start_R {W S:Nat→Nat→Int} {n m:Nat}:RInv W S n m 0 0 (upT zT 0 0 1):=fun p q=>by
 rw [upT_pos]
 constructor
 ·rintro (h | h)
  ·unfold zT at h;exact absurd h (by decide)
  ·exact .inl h
 ·rintro (h | ⟨p', q', ⟨_,_,h⟩,_⟩)
  ·exact .inr h
  ·omega
theorem wok_of {x y:El} {s:Int} (ha:shOk x.l) (hb:shOk y.l):SWOk (openT x y s) (shA x.l y.l s) x.l.length y.l.length where
 h1:=fun i j=>by rw [openT_eq,openT_eq];exact wT_down ha hb i j
 h2:=fun i j=>by rw [openT_eq,openT_eq];exact wT_right ha hb i j
 h3:=fun i j hi hj h=>by rw [openT_eq,openT_eq];exact wT_take ha hb hi hj h
 h0:=fun i j hi hj=>(shA_rng ha hb hi hj).1
def rSurely (x y:El) (s:Int):List (Int × Int) × List (Int × Int):=suAll (openT x y s) (vT (shA x.l y.l s)) (shA x.l y.l s) (wbT x.l y.l s) x.l.length y.l.length x.l.length ([],[])
theorem surely_same {x y:El} {s:Int} (ha:shOk x.l) (hb:shOk y.l):((surelyS x y s).M,(surelyS x y s).S)=rSurely x y s :=
 all_same (wok_of ha hb) _ _ (Nat.le_refl _) (by rw [Nat.sub_self];exact start_R)
end Go.Dr.T
namespace Go.Dr.T
def grid (c:Nat→Nat→Bool) (n m:Nat):List (Int × Int):=(List.range' 0 n).flatMap fun i=>((List.range' 0 m).filter (c i)).map (prI i)
theorem grid_mem {c:Nat→Nat→Bool} {n m:Nat} {p:Int × Int}:p∈grid c n m ↔ ∃ i j,i<n∧j<m∧c i j=true∧p=prI i j:=by
 unfold grid
 simp only [List.mem_flatMap,List.mem_map,List.mem_filter,List.mem_range'_1]
 constructor
 ·rintro ⟨i,hi,j,⟨hj,hc⟩,rfl⟩
  exact ⟨i,j,by omega,by omega,hc,rfl⟩
 ·rintro ⟨i,j,hi,hj,hc,rfl⟩
  exact ⟨i,by omega,j,⟨by omega,hc⟩,rfl⟩
theorem sm_len {c:Nat→Bool}:∀ m,((((List.range' 0 m).filter c).length:Nat):Int)=sm m (fun j=>if c j=true then 1 else 0)
 | 0=>rfl
 | m+1=>by
  rw [List.range'_concat,List.filter_append,List.length_append]
  have:=sm_len (c:=c) m
  simp only [sm,Nat.zero_add,Nat.one_mul]
  rw [Int.natCast_add,this]
  cases h:c m <;> simp [h]
theorem grid_len {c:Nat→Nat→Bool} {m:Nat}:∀ n,(((grid c n m).length:Nat):Int)=sm n (fun i=>sm m (fun j=>if c i j=true then 1 else 0))
 | 0=>rfl
 | n+1=>by
  have ih:=grid_len (c:=c) (m:=m) n
  unfold grid at ih ⊢
  rw [List.range'_concat,List.flatMap_append,List.length_append,Int.natCast_add,ih]
  simp only [sm,Nat.zero_add,Nat.one_mul,List.flatMap_cons,List.flatMap_nil,List.append_nil,List.length_map]
  rw [sm_len]
theorem grid_swap {c d:Nat→Nat→Bool} {n m:Nat} (h:∀ i j,i<n→j<m→c i j=d j i):(grid c n m).length=(grid d m n).length∧∀ p∈grid c n m,(p.2,p.1)∈grid d m n:=by
 constructor
 ·have e:(((grid c n m).length:Nat):Int)=((grid d m n).length:Nat):=by
   rw [grid_len,grid_len,sm_comm]
   exact sm_congr fun j hj=>sm_congr fun i hi=>by rw [h i j hi hj]
  omega
 ·intro p hp
  obtain ⟨i,j,hi,hj,hc,rfl⟩:=grid_mem.1 hp
  exact grid_mem.2 ⟨j,i,hj,hi,by rw [← h i j hi hj];exact hc,rfl⟩
def cM (W V Sh:Nat→Nat→Int) (i j:Nat):Bool:=decide (¬ (Sh i j=0∨V i j+Sh i j+W (i+1) (j+1)≠W 0 0))
def cS (W V Sh Wb:Nat→Nat→Int) (i j:Nat):Bool:=cM W V Sh i j && decide (Wb i j<W 0 0)
theorem suStep_eq {W V Sh Wb:Nat→Nat→Int} {i j:Nat} {p:List (Int × Int) × List (Int × Int)}:suStep W V Sh Wb i j p=(p.1++(([j].filter (cM W V Sh i)).map (prI i)),p.2++(([j].filter (cS W V Sh Wb i)).map (prI i))):=by
 unfold suStep
 by_cases h:Sh i j=0∨V i j+Sh i j+W (i+1) (j+1)≠W 0 0
 ·have e:cM W V Sh i j=false:=by unfold cM;simpa using fun a=>(by rcases h with h | h;exact absurd h a;exact h)
  rw [if_pos h,List.filter_cons_of_neg (by simp [e]),List.filter_cons_of_neg (by simp [cS,e])]
  simp
 ·have e:cM W V Sh i j=true:=by unfold cM;exact decide_eq_true h
  rw [if_neg h,List.filter_cons_of_pos e]
  by_cases hw:Wb i j<W 0 0
  ·rw [if_pos hw,List.filter_cons_of_pos (by simp [cS,e,hw])];rfl
  ·rw [if_neg hw,List.filter_cons_of_neg (by simp [cS,e,hw])];simp
theorem suRow_eq {W V Sh Wb:Nat→Nat→Int} {m i:Nat}:∀ (l:Nat) (p:List (Int × Int) × List (Int × Int)),l≤m→suRow W V Sh Wb m i l p=(p.1++(((List.range' (m - l) l).filter (cM W V Sh i)).map (prI i)),p.2++(((List.range' (m - l) l).filter (cS W V Sh Wb i)).map (prI i)))
 | 0,p,_=>by simp [suRow]
 | l+1,p,h=>by
  unfold suRow
  rw [suRow_eq l _ (by omega),suStep_eq,List.range'_succ,show m - (l+1)+1=m - l by omega]
  dsimp only
  have e:∀ c:Nat→Bool,((m - (l+1)) :: List.range' (m - l) l).filter c=[m - (l+1)].filter c++(List.range' (m - l) l).filter c:=fun c=>by rw [← List.filter_append];rfl
  rw [e,e,List.map_append,List.map_append,List.append_assoc,List.append_assoc]
theorem suAll_eq {W V Sh Wb:Nat→Nat→Int} {n m:Nat}:∀ (k:Nat) (p:List (Int × Int) × List (Int × Int)),k≤n→suAll W V Sh Wb n m k p=(p.1++((List.range' (n - k) k).flatMap fun i=>((List.range' 0 m).filter (cM W V Sh i)).map (prI i)),p.2++((List.range' (n - k) k).flatMap fun i=>((List.range' 0 m).filter (cS W V Sh Wb i)).map (prI i)))
 | 0,p,_=>by simp [suAll]
 | k+1,p,h=>by
  unfold suAll
  rw [suAll_eq k _ (by omega),suRow_eq m p (Nat.le_refl _),Nat.sub_self,List.range'_succ,show n - (k+1)+1=n - k by omega]
  dsimp only
  rw [List.flatMap_cons,List.flatMap_cons,List.append_assoc,List.append_assoc]
theorem rSurely_eq {x y:El} {s:Int}:rSurely x y s=(grid (cM (openT x y s) (vT (shA x.l y.l s)) (shA x.l y.l s)) x.l.length y.l.length,grid (cS (openT x y s) (vT (shA x.l y.l s)) (shA x.l y.l s) (wbT x.l y.l s)) x.l.length y.l.length):=by
 unfold rSurely
 rw [suAll_eq _ _ (Nat.le_refl _),Nat.sub_self]
 simp only [List.nil_append]
 rfl
theorem vT_symm {S S' : Nat→Nat→Int} (h:∀ i j,S i j=S' j i):∀ i j,vT S i j=vT S' j i
 | 0,j=>by rw [vT_0,vT_1]
 | i+1,0=>by rw [vT_1,vT_0]
 | i+1,j+1=>by
  rw [vT_S,vT_S,vT_symm h i (j+1),vT_symm h (i+1) j,vT_symm h i j,h i j]
  split <;> omega
termination_by i j=>i+j
theorem cM_symm {x y:El} {s:Int} {i j:Nat}:cM (openT x y s) (vT (shA x.l y.l s)) (shA x.l y.l s) i j=cM (openT y x s) (vT (shA y.l x.l s)) (shA y.l x.l s) j i:=by
 unfold cM
 rw [openT_symm (x:=x),openT_symm (x:=x),shA_symm (a:=x.l),vT_symm (S:=shA x.l y.l s) (S' := shA y.l x.l s) fun _ _=>shA_symm]
theorem cS_symm {x y:El} {s:Int} {i j:Nat}:cS (openT x y s) (vT (shA x.l y.l s)) (shA x.l y.l s) (wbT x.l y.l s) i j=cS (openT y x s) (vT (shA y.l x.l s)) (shA y.l x.l s) (wbT y.l x.l s) j i:=by
 unfold cS
 rw [cM_symm,openT_symm (x:=x)]
 unfold wbT
 rw [wT_symm]
theorem surely_symm {x y:El} {s:Int}:((rSurely x y s).1.length=(rSurely y x s).1.length∧∀ p∈(rSurely x y s).1,(p.2,p.1)∈(rSurely y x s).1)∧(rSurely x y s).2.length=(rSurely y x s).2.length∧∀ p∈(rSurely x y s).2,(p.2,p.1)∈(rSurely y x s).2:=by
 rw [rSurely_eq,rSurely_eq]
 exact ⟨grid_swap fun i j _ _=>cM_symm,grid_swap fun i j _ _=>cS_symm⟩
theorem grid_le {c:Nat→Nat→Bool} {n m:Nat} (hn:n≤40) (hm:m≤40):(grid c n m).length≤1600:=by
 have h:∀ (k:Nat) (f:Nat→Int) (b:Int),(∀ i,f i≤b)→sm k f≤k * b:=by
  intro k f b hf
  induction k with
  | zero=>simp [sm]
  | succ k ih =>
   have:=hf k
   simp only [sm]
   rw [Int.natCast_add,Int.add_mul]
   omega
 have h1:=grid_len (c:=c) (m:=m) n
 have h2:∀ i,sm m (fun j=>if c i j=true then 1 else 0)≤40:=fun i=>by
  have:=h m (fun j=>if c i j=true then 1 else 0) 1 (fun j=>by split <;> decide)
  omega
 have h3:=h n (fun i=>sm m (fun j=>if c i j=true then 1 else 0)) 40 h2
 omega
end Go.Dr.T
