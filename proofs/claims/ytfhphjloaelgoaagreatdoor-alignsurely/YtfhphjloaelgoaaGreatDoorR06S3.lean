/- Chapter 06: Surely as the document has it: the places that a best alignment comes to. Plain. -/
import Derived.Test.YtfhphjloaelgoaaGreatDoorR06S1
namespace Go.Dr.T
def vT (S:Nat→Nat→Int):Nat→Nat→Int
 | 0,_=>0
 | _+1,0=>0
 | i+1,j+1=>if 0<S i j then max (max (vT S i (j+1)) (vT S (i+1) j)) (S i j+vT S i j) else max (vT S i (j+1)) (vT S (i+1) j)
termination_by i j=>i+j
theorem vT_0 {S:Nat→Nat→Int} {j:Nat}:vT S 0 j=0:=by unfold vT;rfl
theorem vT_1 {S:Nat→Nat→Int} {i:Nat}:vT S i 0=0:=by cases i <;> unfold vT <;> rfl
theorem vT_S {S:Nat→Nat→Int} {i j:Nat}:vT S (i+1) (j+1)=if 0<S i j then max (max (vT S i (j+1)) (vT S (i+1) j)) (S i j+vT S i j) else max (vT S i (j+1)) (vT S (i+1) j):=by
 conv=>lhs;unfold vT
def suStep (W V Sh Wb:Nat→Nat→Int) (i j:Nat) (p:List (Int × Int) × List (Int × Int)):List (Int × Int) × List (Int × Int) :=
 if Sh i j=0∨V i j+Sh i j+W (i+1) (j+1)≠W 0 0 then p else (p.1++[prI i j],if Wb i j<W 0 0 then p.2++[prI i j] else p.2)
def suRow (W V Sh Wb:Nat→Nat→Int) (m i:Nat):Nat→List (Int × Int) × List (Int × Int)→List (Int × Int) × List (Int × Int)
 | 0,p=>p
 | l+1,p=>suRow W V Sh Wb m i l (suStep W V Sh Wb i (m - (l+1)) p)
def suAll (W V Sh Wb:Nat→Nat→Int) (n m:Nat):Nat→List (Int × Int) × List (Int × Int)→List (Int × Int) × List (Int × Int)
 | 0,p=>p
 | k+1,p=>suAll W V Sh Wb n m k (suRow W V Sh Wb m (n - (k+1)) m p)
structure SWOk (W S:Nat→Nat→Int) (n m:Nat):Prop where
 h1:∀ i j,W (i+1) j≤W i j
 h2:∀ i j,W i (j+1)≤W i j
 h3:∀ i j,i<n→j<m→0<S i j→S i j+W (i+1) (j+1)≤W i j
 h0:∀ i j,i<n→j<m→0≤S i j
theorem reach_le {W S:Nat→Nat→Int} {n m:Nat} (w:SWOk W S n m):∀ i j,i≤n→j≤m→vT S i j+W i j≤W 0 0
 | 0,0,_,_=>by rw [vT_0];omega
 | 0,j+1,hi,hj=>by
  have:=reach_le w 0 j hi (by omega)
  have:=w.h2 0 j
  rw [vT_0] at *
  omega
 | i+1,0,hi,hj=>by
  have:=reach_le w i 0 (by omega) hj
  have:=w.h1 i 0
  rw [vT_1] at *
  omega
 | i+1,j+1,hi,hj=>by
  have a1:=reach_le w i (j+1) (by omega) hj
  have a2:=reach_le w (i+1) j hi (by omega)
  have a3:=reach_le w i j (by omega) (by omega)
  have b1:=w.h1 i (j+1)
  have b2:=w.h2 (i+1) j
  rw [vT_S]
  split
  ·rename_i hs
   have b3:=w.h3 i j (by omega) (by omega) hs
   omega
  ·omega
termination_by i j=>i+j
def rch (W S:Nat→Nat→Int) (i j:Nat):Prop:=vT S i j+W i j=W 0 0
def stp (W S:Nat→Nat→Int) (p q i j:Nat):Prop:=(i=p+1∧j=q∧W i j=W p q)∨(i=p∧j=q+1∧W i j=W p q)∨(i=p+1∧j=q+1∧0<S p q∧S p q+W i j=W p q)
def vis (n m i j p q:Nat):Prop:=p<n∧q<m∧(p<i∨p=i∧q<j)
theorem rch_step {W S:Nat→Nat→Int} {n m:Nat} (w:SWOk W S n m) {p q i j:Nat} (hp:p<n) (hq:q<m) (h:rch W S p q) (e:stp W S p q i j):rch W S i j:=by
 unfold rch at *
 rcases e with ⟨rfl,rfl,e⟩ | ⟨rfl,rfl,e⟩ | ⟨rfl,rfl,hs,e⟩
 ·have a:=reach_le w (p+1) j (by omega) (by omega)
  have b:vT S p j≤vT S (p+1) j:=by
   cases j with
   | zero=>rw [vT_1,vT_1];exact Int.le_refl _
   | succ j=>rw [vT_S];split <;> omega
  omega
 ·have a:=reach_le w i (q+1) (by omega) (by omega)
  have b:vT S i q≤vT S i (q+1):=by
   cases i with
   | zero=>rw [vT_0,vT_0];exact Int.le_refl _
   | succ i=>rw [vT_S];split <;> omega
  omega
 ·have a:=reach_le w (p+1) (q+1) (by omega) (by omega)
  have b:S p q+vT S p q≤vT S (p+1) (q+1):=by rw [vT_S,if_pos hs];omega
  omega
theorem rch_rec {W S:Nat→Nat→Int} {n m:Nat} (w:SWOk W S n m) {i j:Nat} (hi:i<n) (hj:j<m):rch W S i j ↔ (i=0∧j=0)∨∃ p q,vis n m i j p q∧rch W S p q∧stp W S p q i j:=by
 constructor
 ·intro h
  cases i with
  | zero =>
   cases j with
   | zero=>exact .inl ⟨rfl,rfl⟩
   | succ j =>
    refine .inr ⟨0,j,⟨hi,by omega,.inr ⟨rfl,by omega⟩⟩,?_⟩
    have a:=reach_le w 0 j (by omega) (by omega)
    have b:=w.h2 0 j
    unfold rch at *
    rw [vT_0] at *
    exact ⟨by omega,.inr (.inl ⟨rfl,rfl,by omega⟩)⟩
  | succ i =>
   cases j with
   | zero =>
    refine .inr ⟨i,0,⟨by omega,hj,.inl (by omega)⟩,?_⟩
    have a:=reach_le w i 0 (by omega) (by omega)
    have b:=w.h1 i 0
    unfold rch at *
    rw [vT_1] at *
    exact ⟨by omega,.inl ⟨rfl,rfl,by omega⟩⟩
   | succ j =>
    have a1:=reach_le w i (j+1) (by omega) (by omega)
    have a2:=reach_le w (i+1) j (by omega) (by omega)
    have a3:=reach_le w i j (by omega) (by omega)
    have b1:=w.h1 i (j+1)
    have b2:=w.h2 (i+1) j
    have up:vT S (i+1) (j+1)=vT S i (j+1)→(i+1=0∧j+1=0)∨∃ p q,vis n m (i+1) (j+1) p q∧rch W S p q∧stp W S p q (i+1) (j+1):=fun e=>by
     unfold rch at *
     exact .inr ⟨i,j+1,⟨by omega,hj,.inl (by omega)⟩,by omega,.inl ⟨rfl,rfl,by omega⟩⟩
    have lf:vT S (i+1) (j+1)=vT S (i+1) j→(i+1=0∧j+1=0)∨∃ p q,vis n m (i+1) (j+1) p q∧rch W S p q∧stp W S p q (i+1) (j+1):=fun e=>by
     unfold rch at *
     exact .inr ⟨i+1,j,⟨hi,by omega,.inr ⟨rfl,by omega⟩⟩,by omega,.inr (.inl ⟨rfl,rfl,by omega⟩)⟩
    by_cases hs:0<S i j
    ·have b3:=w.h3 i j (by omega) (by omega) hs
     by_cases e:vT S (i+1) (j+1)=S i j+vT S i j
     ·unfold rch at *
      exact .inr ⟨i,j,⟨by omega,by omega,.inl (by omega)⟩,by omega,.inr (.inr ⟨rfl,rfl,hs,by omega⟩)⟩
     ·by_cases e2:vT S (i+1) (j+1)=vT S i (j+1)
      ·exact up e2
      ·refine lf ?_
       rw [vT_S,if_pos hs] at *
       omega
    ·by_cases e2:vT S (i+1) (j+1)=vT S i (j+1)
     ·exact up e2
     ·refine lf ?_
      rw [vT_S,if_neg hs] at *
      omega
 ·rintro (⟨rfl,rfl⟩ | ⟨p,q,⟨hp,hq,_⟩,hr,he⟩)
  ·unfold rch;rw [vT_0];omega
  ·exact rch_step w hp hq hr he
def RInv (W S:Nat→Nat→Int) (n m i j:Nat) (R:Nat→Nat→Int):Prop:=∀ p q,0<R p q ↔ (p=0∧q=0)∨∃ p' q', vis n m i j p' q' ∧ rch W S p' q' ∧ stp W S p' q' p q
theorem upT_pos {R:Nat→Nat→Int} {i j p q:Nat}:0<upT R i j 1 p q ↔ 0<R p q∨(p=i∧q=j):=by
 unfold upT
 split
 ·rename_i h;exact ⟨fun _=>.inr h,fun _=>by decide⟩
 ·rename_i h;exact ⟨fun k=>.inl k,fun k=>k.resolve_right h⟩
theorem step_R {W Sh Wb:Nat→Nat→Int} {i j:Nat} {st:SS} {p q:Nat}:0<(sStep W Sh Wb i j st).R p q ↔ 0<st.R p q∨(0<st.R i j∧stp W Sh i j p q):=by
 have hD:∀ R:Nat→Nat→Int,0<sDown W i j R p q ↔ 0<R p q∨(p=i+1∧q=j∧W p q=W i j):=fun R=>by
  unfold sDown
  split
  ·rename_i h
   rw [upT_pos]
   constructor
   ·rintro (k | ⟨rfl,rfl⟩)
    ·exact .inl k
    ·exact .inr ⟨rfl,rfl,h⟩
   ·rintro (k | ⟨rfl,rfl,_⟩)
    ·exact .inl k
    ·exact .inr ⟨rfl,rfl⟩
  ·rename_i h
   constructor
   ·exact fun k=>.inl k
   ·rintro (k | ⟨rfl,rfl,e⟩)
    ·exact k
    ·exact absurd e h
 have hE:∀ R:Nat→Nat→Int,0<sRight W i j R p q ↔ 0<R p q∨(p=i∧q=j+1∧W p q=W i j):=fun R=>by
  unfold sRight
  split
  ·rename_i h
   rw [upT_pos]
   constructor
   ·rintro (k | ⟨rfl,rfl⟩)
    ·exact .inl k
    ·exact .inr ⟨rfl,rfl,h⟩
   ·rintro (k | ⟨rfl,rfl,_⟩)
    ·exact .inl k
    ·exact .inr ⟨rfl,rfl⟩
  ·rename_i h
   constructor
   ·exact fun k=>.inl k
   ·rintro (k | ⟨rfl,rfl,e⟩)
    ·exact k
    ·exact absurd e h
 unfold sStep stp
 split
 ·rename_i hR
  split
  ·rename_i hc
   dsimp only
   rw [upT_pos,hE,hD]
   constructor
   ·rintro (((k | k) | k) | ⟨rfl,rfl⟩)
    ·exact .inl k
    ·exact .inr ⟨hR,.inl k⟩
    ·exact .inr ⟨hR,.inr (.inl k)⟩
    ·exact .inr ⟨hR,.inr (.inr ⟨rfl,rfl,hc⟩)⟩
   ·rintro (k | ⟨_,k | k | ⟨rfl,rfl,_⟩⟩)
    ·exact .inl (.inl (.inl k))
    ·exact .inl (.inl (.inr k))
    ·exact .inl (.inr k)
    ·exact .inr ⟨rfl,rfl⟩
  ·rename_i hc
   dsimp only
   rw [hE,hD]
   constructor
   ·rintro ((k | k) | k)
    ·exact .inl k
    ·exact .inr ⟨hR,.inl k⟩
    ·exact .inr ⟨hR,.inr (.inl k)⟩
   ·rintro (k | ⟨_,k | k | ⟨rfl,rfl,k⟩⟩)
    ·exact .inl (.inl k)
    ·exact .inl (.inr k)
    ·exact .inr k
    ·exact absurd k hc
 ·rename_i hR
  constructor
  ·exact fun k=>.inl k
  ·rintro (k | ⟨k,_⟩)
   ·exact k
   ·exact absurd k hR
theorem RInv.step {W Sh Wb:Nat→Nat→Int} {n m i j:Nat} {st:SS} (w:SWOk W Sh n m) (hi:i<n) (hj:j<m) (h:RInv W Sh n m i j st.R):(0<st.R i j ↔ rch W Sh i j)∧RInv W Sh n m i (j+1) (sStep W Sh Wb i j st).R:=by
 have e:0<st.R i j ↔ rch W Sh i j:=by rw [h i j,rch_rec w hi hj]
 refine ⟨e,fun p q => ?_⟩
 rw [step_R,h p q,e]
 constructor
 ·rintro ((k | ⟨p', q', ⟨a,b,c⟩,d,f⟩) | ⟨a,b⟩)
  ·exact .inl k
  ·exact .inr ⟨p', q', ⟨a,b,by omega⟩,d,f⟩
  ·exact .inr ⟨i,j,⟨hi,hj,.inr ⟨rfl,by omega⟩⟩,a,b⟩
 ·rintro (k | ⟨p', q', ⟨a,b,c⟩,d,f⟩)
  ·exact .inl (.inl k)
  ·by_cases hc:p' = i∧q' = j
   ·obtain ⟨rfl,rfl⟩:=hc
    exact .inr ⟨d,f⟩
   ·exact .inl (.inr ⟨p', q', ⟨a,b,by omega⟩,d,f⟩)
theorem step_lists {W Sh Wb:Nat→Nat→Int} {n m i j:Nat} {st:SS} (w:SWOk W Sh n m) (hi:i<n) (hj:j<m) (h:0<st.R i j ↔ rch W Sh i j):((sStep W Sh Wb i j st).M,(sStep W Sh Wb i j st).S)=suStep W (vT Sh) Sh Wb i j (st.M,st.S):=by
 have a:=reach_le w i j (by omega) (by omega)
 have b:=w.h0 i j hi hj
 have c:=w.h3 i j hi hj
 unfold sStep suStep
 unfold rch at h
 by_cases hR:0<st.R i j
 ·rw [if_pos hR]
  have hr:=h.1 hR
  by_cases hc:0<Sh i j∧Sh i j+W (i+1) (j+1)=W i j
  ·rw [if_pos hc,if_neg (show ¬ (Sh i j=0∨vT Sh i j+Sh i j+W (i+1) (j+1)≠W 0 0) by omega)]
  ·rw [if_neg hc,if_pos]
   by_cases hs:Sh i j=0
   ·exact .inl hs
   ·exact .inr (by omega)
 ·rw [if_neg hR,if_pos]
  by_cases hs:Sh i j=0
  ·exact .inl hs
  ·refine .inr (fun e=>hR (h.2 ?_))
   have:=c (by omega)
   omega
theorem row_same {W Sh Wb:Nat→Nat→Int} {n m i:Nat} (w:SWOk W Sh n m) (hi:i<n):∀ (l:Nat) (st:SS),l≤m→RInv W Sh n m i (m - l) st.R→((sRow W Sh Wb m i l st).M,(sRow W Sh Wb m i l st).S)=suRow W (vT Sh) Sh Wb m i l (st.M,st.S)∧RInv W Sh n m i m (sRow W Sh Wb m i l st).R
 | 0,st,_,h=>⟨rfl,h⟩
 | l+1,st,hl,h=>by
  obtain ⟨h1,h2⟩:=h.step (Wb:=Wb) w hi (by omega)
  rw [show m - (l+1)+1=m - l by omega] at h2
  obtain ⟨h3,h4⟩:=row_same w hi l _ (by omega) h2
  refine ⟨?_,h4⟩
  show ((sRow W Sh Wb m i l _).M,(sRow W Sh Wb m i l _).S)=suRow W (vT Sh) Sh Wb m i l _
  rw [h3,step_lists w hi (by omega) h1]
theorem all_same {W Sh Wb:Nat→Nat→Int} {n m:Nat} (w:SWOk W Sh n m):∀ (k:Nat) (st:SS),k≤n→RInv W Sh n m (n - k) 0 st.R→((sAll W Sh Wb n m k st).M,(sAll W Sh Wb n m k st).S)=suAll W (vT Sh) Sh Wb n m k (st.M,st.S)
 | 0,st,_,_=>rfl
 | k+1,st,hk,h=>by
  obtain ⟨h1,h2⟩:=row_same (Wb:=Wb) w (i:=n - (k+1)) (by omega) m st (Nat.le_refl _) (by rw [Nat.sub_self];exact h)
  have h3:RInv W Sh n m (n - k) 0 (sRow W Sh Wb m (n - (k+1)) m st).R:=fun p q=>by
   rw [h2 p q]
   constructor
   ·rintro (e | ⟨p', q', ⟨a,b,c⟩,d⟩)
    ·exact .inl e
    ·exact .inr ⟨p', q', ⟨a,b,by omega⟩,d⟩
   ·rintro (e | ⟨p', q', ⟨a,b,c⟩,d⟩)
    ·exact .inl e
    ·exact .inr ⟨p', q', ⟨a,b,by omega⟩,d⟩
  have h4:=all_same (Wb:=Wb) w k _ (by omega) h3
  show ((sAll W Sh Wb n m k _).M,(sAll W Sh Wb n m k _).S)=suAll W (vT Sh) Sh Wb n m k _
  rw [h4,h1]
theorem start_R {W S:Nat→Nat→Int} {n m:Nat}:RInv W S n m 0 0 (upT zT 0 0 1):=fun p q=>by
 rw [upT_pos]
 constructor
 ·rintro (h | h)
  ·unfold zT at h;exact absurd h (by decide)
  ·exact .inl h
 ·rintro (h | ⟨p', q', ⟨_,_,h⟩,_⟩)
  ·exact .inr h
  ·omega
theorem wok_of {x y:El} {s:Int} (ha:shOk x.l) (hb:shOk y.l):SWOk (openT x y s) (shA x.l y.l s) x.l.length y.l.length where
 h1:=fun i j=>by rw [openT_eq,openT_eq];exact wT_down ha hb i j
 h2:=fun i j=>by rw [openT_eq,openT_eq];exact wT_right ha hb i j
 h3:=fun i j hi hj h=>by rw [openT_eq,openT_eq];exact wT_take ha hb hi hj h
 h0:=fun i j hi hj=>(shA_rng ha hb hi hj).1
def rSurely (x y:El) (s:Int):List (Int × Int) × List (Int × Int):=suAll (openT x y s) (vT (shA x.l y.l s)) (shA x.l y.l s) (wbT x.l y.l s) x.l.length y.l.length x.l.length ([],[])
theorem surely_same {x y:El} {s:Int} (ha:shOk x.l) (hb:shOk y.l):((surelyS x y s).M,(surelyS x y s).S)=rSurely x y s :=
 all_same (wok_of ha hb) _ _ (Nat.le_refl _) (by rw [Nat.sub_self];exact start_R)
end Go.Dr.T
