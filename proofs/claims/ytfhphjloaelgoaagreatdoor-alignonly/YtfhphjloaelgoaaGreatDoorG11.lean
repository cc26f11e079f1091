/- Chapter 06: what is sure, and what may be, by the best alignments. Plain. -/
import Derived.Test.YtfhphjloaelgoaaGreatDoorG7
import Derived.Test.YtfhphjloaelgoaaGreatDoorG10
import Derived.Test.YtfhphjloaelgoaaGreatDoorG5
namespace Go.Dr.T
structure Rec (S W:Nat→Nat→Int) (n m:Nat):Prop where
 e1:∀ i j,n≤i→W i j=0
 e2:∀ i j,m≤j→W i j=0
 cell:∀ i j,i<n→j<m→W i j=if 0<S i j then max (max (W (i+1) j) (W i (j+1))) (S i j+W (i+1) (j+1)) else max (W (i+1) j) (W i (j+1))
section
variable {S W:Nat→Nat→Int} {n m:Nat}
theorem Rec.nn (r:Rec S W n m):∀ (d i j:Nat),(n - i)+(m - j)=d→0≤W i j:=by
 intro d
 induction d using Nat.strongRecOn with
 | ind d ih =>
  intro i j hd
  by_cases hi:i<n
  ·by_cases hj:j<m
   ·have h1:=ih (n - (i+1)+(m - j)) (by omega) (i+1) j rfl
    have hc:=r.cell i j hi hj
    generalize W (i+1) j=A at *
    generalize W i (j+1)=B at *
    generalize W (i+1) (j+1)=C at *
    generalize W i j=D at *
    generalize S i j=E at *
    by_cases h:0<E
    ·rw [if_pos h] at hc;omega
    ·rw [if_neg h] at hc;omega
   ·rw [r.e2 i j (by omega)];exact Int.le_refl _
  ·rw [r.e1 i j (by omega)];exact Int.le_refl _
theorem Rec.down (r:Rec S W n m) (i j:Nat):W (i+1) j≤W i j∧W i (j+1)≤W i j∧(i<n→j<m→0<S i j→S i j+W (i+1) (j+1)≤W i j):=by
 by_cases hi:i<n
 ·by_cases hj:j<m
  ·have hc:=r.cell i j hi hj
   generalize W (i+1) j=A at *
   generalize W i (j+1)=B at *
   generalize W (i+1) (j+1)=C at *
   generalize W i j=D at *
   generalize S i j=E at *
   by_cases h:0<E
   ·rw [if_pos h] at hc;omega
   ·rw [if_neg h] at hc;omega
  ·rw [r.e2 (i+1) j (by omega),r.e2 i (j+1) (by omega),r.e2 i j (by omega)]
   exact ⟨Int.le_refl _,Int.le_refl _,fun _ h=>absurd h hj⟩
 ·rw [r.e1 (i+1) j (by omega),r.e1 i (j+1) (by omega),r.e1 i j (by omega)]
  exact ⟨Int.le_refl _,Int.le_refl _,fun h=>absurd h hi⟩
theorem Rec.mono (r:Rec S W n m) {i j i' j' : Nat} (hi:i≤i') (hj:j≤j'):W i' j' ≤ W i j:=by
 obtain ⟨a,rfl⟩:=Nat.le.dest hi
 obtain ⟨b,rfl⟩:=Nat.le.dest hj
 clear hi hj
 induction a with
 | zero =>
  induction b with
  | zero=>exact Int.le_refl _
  | succ b ih=>exact Int.le_trans (r.down i (j+b)).2.1 ih
 | succ a ih=>exact Int.le_trans (r.down (i+a) (j+b)).1 ih
theorem Rec.up (r:Rec S W n m):∀ {l:List (Nat × Nat)} {i j:Nat},Ch S n m i j l→wo S l≤W i j
 | [],i,j,_=>r.nn _ i j rfl
 | p :: l,i,j,⟨h1,h2,h3,h4,h5,c⟩=>by
  have i1:=r.up c
  have i2:=(r.down p.1 p.2).2.2 h2 h4 h5
  have i3:=r.mono h1 h3
  simp only [wo]
  omega
theorem Rec.ex (r:Rec S W n m):∀ (d i j:Nat),(n - i)+(m - j)=d→∃ l,Ch S n m i j l∧wo S l=W i j:=by
 intro d
 induction d using Nat.strongRecOn with
 | ind d ih =>
  intro i j hd
  by_cases hi:i<n
  ·by_cases hj:j<m
   ·have hc:=r.cell i j hi hj
    obtain ⟨l1,c1,e1⟩:=ih (n - (i+1)+(m - j)) (by omega) (i+1) j rfl
    obtain ⟨l2,c2,e2⟩:=ih (n - i+(m - (j+1))) (by omega) i (j+1) rfl
    obtain ⟨l3,c3,e3⟩:=ih (n - (i+1)+(m - (j+1))) (by omega) (i+1) (j+1) rfl
    by_cases hS:0<S i j
    ·rw [if_pos hS] at hc
     rcases max3 hc with q | q | q
     ·exact ⟨l1,c1.low (by omega) (by omega),e1.trans q.symm⟩
     ·exact ⟨l2,c2.low (by omega) (by omega),e2.trans q.symm⟩
     ·exact ⟨(i,j) :: l3,⟨Nat.le_refl _,hi,Nat.le_refl _,hj,hS,c3⟩,by rw [q, ← e3];rfl⟩
    ·rw [if_neg hS] at hc
     rcases max2 hc with q | q
     ·exact ⟨l1,c1.low (by omega) (by omega),e1.trans q.symm⟩
     ·exact ⟨l2,c2.low (by omega) (by omega),e2.trans q.symm⟩
   ·exact ⟨[],trivial,by rw [r.e2 i j (by omega)];rfl⟩
  ·exact ⟨[],trivial,by rw [r.e1 i j (by omega)];rfl⟩
theorem Ch.join {i j:Nat} {p:Nat × Nat} {l2:List (Nat × Nat)} (h1:p.1<n) (h2:p.2<m) (h3:0<S p.1 p.2) (c2:Ch S n m (p.1+1) (p.2+1) l2):∀ {l1:List (Nat × Nat)} {i j:Nat},i≤p.1→j≤p.2→Ch S p.1 p.2 i j l1→Ch S n m i j (l1++p :: l2)
 | [],_,_,hi,hj,_=>⟨hi,h1,hj,h2,h3,c2⟩
 | q :: l1,_,_,_,_,⟨a1,a2,a3,a4,a5,c⟩=>⟨a1,by omega,a3,by omega,a5,Ch.join (i:=i) (j:=j) h1 h2 h3 c2 (by omega) (by omega) c⟩
theorem Ch.part {p:Nat × Nat} {l2:List (Nat × Nat)}:∀ {l1:List (Nat × Nat)} {i j:Nat},Ch S n m i j (l1++p :: l2)→i≤p.1∧j≤p.2∧Ch S p.1 p.2 i j l1∧p.1<n∧p.2<m∧0<S p.1 p.2∧Ch S n m (p.1+1) (p.2+1) l2
 | [],_,_,⟨a1,a2,a3,a4,a5,c⟩=>⟨a1,a3,trivial,a2,a4,a5,c⟩
 | q :: l1,_,_,⟨a1,a2,a3,a4,a5,c⟩=>by
  obtain ⟨b1,b2,b3,b4,b5,b6,b7⟩:=Ch.part c
  exact ⟨by omega,by omega,⟨a1,by omega,a3,by omega,a5,b3⟩,b4,b5,b6,b7⟩
theorem wo_app:∀ {l1 l2:List (Nat × Nat)},wo S (l1++l2)=wo S l1+wo S l2
 | [],l2=>by simp [wo]
 | p :: l1,l2=>by simp only [List.cons_append,wo];rw [wo_app (l1:=l1)];omega
end
theorem vT_mono {S:Nat→Nat→Int} (i j:Nat):vT S i j≤vT S (i+1) j∧vT S i j≤vT S i (j+1):=by
 have nn:∀ (d i j:Nat),i+j=d→0≤vT S i j:=by
  intro d
  induction d using Nat.strongRecOn with
  | ind d ih =>
   intro i j hd
   cases i with
   | zero=>rw [vT_0];exact Int.le_refl _
   | succ i =>
    cases j with
    | zero=>rw [vT_1];exact Int.le_refl _
    | succ j =>
     have h1:=ih (i+(j+1)) (by omega) i (j+1) rfl
     have hc:=vT_S (S:=S) (i:=i) (j:=j)
     generalize vT S i (j+1)=A at *
     generalize vT S (i+1) j=B at *
     generalize vT S i j=C at *
     generalize vT S (i+1) (j+1)=D at *
     split at hc <;> omega
 constructor
 ·cases j with
  | zero=>rw [vT_1,vT_1];exact Int.le_refl _
  | succ j =>
   have hc:=vT_S (S:=S) (i:=i) (j:=j)
   generalize vT S i (j+1)=A at *
   generalize vT S (i+1) j=B at *
   generalize vT S i j=C at *
   generalize vT S (i+1) (j+1)=D at *
   split at hc <;> omega
 ·cases i with
  | zero=>rw [vT_0,vT_0];exact Int.le_refl _
  | succ i =>
   have hc:=vT_S (S:=S) (i:=i) (j:=j)
   generalize vT S i (j+1)=A at *
   generalize vT S (i+1) j=B at *
   generalize vT S i j=C at *
   generalize vT S (i+1) (j+1)=D at *
   split at hc <;> omega
theorem vT_le {S:Nat→Nat→Int} {i j i' j' : Nat} (hi:i≤i') (hj:j≤j'):vT S i j≤vT S i' j' := by
 obtain ⟨a,rfl⟩:=Nat.le.dest hi
 obtain ⟨b,rfl⟩:=Nat.le.dest hj
 clear hi hj
 induction a with
 | zero =>
  induction b with
  | zero=>exact Int.le_refl _
  | succ b ih=>exact Int.le_trans ih (vT_mono i (j+b)).2
 | succ a ih=>exact Int.le_trans ih (vT_mono (i+a) (j+b)).1
theorem vT_up {S:Nat→Nat→Int}:∀ (k:Nat) (l:List (Nat × Nat)) (i j:Nat),l.length=k→Ch S i j 0 0 l→wo S l≤vT S i j:=by
 intro k
 induction k with
 | zero =>
  intro l i j hk _
  rw [List.length_eq_zero_iff.1 hk]
  have:=vT_le (S:=S) (Nat.zero_le i) (Nat.zero_le j)
  rw [vT_0] at this
  exact this
 | succ k ih =>
  intro l i j hk c
  obtain ⟨l', p,rfl⟩:∃ l' p,l=l' ++ [p]:=⟨l.dropLast,l.getLast (by intro h;rw [h] at hk;simp at hk),(List.dropLast_concat_getLast _).symm⟩
  obtain ⟨_,_,c1,h1,h2,h3,_⟩:=c.part
  have i1:=ih l' p.1 p.2 (by simpa using hk) c1
  have hc:=vT_S (S:=S) (i:=p.1) (j:=p.2)
  have hm:=vT_le (S:=S) (show p.1+1≤i by omega) (show p.2+1≤j by omega)
  rw [wo_app]
  simp only [wo]
  rw [if_pos h3] at hc
  generalize vT S p.1 (p.2+1)=A at *
  generalize vT S (p.1+1) p.2=B at *
  generalize vT S p.1 p.2=C at *
  generalize vT S (p.1+1) (p.2+1)=D at *
  omega
theorem Ch.wide {S:Nat→Nat→Int} {n m n' m' : Nat} (hn:n≤n') (hm:m≤m'):∀ {l:List (Nat × Nat)} {i j:Nat},Ch S n m i j l→Ch S n' m' i j l
 | [],_,_,_=>trivial
 | _ :: _,_,_,⟨h1,h2,h3,h4,h5,c⟩=>⟨h1,by omega,h3,by omega,h5,c.wide hn hm⟩
theorem vT_ex {S:Nat→Nat→Int}:∀ (d i j:Nat),i+j=d→∃ l,Ch S i j 0 0 l∧wo S l=vT S i j:=by
 intro d
 induction d using Nat.strongRecOn with
 | ind d ih =>
  intro i j hd
  cases i with
  | zero=>exact ⟨[],trivial,by rw [vT_0];rfl⟩
  | succ i =>
   cases j with
   | zero=>exact ⟨[],trivial,by rw [vT_1];rfl⟩
   | succ j =>
    have hc:=vT_S (S:=S) (i:=i) (j:=j)
    obtain ⟨l1,c1,e1⟩:=ih (i+(j+1)) (by omega) i (j+1) rfl
    obtain ⟨l2,c2,e2⟩:=ih (i+1+j) (by omega) (i+1) j rfl
    obtain ⟨l3,c3,e3⟩:=ih (i+j) (by omega) i j rfl
    by_cases hS:0<S i j
    ·rw [if_pos hS] at hc
     rcases max3 hc with q | q | q
     ·exact ⟨l1,c1.wide (by omega) (by omega),e1.trans q.symm⟩
     ·exact ⟨l2,c2.wide (by omega) (by omega),e2.trans q.symm⟩
     ·exact ⟨l3++[(i,j)],Ch.join (p:=(i,j)) (i:=0) (j:=0) (Nat.lt_succ_self i) (Nat.lt_succ_self j) hS (l2:=[]) trivial (Nat.zero_le _) (Nat.zero_le _) c3,by rw [wo_app,q, ← e3];simp [wo];omega⟩
    ·rw [if_neg hS] at hc
     rcases max2 hc with q | q
     ·exact ⟨l1,c1.wide (by omega) (by omega),e1.trans q.symm⟩
     ·exact ⟨l2,c2.wide (by omega) (by omega),e2.trans q.symm⟩
theorem rec_T {x y:El} {s:Int} (ha:shOk x.l) (hb:shOk y.l):Rec (shA x.l y.l s) (openT x y s) x.l.length y.l.length :=
 ⟨fun i j h=>by rw [openT_eq];exact wT_end1 h,fun i j h=>by rw [openT_eq];exact wT_end2 h,fun i j hi hj=>by
  rw [openT_eq,openT_eq,openT_eq,openT_eq]
  exact wT_cell ha hb hi hj⟩
def offP (S:Nat→Nat→Int) (p:Nat × Nat) (i j:Nat):Int:=if i=p.1∧j=p.2 then 0 else S i j
theorem rec_off {a b:List (Int × Int)} {s:Int} {p:Nat × Nat}:Rec (offP (shA a b s) p) (wT a b s (p.1:Int) (p.2:Int)) a.length b.length :=
 ⟨fun i j h=>wT_end1 h,fun i j h=>wT_end2 h,fun i j hi hj=>by
  have e:shA a b s i j=shr s a[i] b[j]:=by
   unfold shA;rw [List.getD_eq_getElem?_getD,List.getElem?_eq_getElem hi,List.getD_eq_getElem?_getD,List.getElem?_eq_getElem hj];rfl
  rw [wT_step (List.getElem?_eq_getElem hi) (List.getElem?_eq_getElem hj)]
  unfold offP
  rw [e]
  by_cases hp:i=p.1∧j=p.2
  ·rw [if_neg (fun q=>q.2 ⟨by omega,by omega⟩),if_pos hp,if_neg (by decide)]
  ·rw [if_neg hp]
   by_cases h:0<shr s a[i] b[j]
   ·rw [if_pos ⟨h,fun q=>hp ⟨by omega,by omega⟩⟩,if_pos h]
   ·rw [if_neg (fun q=>h q.1),if_neg h]⟩
theorem off_ch {S:Nat→Nat→Int} {n m:Nat} {p:Nat × Nat}:∀ {l:List (Nat × Nat)} {i j:Nat},Ch (offP S p) n m i j l ↔ Ch S n m i j l∧p ∉ l
 | [],_,_=>⟨fun _=>⟨trivial,by simp⟩,fun _=>trivial⟩
 | q :: l,i,j=>by
  have ih:=off_ch (S:=S) (n:=n) (m:=m) (p:=p) (l:=l) (i:=q.1+1) (j:=q.2+1)
  simp only [Ch,ih,List.mem_cons,not_or]
  unfold offP
  by_cases h:q.1=p.1∧q.2=p.2
  ·rw [if_pos h]
   have e:p=q:=Prod.ext h.1.symm h.2.symm
   constructor
   ·rintro ⟨_,_,_,_,h5,_⟩;exact absurd h5 (by decide)
   ·rintro ⟨_,h6,_⟩;exact absurd e h6
  ·rw [if_neg h]
   have e:¬ p=q:=fun e=>h (by rw [e];exact ⟨rfl,rfl⟩)
   constructor
   ·rintro ⟨h1,h2,h3,h4,h5,h6,h7⟩;exact ⟨⟨h1,h2,h3,h4,h5,h6⟩,e,h7⟩
   ·rintro ⟨⟨h1,h2,h3,h4,h5,h6⟩,_,h7⟩;exact ⟨h1,h2,h3,h4,h5,h6,h7⟩
theorem off_wo {S:Nat→Nat→Int} {p:Nat × Nat}:∀ {l:List (Nat × Nat)},p ∉ l→wo (offP S p) l=wo S l
 | [],_=>rfl
 | q :: l,h=>by
  simp only [wo]
  rw [off_wo (fun k=>h (by simp [k]))]
  unfold offP
  rw [if_neg (fun e=>h (by rw [show p=q from Prod.ext e.1.symm e.2.symm];simp))]
section
variable {x y:El} {s:Int}
abbrev alsA (x y:El) (s:Int):List (List (Nat × Nat)):=als (shA x.l y.l s) (openT x y s) x.l.length y.l.length 0 0 []
theorem alsA_mem (ha:shOk x.l) (hb:shOk y.l) {l:List (Nat × Nat)}:l∈alsA x y s ↔ Ch (shA x.l y.l s) x.l.length y.l.length 0 0 l∧wo (shA x.l y.l s) l=openT x y s 0 0:=als_mem ha hb _ 0 0 l rfl (Nat.zero_le _) (Nat.zero_le _)
theorem may_iff (ha:shOk x.l) (hb:shOk y.l) {p:Nat × Nat} (h1:p.1<x.l.length) (h2:p.2<y.l.length):cM (openT x y s) (vT (shA x.l y.l s)) (shA x.l y.l s) p.1 p.2=true ↔ ∃ l∈alsA x y s,p∈l:=by
 have r:=rec_T (s:=s) ha hb
 have rng:=shA_rng (s:=s) ha hb h1 h2
 unfold cM
 rw [decide_eq_true_iff]
 constructor
 ·intro h
  have hS:0<shA x.l y.l s p.1 p.2:=by omega
  obtain ⟨l1,c1,e1⟩:=vT_ex (S:=shA x.l y.l s) _ p.1 p.2 rfl
  obtain ⟨l2,c2,e2⟩:=r.ex _ (p.1+1) (p.2+1) rfl
  refine ⟨l1++p :: l2,(alsA_mem ha hb).2 ⟨Ch.join (i:=0) (j:=0) h1 h2 hS c2 (Nat.zero_le _) (Nat.zero_le _) c1,?_⟩,by simp⟩
  rw [wo_app]
  simp only [wo]
  omega
 ·rintro ⟨l,hl,hp⟩
  obtain ⟨c,e⟩:=(alsA_mem ha hb).1 hl
  obtain ⟨l1,l2,rfl⟩:=List.append_of_mem hp
  obtain ⟨_,_,c1,_,_,hS,c2⟩:=c.part
  have i1:=vT_up _ l1 p.1 p.2 rfl c1
  have i2:=r.up c2
  rw [wo_app] at e
  simp only [wo] at e
  obtain ⟨l3,c3,e3⟩:=vT_ex (S:=shA x.l y.l s) _ p.1 p.2 rfl
  obtain ⟨l4,c4,e4⟩:=r.ex _ (p.1+1) (p.2+1) rfl
  have i5:=r.up (Ch.join (i:=0) (j:=0) h1 h2 hS c4 (Nat.zero_le _) (Nat.zero_le _) c3)
  rw [wo_app] at i5
  simp only [wo] at i5
  omega
theorem sure_iff (ha:shOk x.l) (hb:shOk y.l) {p:Nat × Nat}:wbT x.l y.l s p.1 p.2<openT x y s 0 0 ↔ ∀ l∈alsA x y s,p∈l:=by
 have r:=rec_off (a:=x.l) (b:=y.l) (s:=s) (p:=p)
 have hw:wbT x.l y.l s p.1 p.2=wT x.l y.l s (p.1:Int) (p.2:Int) 0 0:=rfl
 rw [hw]
 constructor
 ·intro h l hl
  by_cases hp:p∈l
  ·exact hp
  ·obtain ⟨c,e⟩:=(alsA_mem ha hb).1 hl
   have:=r.up (off_ch.2 ⟨c,hp⟩)
   rw [off_wo hp] at this
   omega
 ·intro h
  obtain ⟨l,c,e⟩:=r.ex _ 0 0 rfl
  obtain ⟨c', hp⟩:=off_ch.1 c
  rw [off_wo hp] at e
  have i1:=(rec_T (s:=s) ha hb).up c'
  by_cases q:wo (shA x.l y.l s) l=openT x y s 0 0
  ·exact absurd (h l ((alsA_mem ha hb).2 ⟨c', q⟩)) hp
  ·omega
end
theorem sorted_eq {α:Type} {R:α→α→Prop} (irr:∀ a,¬ R a a) (asy:∀ a b,R a b→¬ R b a):∀ {a b:List α},a.Pairwise R→b.Pairwise R→(∀ p,p∈a ↔ p∈b)→a=b
 | [],[],_,_,_=>rfl
 | [],y :: b,_,_,h=>absurd ((h y).2 (by simp)) (by simp)
 | x :: a,[],_,_,h=>absurd ((h x).1 (by simp)) (by simp)
 | x :: a,y :: b,ha,hb,h=>by
  obtain ⟨a1,a2⟩:=List.pairwise_cons.1 ha
  obtain ⟨b1,b2⟩:=List.pairwise_cons.1 hb
  have e:x=y:=by
   rcases List.mem_cons.1 ((h x).1 (by simp)) with e | e
   ·exact e
   ·rcases List.mem_cons.1 ((h y).2 (by simp)) with f | f
    ·exact f.symm
    ·exact absurd (b1 x e) (asy _ _ (a1 y f))
  subst e
  rw [sorted_eq irr asy a2 b2 fun p => ?_]
  constructor
  ·intro hp
   rcases List.mem_cons.1 ((h p).1 (by simp [hp])) with e | e
   ·subst e;exact absurd (a1 p hp) (irr p)
   ·exact e
  ·intro hp
   rcases List.mem_cons.1 ((h p).2 (by simp [hp])) with e | e
   ·subst e;exact absurd (b1 p hp) (irr p)
   ·exact e
def ltI (p q:Int × Int):Prop:=p.1<q.1∨p.1=q.1∧p.2<q.2
theorem grid_order {c:Nat→Nat→Bool} {n m:Nat}:(grid c n m).Pairwise ltI:=by
 unfold grid
 rw [List.pairwise_flatMap]
 refine ⟨fun i _ => ?_,?_⟩
 ·rw [List.pairwise_map]
  refine List.Pairwise.imp ?_ ((List.pairwise_lt_range' (s:=0) (n:=m)).filter _)
  intro a b h
  exact .inr ⟨rfl,by show (a:Int)<(b:Int);omega⟩
 ·refine List.Pairwise.imp ?_ (List.pairwise_lt_range' (s:=0) (n:=n))
  intro a b h p hp q hq
  obtain ⟨j,_,rfl⟩:=List.mem_map.1 hp
  obtain ⟨k,_,rfl⟩:=List.mem_map.1 hq
  exact .inl (by show (a:Int)<(b:Int);omega)
theorem ch_order {S:Nat→Nat→Int} {n m:Nat}:∀ {l:List (Nat × Nat)} {i j:Nat},Ch S n m i j l→(l.map pI).Pairwise ltI∧∀ p∈l,i≤p.1
 | [],_,_,_=>⟨List.Pairwise.nil,fun p h=>nomatch h⟩
 | q :: l,i,j,⟨h1,_,_,_,_,c⟩=>by
  obtain ⟨o1,o2⟩:=ch_order c
  refine ⟨?_,fun p hp => ?_⟩
  ·rw [List.map_cons,List.pairwise_cons]
   refine ⟨fun p hp => ?_,o1⟩
   obtain ⟨r,hr,rfl⟩:=List.mem_map.1 hp
   have:=o2 r hr
   exact .inl (by show (q.1:Int)<(r.1:Int);omega)
  ·rcases List.mem_cons.1 hp with e | e
   ·subst e;exact h1
   ·have:=o2 p e;omega
end Go.Dr.T
namespace Go.Dr.T
theorem cellAt_eq:∀ {l:List V} {n:Nat},cellAt l n=l[n]?
 | [],n=>by cases n <;> rfl
 | _ :: l,0=>rfl
 | _ :: l,n+1=>by simpa [cellAt] using cellAt_eq (l:=l) (n:=n)
end Go.Dr.T
namespace Go.Dr.T
set_option maxRecDepth 100000 in
set_option maxHeartbeats 20000000 in
theorem has_ok {c:Bool} {l:List (Int × Int)} {a b:Int} (hl:l.length≤1000000):Fun FB md 47 [.sl c l.length (shC l),.agg [.int .i64 a,.int .i64 b]] (.bool (decide ((a,b)∈l))):=by
 refine fun_of rfl rfl ?_
 repeat' (first
 | (conv=>whnf)
   first
   | refine Get.mk _ rfl ?_
   | (refine Req.mk ?_ ?_;(focus first | rfl | decide | exact ⟨rfl,rfl⟩ | exact ⟨rfl,by decide⟩ | exact (fun _=>rfl) | exact (fun h=>nomatch h) | (simp;done) | omega | (simp [big];done) | exact le_big (by omega) | exact lt_big (by omega))))
 refine LoopP.by (fun i:Nat=>i≤l.length∧((a,b)∈l ↔ (a,b)∈l.drop i)) (fun i=>[(5,.int .i64 (i:Nat))]) (fun _=>[.blk [.int .i64 a,.int .i64 b] false]) (fun i=>l.length - i) 0 ⟨Nat.zero_le _,Iff.rfl⟩ rfl ?_
 rintro i ⟨hi', he⟩
 dsimp only
 by_cases hi:i<l.length
 rotate_left
 ·have hres:((a,b)∈l)=False:=by rw [eq_iff_iff,he,show i=l.length by omega,List.drop_length];simp
  simp only [hres]
  repeat' (first
 | (conv=>whnf)
   first
   | (refine Br.decF ?_ ?_;(focus first | assumption | omega))
   | refine Get.mk _ rfl ?_
   | refine Leaves.of ?_
   | refine Vw.bool ?_)
  all_goals first | rfl | (exfalso;omega)
 obtain ⟨p,hp⟩:∃ p,l[i]?=some p:=⟨_,List.getElem?_eq_getElem hi⟩
 have hpp:=shC_part hp
 have hdr:l.drop i=p :: l.drop (i+1):=by
  obtain ⟨hi2,rfl⟩:=List.getElem?_eq_some_iff.1 hp
  exact List.drop_eq_getElem_cons hi2
 obtain ⟨u,v⟩:=p
 dsimp only at hpp
 by_cases hc:u=a∧v=b
 ·obtain ⟨rfl,rfl⟩:=hc
  have hres:((u,v)∈l)=True:=by rw [eq_iff_iff,he,hdr];simp
  simp only [hres]
  repeat' (first
 | (conv=>whnf)
   first
   | refine Br.t ?_
   | (refine Br.decT ?_ ?_;(focus first | assumption | omega))
   | refine Br.and ?_
   | refine Get.mk _ hpp ?_
   | (refine Idx.nat ?_ ?_;(focus omega))
   | refine Get.mk _ rfl ?_
   | refine Leaves.of ?_
   | refine Vw.bool ?_
   | (refine Req.mk ?_ ?_;(focus first | rfl | decide | exact ⟨rfl,rfl⟩ | exact ⟨rfl,by decide⟩ | exact (fun _=>rfl) | exact (fun h=>nomatch h) | (simp;done) | omega | (simp [big];done) | exact le_big (by omega) | exact lt_big (by omega))))
  all_goals first | rfl | (exfalso;omega)
 ·have hne:(a,b)≠(u,v):=fun e=>hc (by rw [Prod.mk.injEq] at e;exact ⟨e.1.symm,e.2.symm⟩)
  by_cases hu:u=a
  ·have hv:¬ v=b:=fun e=>hc ⟨hu,e⟩
   repeat' (first
 | (conv=>whnf)
   first
   | (refine Br.decT ?_ ?_;(focus first | assumption | omega))
   | (refine Br.decF ?_ ?_;(focus first | assumption | omega))
   | refine Br.and ?_
   | (refine Bnd.i64 ?_ ?_ ?_;(focus omega);(focus omega))
   | refine Get.mk _ hpp ?_
   | (refine Idx.nat ?_ ?_;(focus omega))
   | refine Get.mk _ rfl ?_
   | (refine Req.mk ?_ ?_;(focus first | rfl | decide | exact ⟨rfl,rfl⟩ | exact ⟨rfl,by decide⟩ | exact (fun _=>rfl) | exact (fun h=>nomatch h) | (simp;done) | omega | (simp [big];done) | exact le_big (by omega) | exact lt_big (by omega))))
   all_goals first | (exfalso;omega;done) | exact NextP.mk (i+1) ⟨hi,by rw [he,hdr];simp [hne]⟩ (by omega) rfl
  ·repeat' (first
 | (conv=>whnf)
   first
   | (refine Br.decT ?_ ?_;(focus first | assumption | omega))
   | (refine Br.decF ?_ ?_;(focus first | assumption | omega))
   | refine Br.and ?_
   | (refine Bnd.i64 ?_ ?_ ?_;(focus omega);(focus omega))
   | refine Get.mk _ hpp ?_
   | (refine Idx.nat ?_ ?_;(focus omega))
   | refine Get.mk _ rfl ?_
   | (refine Req.mk ?_ ?_;(focus first | rfl | decide | exact ⟨rfl,rfl⟩ | exact ⟨rfl,by decide⟩ | exact (fun _=>rfl) | exact (fun h=>nomatch h) | (simp;done) | omega | (simp [big];done) | exact le_big (by omega) | exact lt_big (by omega))))
   all_goals first | (exfalso;omega;done) | exact NextP.mk (i+1) ⟨hi,by rw [he,hdr];simp [hne]⟩ (by omega) rfl
end Go.Dr.T
namespace Go.Dr.T
set_option maxRecDepth 100000 in
set_option maxHeartbeats 20000000 in
theorem pairs_ok {c d:Bool} {l:List (Int × Int)} (hl:l.length≤1000000):Fun FB md 29 [.sl c l.length (shC l),.sl d l.length (shC l)] (.bool true):=by
 refine fun_of rfl rfl ?_
 repeat' (first
 | (conv=>whnf)
   first
   | (refine Br.decT ?_ ?_;(focus first | assumption | omega))
   | refine Br.not ?_)
 all_goals try (exfalso;omega;done)
 refine LoopP.by (fun i:Nat=>i≤l.length) (fun i=>[(5,.int .i64 (i:Nat))]) (fun _=>[]) (fun i=>l.length - i) 0 (Nat.zero_le _) rfl ?_
 rintro i hi'
 dsimp only
 by_cases hi:i<l.length
 rotate_left
 ·repeat' (first
 | (conv=>whnf)
   first
   | (refine Br.decF ?_ ?_;(focus first | assumption | omega))
   | refine Get.mk _ rfl ?_
   | refine Leaves.of ?_
   | refine Vw.bool ?_)
  all_goals first | rfl | (exfalso;omega)
 obtain ⟨p,hp⟩:∃ p,l[i]?=some p:=⟨_,List.getElem?_eq_getElem hi⟩
 have hpp:=shC_part hp
 repeat' (first
 | (conv=>whnf)
   first
   | refine Br.t ?_
   | (refine Br.decT ?_ ?_;(focus first | assumption | omega))
   | refine Br.not ?_
   | refine Br.and ?_
   | (refine Bnd.i64 ?_ ?_ ?_;(focus omega);(focus omega))
   | refine Get.mk _ hpp ?_
   | (refine Idx.nat ?_ ?_;(focus omega))
   | refine Get.mk _ rfl ?_
   | (refine Req.mk ?_ ?_;(focus first | rfl | decide | exact ⟨rfl,rfl⟩ | exact ⟨rfl,by decide⟩ | exact (fun _=>rfl) | exact (fun h=>nomatch h) | (simp;done) | omega | (simp [big];done) | exact le_big (by omega) | exact lt_big (by omega))))
 all_goals first | (exfalso;omega;done) | exact NextP.mk (i+1) hi (by omega) rfl
end Go.Dr.T
