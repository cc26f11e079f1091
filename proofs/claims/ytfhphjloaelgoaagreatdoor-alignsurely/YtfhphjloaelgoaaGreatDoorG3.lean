/- Chapter 06: heaps and lists of cells: what many texts want. -/
import Derived.Test.YtfhphjloaelgoaaGreatDoorG2
import Derived.Test.YtfhphjloaelgoaaGreatDoorDrG
namespace Go.Dr.T
theorem cellAt_eq:∀ {l:List V} {n:Nat},cellAt l n=l[n]?
 | [],n=>by cases n <;> rfl
 | _ :: l,0=>rfl
 | _ :: l,n+1=>by simpa [cellAt] using cellAt_eq (l:=l) (n:=n)
def outC (n m:Nat) (rid:Nat→Nat) (hv:Nat→Bool):List V:=(List.range (n+1)).map fun i=>if hv i=true then .ms 1 (rid i) ((m+1) * 1) 0 (m+1) true else .nilsl
theorem outC_len {n m:Nat} {rid:Nat→Nat} {hv:Nat→Bool}:(outC n m rid hv).length=n+1:=by simp [outC]
theorem over_one:∀ {l:List V} {i:Nat} {v:V},over l i [v]=l.set i v
 | [],i,v=>by cases i <;> rfl
 | _ :: l,0,v=>by cases l <;> rfl
 | _ :: l,i+1,v=>by simp only [over,List.set_cons_succ,over_one (l:=l)]
theorem outC_get {n m i:Nat} {rid:Nat→Nat} {hv:Nat→Bool} (h:i≤n) (hi:hv i=true):cellAt (outC n m rid hv) (0+i * 1)=some (.ms 1 (rid i) ((m+1) * 1) 0 (m+1) true):=by
 rw [Nat.zero_add,Nat.mul_one i,cellAt_eq]
 simp [outC,show i<n+1 by omega,hi]
theorem outC_set {n m i:Nat} {rid:Nat→Nat} {hv:Nat→Bool} (h:i≤n):over (outC n m rid hv) (0+i * 1) [.ms 1 (rid i) ((m+1) * 1) 0 (m+1) true]=outC n m rid (fun k=>decide (k=i) || hv k):=by
 unfold outC
 rw [Nat.zero_add,Nat.mul_one i,over_one]
 apply List.ext_getElem?
 intro k
 rw [List.getElem?_set]
 by_cases hk:i=k
 ·subst hk
  simp [show i<n+1 by omega]
 ·rw [if_neg hk]
  by_cases hk2:k<n+1
  ·simp [hk2,show ¬ k=i from fun e=>hk e.symm]
  ·rw [List.getElem?_eq_none (by simp;omega),List.getElem?_eq_none (by simp;omega)]
theorem outC_none {n m:Nat} {rid:Nat→Nat}:reps (n+1) [.nilsl]=outC n m rid (fun _=>false):=by
 have key:∀ k,reps k [V.nilsl]=List.replicate k .nilsl:=by
  intro k
  induction k with
  | zero=>rfl
  | succ k ih=>rw [reps,ih];rfl
 unfold outC
 rw [key]
 simp only [Bool.false_eq_true,if_false]
 rw [List.map_const']
 simp
theorem outC_ext {n m:Nat} {rid:Nat→Nat} {hv hv' : Nat→Bool} (h:∀ k,k≤n→hv k=hv' k):outC n m rid hv=outC n m rid hv' := by
 unfold outC
 apply List.map_congr_left
 intro k hk
 rw [h k (by simp at hk;omega)]
theorem blos_mem {k:Nat}:∀ {l:List V} {v:V},blos k l=true→v∈l→v.blo k=true
 | x :: l,v,h,hm=>by
  simp only [blos,Bool.and_eq_true] at h
  rcases List.mem_cons.1 hm with e | e
  ·subst e;exact h.1
  ·exact blos_mem h.2 e
theorem outC_blo {n m i k:Nat} {rid:Nat→Nat} {hv:Nat→Bool} (h:(B.blk (outC n m rid hv) false).blo k=true) (hi:i≤n) (hh:hv i=true):rid i<k:=by
 simp only [B.blo,Bool.false_or] at h
 have:=blos_mem (v:=.ms 1 (rid i) ((m+1) * 1) 0 (m+1) true) h (by unfold outC;exact List.mem_map.2 ⟨i,by simp;omega,by rw [if_pos hh]⟩)
 simpa [V.blo] using this
theorem blos_of:∀ {k:Nat} {l:List V},(∀ v∈l,v.blo k=true)→blos k l=true
 | k,[],_=>rfl
 | k,x :: l,h=>by simp only [blos,Bool.and_eq_true];exact ⟨h x (by simp),blos_of fun v hv=>h v (by simp [hv])⟩
theorem outC_ok {n m k:Nat} {rid:Nat→Nat} {hv:Nat→Bool} (h:∀ i,i≤n→hv i=true→rid i<k):(B.blk (outC n m rid hv) false).blo k=true:=by
 simp only [B.blo,Bool.false_or]
 refine blos_of fun v hv' => ?_
 unfold outC at hv'
 obtain ⟨i,hi,rfl⟩:=List.mem_map.1 hv'
 split
 ·rename_i hh
  simpa [V.blo] using h i (by simp at hi;omega) hh
 ·rfl
theorem norm_all {mk:List Bool} {n o r:Nat} {tm:List V} {h:List B} {b:B} (hr:h.length=r+1) (hn:n≤r) (ho:o<n) (hb:bget h o=some b) (hv:∀ k,b.blo k=true→r<k):norm mk n ⟨tm,h⟩=⟨masked mk tm,h⟩:=by
 unfold norm trunc
 dsimp only
 obtain ⟨d,hd⟩:∃ d,h.length - n=d+1:=⟨h.length - n - 1,by omega⟩
 rw [hd]
 unfold strip
 rw [show n+d=r by omega]
 have:hbelow r (h.take r)=false:=by
  cases hc:hbelow r (h.take r) with
  | false=>rfl
  | true =>
   have h1:bget (h.take r) o=some b:=by rw [bget_take (by omega)];exact hb
   have hm:b∈h.take r:=by
    have key:∀ {l:List B} {i:Nat} {b:B},bget l i=some b→b∈l:=by
     intro l
     induction l with
     | nil=>intro i b e;cases e
     | cons x l ih =>
      intro i b e
      cases i with
      | zero=>simp only [bget,Option.some.injEq] at e;subst e;simp
      | succ i=>exact List.mem_cons_of_mem _ (ih e)
    exact key h1
   exact absurd (hv r (blo_of_hbelow hc hm)) (Nat.lt_irrefl r)
 rw [this,Bool.and_false]
 rfl
theorem VwLF.ints {h:List B} {d:Nat}:∀ l:List Int,VwLF h (d+1) (ofInts l) (ofInts l)
 | []=>VwLF.nil
 | _ :: l=>VwLF.cons (VwF.int rfl) (VwLF.ints l)
theorem VwLF.map {h:List B} {d:Nat} {α:Type} {f g:α→V}:∀ {l:List α},(∀ x∈l,VwF h d (f x) (g x))→VwLF h d (l.map f) (l.map g)
 | [],_=>VwLF.nil
 | x :: l,h=>VwLF.cons (h x (by simp)) (VwLF.map fun y hy=>h y (by simp [hy]))
def hasc:Nat→List B→Prop
 | _,[]=>True
 | n,b :: l=>b.blo n=true∧hasc (n+1) l
theorem cl_asc:∀ {A H:List B},Cl H→hasc H.length A→Cl (H++A)
 | [],H,c,_=>by rw [List.append_nil];exact c
 | b :: A,H,c,h=>by
  have:=cl_asc (A:=A) (H:=H++[b]) (c.app h.1) (by rw [List.length_append];exact h.2)
  rwa [List.append_assoc] at this
theorem mem_bget:∀ {l:List B} {i:Nat} {b:B},bget l i=some b→b∈l
 | [],_,_,e=>nomatch e
 | x :: l,0,b,e=>by simp only [bget,Option.some.injEq] at e;subst e;simp
 | x :: l,i+1,b,e=>List.mem_cons_of_mem _ (mem_bget e)
theorem norm_with {m:List Bool} {n q r:Nat} {s:St} {b b' : B} (hn:n≤s.h.length) (c:Cl s.h) (hq:bget (norm m n s).h q=some b) (hv:∀ k,b.blo k=true→r<k) (hr:bget s.h r=some b'):bget (norm m n s).h r=some b' := by
 have c' := norm_cl (m:=m) hn c
 have hb:=blo_of_hbelow c' (mem_bget hq)
 have hlt:=hv _ hb
 have e:∃ j,(norm m n s).h=s.h.take j:=by
  obtain ⟨j,_,h2,_⟩:=strip_spec (n:=n) (tm:=masked m s.tm) (k:=s.h.length - n) (h:=s.h) (by omega)
  exact ⟨j,h2⟩
 obtain ⟨j,e⟩:=e
 rw [e] at hlt ⊢
 rw [List.length_take] at hlt
 rw [bget_take (by omega)]
 exact hr
end Go.Dr.T
namespace Go.Dr.T
def tb (f:Nat→Nat→Int):List Int:=(List.range 1681).map fun k=>f (k / 41) (k % 41)
def upT (f:Nat→Nat→Int) (i j:Nat) (v:Int):Nat→Nat→Int:=fun i' j' => if i' = i∧j' = j then v else f i' j'
theorem tb_len (f:Nat→Nat→Int):(tb f).length=1681:=by simp [tb]
theorem tb_get {f:Nat→Nat→Int} {i j:Nat} (hi:i<41) (hj:j<41):(tb f)[i * 41+j]?=some (f i j):=by
 have h1:(i * 41+j) / 41=i:=by omega
 have h2:(i * 41+j) % 41=j:=by omega
 have h3:i * 41+j<1681:=by omega
 simp [tb,h1,h2,h3]
theorem tb_set {f:Nat→Nat→Int} {i j:Nat} {v:Int} (hi:i<41) (hj:j<41):(tb f).set (i * 41+j) v=tb (upT f i j v):=by
 apply List.ext_getElem?
 intro k
 by_cases hk:k<1681
 ·rw [List.getElem?_set,tb_len]
  have e:∀ g:Nat→Nat→Int,(tb g)[k]?=some (g (k / 41) (k % 41)):=fun g=>by simp [tb,hk]
  rw [e,e]
  by_cases h:i * 41+j=k
  ·rw [if_pos h,if_pos (by omega)]
   have h1:k / 41=i:=by omega
   have h2:k % 41=j:=by omega
   simp [upT,h1,h2]
  ·rw [if_neg h]
   have:¬ (k / 41=i∧k % 41=j):=by omega
   simp [upT,this]
 ·rw [List.getElem?_eq_none (by simp [tb_len];omega),List.getElem?_eq_none (by simp [tb_len];omega)]
structure Sh where
 c:Bool
 l:List (Int × Int)
def Sh.v (a:Sh):V:=.sl a.c a.l.length (shC a.l)
@[irreducible] def pC (a b:Sh) (s:Int) (f:Nat→Nat→Int):List V:=a.v :: b.v :: .int .i64 s :: ofInts (tb f)
theorem pC_eq (a b:Sh) (s:Int) (f:Nat→Nat→Int):pC a b s f=a.v :: b.v :: .int .i64 s :: ofInts (tb f):=by unfold pC;rfl
section
variable {a b:Sh} {s:Int} {f:Nat→Nat→Int}
theorem pC_len:(pC a b s f).length=1684:=by rw [pC_eq];simp [ofInts,tb_len]
theorem pC_0:cellAt (pC a b s f) 0=some a.v:=by rw [pC_eq];rfl
theorem pC_1:cellAt (pC a b s f) 1=some b.v:=by rw [pC_eq];rfl
theorem pC_2:cellAt (pC a b s f) 2=some (.int .i64 s):=by rw [pC_eq];rfl
theorem pC_t {i j:Nat} (hi:i<41) (hj:j<41):cellAt (pC a b s f) (3+i * 41+j)=some (.int .i64 (f i j)):=by
 rw [pC_eq,show 3+i * 41+j=(i * 41+j)+1+1+1 by omega]
 simp only [cellAt]
 obtain ⟨y,h1,h2⟩:∃ y,(tb f)[i * 41+j]?=some y∧cellAt (ofInts (tb f)) (i * 41+j)=some (.int .i64 y):=by
  refine ⟨_,tb_get hi hj,?_⟩
  have key:∀ (l:List Int) (n:Nat) (y:Int),l[n]?=some y→cellAt (ofInts l) n=some (.int .i64 y):=by
   intro l
   induction l with
   | nil=>intro n y h;simp at h
   | cons x l ih =>
    intro n y h
    cases n with
    | zero=>simp at h;subst h;rfl
    | succ n=>exact ih n y (by simpa using h)
  exact key _ _ _ (tb_get hi hj)
 rw [tb_get hi hj] at h1
 cases h1;exact h2
theorem pC_st {i j:Nat} {v:Int} (hi:i<41) (hj:j<41):over (pC a b s f) (3+i * 41+j) [.int .i64 v]=pC a b s (upT f i j v):=by
 rw [pC_eq,pC_eq,show 3+i * 41+j=(i * 41+j)+1+1+1 by omega]
 have key:∀ (M:List Int) (n:Nat) (y:Int),over (ofInts M) n [.int .i64 y]=ofInts (M.set n y):=by
  intro M
  induction M with
  | nil=>intro n y;cases n <;> rfl
  | cons m M ih =>
   intro n y
   cases n with
   | zero=>cases M <;> rfl
   | succ n =>
    have:=ih n y
    simp only [ofInts,List.map_cons,List.set_cons_succ,over] at this ⊢
    rw [this]
 simp only [over]
 rw [key,tb_set hi hj]
end
abbrev pB (a b:Sh) (s:Int) (f:Nat→Nat→Int):B:=.blk (pC a b s f) false
def shr (s:Int) (x y:Int × Int):Int :=
 let n:=min x.2 y.2
 if s<max x.2 y.2 - n then 0 else if x.1=0∨y.1=0 then max (n / 2) 1 else if x.1≠y.1 then 0 else n
def shOk (l:List (Int × Int)):Prop:=l.length≤40∧∀ p∈l,0≤p.1∧p.1≤999∧1≤p.2∧p.2≤200000
theorem shr_case {s:Int} {m n m' n' : Int}:shr s (m,n) (m', n')=if s<max n n' - min n n' then 0 else if m=0∨m' = 0 then max (min n n' / 2) 1 else if m≠m' then 0 else min n n' := rfl
theorem mul_zero {m m' : Int}:m * m' = 0 ↔ m=0∨m' = 0:=Int.mul_eq_zero
set_option maxRecDepth 100000 in
set_option maxHeartbeats 20000000 in
theorem share_fun {a b:Sh} {s:Int} {f:Nat→Nat→Int} {i j:Nat} {x y:Int × Int} (ha:shOk a.l) (hb:shOk b.l) (hs:0≤s∧s≤200000) (hx:a.l[i]?=some x) (hy:b.l[j]?=some y) :
  Fun FB md 63 [.rp (pC a b s f) 0,.int .i64 (i:Nat),.int .i64 (j:Nat)] (.int .i64 (shr s x y)):=by
 have hil:=(List.getElem?_eq_some_iff.1 hx).1
 have hjl:=(List.getElem?_eq_some_iff.1 hy).1
 obtain ⟨a1,a2⟩:=ha
 obtain ⟨b1,b2⟩:=hb
 obtain ⟨x1,x2,x3,x4⟩:=a2 x (List.mem_of_getElem? hx)
 obtain ⟨y1,y2,y3,y4⟩:=b2 y (List.mem_of_getElem? hy)
 have hpx:=shC_part hx
 have hpy:=shC_part hy
 obtain ⟨m,n⟩:=x
 obtain ⟨m', n'⟩:=y
 dsimp only at *
 have hmm:0≤m * m' := Int.mul_nonneg x1 y1
 have hmM:m * m' ≤ 999 * 999:=Int.mul_le_mul x2 y2 y1 (by omega)
 have hz:=mul_zero (m:=m) (m' := m')
 have hw:IntKind.i64.wrap ((min n n').tdiv 2)=min n n' / 2:=by rw [Int.tdiv_eq_ediv_of_nonneg (by omega)];exact wrap_i64 (by omega) (by omega)
 refine fun_of rfl rfl ?_
 repeat' (first
 | (conv=>whnf)
   first
   | refine Br.dec (fun _ => ?_) (fun _ => ?_)
   | refine Br.not ?_
   | (refine Bnd.i64 ?_ ?_ ?_;(focus omega);(focus omega))
   | refine Get.mk _ pC_0 ?_
   | refine Get.mk _ pC_1 ?_
   | refine Get.mk _ pC_2 ?_
   | refine Get.mk _ hpx ?_
   | refine Get.mk _ hpy ?_
   | refine Bnd.any ?_
   | (refine Idx.nat ?_ ?_;(focus omega))
   | refine Get.mk _ rfl ?_
   | refine Leaves.of ?_
   | refine Vw.int ?_
   | (refine Req.mk ?_ ?_;(focus first | rfl | decide | exact ⟨rfl,rfl⟩ | exact ⟨rfl,by decide⟩ | exact (fun _=>rfl) | exact (fun h=>nomatch h) | (simp;done) | omega | (simp [big];done) | exact le_big (by omega) | exact lt_big (by omega))))
 all_goals rw [shr_case]
 all_goals first
  | (rw [if_pos (by omega)];done)
  | (rw [if_neg (by omega),if_pos (hz.1 (by assumption)),hw];done)
  | (rw [if_neg (by omega),if_neg (fun h=>absurd (hz.2 h) (by assumption)),if_pos (by assumption)];done)
  | (rw [if_neg (by omega),if_neg (fun h=>absurd (hz.2 h) (by assumption)),if_neg (by assumption)];done)
  | (rw [if_neg (by omega),if_neg (fun h=>absurd (hz.2 h) (by assumption)),if_neg (fun h=>by omega)];done)
theorem blos_int1 (n:Nat):∀ l:List Int,blos n (ofInts l)=true
 | []=>rfl
 | _ :: l=>by have:=blos_int1 n l;simp only [ofInts,List.map_cons,blos,V.blo,Bool.true_and] at this ⊢; exact this
theorem pB_blo {a b:Sh} {s:Int} {f:Nat→Nat→Int} (n:Nat):(pB a b s f).blo n=true:=by
 simp only [pB,B.blo,Bool.false_or]
 rw [pC_eq]
 simp only [blos,V.blo,Sh.v,blos_int1,Bool.and_self]
end Go.Dr.T
namespace Go.Dr.T
theorem ofInts_length (l:List Int):(ofInts l).length=l.length:=by simp [ofInts]
theorem ofInts_cell:∀ {l:List Int} {i:Nat},i<l.length→∃ x,l[i]?=some x∧cellAt (ofInts l) (i * 1)=some (.int .i64 x)
 | x :: l,0,_=>⟨x,rfl,rfl⟩
 | x :: l,i+1,h=>by
  obtain ⟨y,h1,h2⟩:=ofInts_cell (l:=l) (i:=i) (by simpa using h)
  exact ⟨y,by simpa using h1,by rw [show (i+1) * 1=i * 1+1 by omega];simpa [ofInts,cellAt] using h2⟩
def ixOf (m:Int):List Int→Int
 | [] => -1
 | x :: l=>if m=x then 0 else if ixOf m l<0 then -1 else ixOf m l+1
theorem ixOf_cases (m:Int):∀ l,(m∈l∧0≤ixOf m l∧ixOf m l<l.length)∨(m ∉ l∧ixOf m l = -1)
 | []=>.inr ⟨by simp,rfl⟩
 | x :: l=>by
  unfold ixOf
  by_cases h:m=x
  ·rw [if_pos h];exact .inl ⟨by simp [h],by omega,by simp only [List.length_cons];omega⟩
  ·rw [if_neg h]
   rcases ixOf_cases m l with ⟨h1,h2,h3⟩ | ⟨h1,h2⟩
   ·rw [if_neg (by omega)];exact .inl ⟨by simp [h1],by omega,by simp only [List.length_cons];omega⟩
   ·rw [if_pos (by omega)];exact .inr ⟨by simp [h,h1],rfl⟩
theorem ixOf_drop {m x:Int} {l:List Int} {i:Nat} (h:l[i]?=some x):ixOf m (l.drop i)=if m=x then 0 else if ixOf m (l.drop (i+1))<0 then -1 else ixOf m (l.drop (i+1))+1:=by
 obtain ⟨hi,rfl⟩:=List.getElem?_eq_some_iff.1 h
 rw [List.drop_eq_getElem_cons hi];rfl
set_option maxRecDepth 100000 in
set_option maxHeartbeats 20000000 in
theorem intsIndex_ok {c:Bool} {l:List Int} {m:Int} (hl:l.length≤140737488355328):Fun FB md 99 [.sl c l.length (ofInts l),.int .i64 m] (.int .i64 (ixOf m l)):=by
 refine fun_of rfl rfl ?_
 skip
 refine LoopP.by (fun i:Nat=>i≤l.length∧ixOf m l=if ixOf m (l.drop i)<0 then -1 else ixOf m (l.drop i)+i) (fun i=>[(8,.int .i64 (i:Nat))]) (fun _=>[]) (fun i=>l.length - i) 0 ⟨Nat.zero_le _,by rcases ixOf_cases m l with ⟨_,h,_⟩ | ⟨_,h⟩ <;> simp only [List.drop_zero,h] <;> first | rfl | (rw [if_neg (by omega)];simp)⟩ rfl ?_
 rintro i ⟨q1,q2⟩
 dsimp only
 by_cases hi:i<l.length
 rotate_left
 ·have hres:ixOf m l = -1:=by rw [q2,show i=l.length by omega,List.drop_length];rfl
  repeat' (first
 | (conv=>whnf)
   first
   | (refine Br.decF ?_ ?_;(focus first | assumption | omega))
   | refine Get.mk _ rfl ?_
   | refine Leaves.of ?_
   | refine Vw.int ?_)
  exact hres.symm
 obtain ⟨x,hx,hc⟩:=ofInts_cell hi
 have hq:=ixOf_drop (m:=m) hx
 by_cases he:m=x
 ·rw [if_pos he] at hq
  repeat' (first
 | (conv=>whnf)
   first
   | (refine Br.decT ?_ ?_;(focus first | assumption | omega))
   | refine Get.mk _ hc ?_
   | (refine Idx.nat ?_ ?_;(focus omega))
   | refine Get.mk _ rfl ?_
   | refine Leaves.of ?_
   | refine Vw.int ?_
   | (refine Req.mk ?_ ?_;(focus first | rfl | decide | exact ⟨rfl,rfl⟩ | exact ⟨rfl,by decide⟩ | exact (fun _=>rfl) | exact (fun h=>nomatch h) | (simp;done) | omega | (simp [big];done) | exact le_big (by omega) | exact lt_big (by omega))))
  rw [q2,hq];simp
 ·rw [if_neg he] at hq
  repeat' (first
 | (conv=>whnf)
   first
   | (refine Br.decT ?_ ?_;(focus first | assumption | omega))
   | (refine Br.decF ?_ ?_;(focus first | assumption | omega))
   | (refine Bnd.i64 ?_ ?_ ?_;(focus omega);(focus omega))
   | refine Get.mk _ hc ?_
   | (refine Idx.nat ?_ ?_;(focus omega))
   | (refine Req.mk ?_ ?_;(focus first | rfl | decide | exact ⟨rfl,rfl⟩ | exact ⟨rfl,by decide⟩ | exact (fun _=>rfl) | exact (fun h=>nomatch h) | (simp;done) | omega | (simp [big];done) | exact le_big (by omega) | exact lt_big (by omega))))
  refine NextP.mk (i+1) ⟨hi,?_⟩ (by omega) rfl
  rw [q2,hq]
  rcases ixOf_cases m (l.drop (i+1)) with ⟨_,h,_⟩ | ⟨_,h⟩
  ·rw [if_neg (show ¬ ixOf m (l.drop (i+1))<0 by omega),if_neg (by omega)];omega
  ·rw [h];rfl
abbrev hasB (m:Int) (l:List Int):Bool:=decide (m∈l)
set_option maxRecDepth 100000 in
theorem contains_ok {c:Bool} {l:List Int} {m:Int} (hl:l.length≤140737488355328):Fun FB md 68 [.sl c l.length (ofInts l),.int .i64 m] (.bool (hasB m l)):=by
 have h1:=intsIndex_ok (c:=c) (m:=m) hl
 refine fun_of rfl rfl ?_
 repeat' (first
 | (conv=>whnf)
   first
   | refine call_fun rfl rfl h1 (.inl rfl) ?_
   | refine Get.mk _ rfl ?_
   | refine Leaves.of ?_
   | refine Vw.bool ?_)
 rcases ixOf_cases m l with ⟨h,h2,h3⟩ | ⟨h,h2⟩
 ·simp [hasB,h,h2]
 ·simp [hasB,h,h2]
def nmE (nm:List UInt8) (l:List El):Bool:=l.any fun e=>e.nm == nm
abbrev xRp (x:El):V:=.rp [.str x.nm,.sl x.c x.l.length (shC x.l),.int .i64 x.g] 0
set_option maxRecDepth 100000 in
theorem sameName_ok {x y:El}:Fun FB md 96 [.agg y.v,xRp x] (.bool (y.nm == x.nm)):=by
 refine fun_of rfl rfl ?_
 repeat' (first
 | (conv=>whnf)
   first
   | refine Get.mk _ rfl ?_
   | refine Leaves.of ?_
   | refine Vw.bool ?_
   | (refine Req.mk ?_ ?_;(focus first | rfl | decide | exact ⟨rfl,rfl⟩ | exact ⟨rfl,by decide⟩ | exact (fun _=>rfl) | exact (fun h=>nomatch h) | (simp;done) | omega | (simp [big];done) | exact le_big (by omega) | exact lt_big (by omega))))
 rfl
def nixOf (nm:List UInt8):List El→Int
 | [] => -1
 | x :: l=>if x.nm=nm then 0 else if nixOf nm l<0 then -1 else nixOf nm l+1
theorem nixOf_cases (nm:List UInt8):∀ l:List El,(nmE nm l=true∧0≤nixOf nm l∧nixOf nm l<l.length)∨(nmE nm l=false∧nixOf nm l = -1)
 | []=>.inr ⟨rfl,rfl⟩
 | x :: l=>by
  unfold nixOf
  by_cases h:x.nm=nm
  ·rw [if_pos h];exact .inl ⟨by simp [nmE,h],by omega,by simp only [List.length_cons];omega⟩
  ·rw [if_neg h]
   rcases nixOf_cases nm l with ⟨h1,h2,h3⟩ | ⟨h1,h2⟩
   ·rw [if_neg (by omega)];exact .inl ⟨by simp only [nmE,List.any_cons] at h1 ⊢; rw [h1,Bool.or_true],by omega,by simp only [List.length_cons];omega⟩
   ·rw [if_pos (by omega)];exact .inr ⟨by simp only [nmE,List.any_cons] at h1 ⊢; rw [h1];simp [h],rfl⟩
theorem nixOf_drop {nm:List UInt8} {x:El} {l:List El} {i:Nat} (h:l[i]?=some x):nixOf nm (l.drop i)=if x.nm=nm then 0 else if nixOf nm (l.drop (i+1))<0 then -1 else nixOf nm (l.drop (i+1))+1:=by
 obtain ⟨hi,rfl⟩:=List.getElem?_eq_some_iff.1 h
 rw [List.drop_eq_getElem_cons hi];rfl
set_option maxRecDepth 100000 in
set_option maxHeartbeats 20000000 in
theorem nix_ok {c:Bool} {l:List El} {x:El} (hl:l.length≤140737488355328):Fun FB md 114 [elsV c l,.fn 96 [xRp x]] (.int .i64 (nixOf x.nm l)):=by
 refine fun_of rfl rfl ?_
 skip
 refine LoopP.by (fun i:Nat=>i≤l.length∧nixOf x.nm l=if nixOf x.nm (l.drop i)<0 then -1 else nixOf x.nm (l.drop i)+i) (fun i=>[(8,.int .i64 (i:Nat))]) (fun _=>[]) (fun i=>l.length - i) 0 ⟨Nat.zero_le _,by rcases nixOf_cases x.nm l with ⟨_,h,_⟩ | ⟨_,h⟩ <;> simp only [List.drop_zero,h] <;> first | rfl | (rw [if_neg (by omega)];simp)⟩ rfl ?_
 rintro i ⟨q1,q2⟩
 dsimp only
 by_cases hi:i<l.length
 rotate_left
 ·have hres:nixOf x.nm l = -1:=by rw [q2,show i=l.length by omega,List.drop_length];rfl
  repeat' (first
 | (conv=>whnf)
   first
   | (refine Br.decF ?_ ?_;(focus first | assumption | omega))
   | refine Get.mk _ rfl ?_
   | refine Leaves.of ?_
   | refine Vw.int ?_)
  exact hres.symm
 obtain ⟨y,hy⟩:∃ p,l[i]?=some p:=⟨_,List.getElem?_eq_getElem hi⟩
 have hpart:=elC_part hy
 have hf:=sameName_ok (x:=x) (y:=y)
 have hq:=nixOf_drop (nm:=x.nm) hy
 by_cases he:y.nm=x.nm
 ·rw [if_pos he] at hq
  rw [show (y.nm == x.nm)=true by simp [he]] at hf
  repeat' (first
 | (conv=>whnf)
   first
   | refine Br.t ?_
   | (refine Br.decT ?_ ?_;(focus first | assumption | omega))
   | refine Get.mk _ hpart ?_
   | refine call_fun rfl rfl hf (.inl rfl) ?_
   | (refine Idx.nat ?_ ?_;(focus omega))
   | refine Get.mk _ rfl ?_
   | refine Leaves.of ?_
   | refine Vw.int ?_
   | (refine Req.mk ?_ ?_;(focus first | rfl | decide | exact ⟨rfl,rfl⟩ | exact ⟨rfl,by decide⟩ | exact (fun _=>rfl) | exact (fun h=>nomatch h) | (simp;done) | omega | (simp [big];done) | exact le_big (by omega) | exact lt_big (by omega))))
  rw [q2,hq];simp
 ·rw [if_neg he] at hq
  rw [show (y.nm == x.nm)=false by simp [he]] at hf
  repeat' (first
 | (conv=>whnf)
   first
   | refine Br.f ?_
   | (refine Br.decT ?_ ?_;(focus first | assumption | omega))
   | (refine Bnd.i64 ?_ ?_ ?_;(focus omega);(focus omega))
   | refine Get.mk _ hpart ?_
   | refine call_fun rfl rfl hf (.inl rfl) ?_
   | (refine Idx.nat ?_ ?_;(focus omega))
   | (refine Req.mk ?_ ?_;(focus first | rfl | decide | exact ⟨rfl,rfl⟩ | exact ⟨rfl,by decide⟩ | exact (fun _=>rfl) | exact (fun h=>nomatch h) | (simp;done) | omega | (simp [big];done) | exact le_big (by omega) | exact lt_big (by omega))))
  refine NextP.mk (i+1) ⟨hi,?_⟩ (by omega) rfl
  rw [q2,hq]
  rcases nixOf_cases x.nm (l.drop (i+1)) with ⟨_,h,_⟩ | ⟨_,h⟩
  ·rw [if_neg (show ¬ nixOf x.nm (l.drop (i+1))<0 by omega),if_neg (by omega)];omega
  ·rw [h];rfl
set_option maxRecDepth 100000 in
theorem hasName_ok {c:Bool} {l:List El} {x:El} (hl:l.length≤140737488355328):Fun FB md 95 [elsV c l,.fn 96 [xRp x]] (.bool (nmE x.nm l)):=by
 have h1:=nix_ok (c:=c) (x:=x) hl
 refine fun_of rfl rfl ?_
 repeat' (first
 | (conv=>whnf)
   first
   | refine call_fun rfl rfl h1 (.inl rfl) ?_
   | refine Get.mk _ rfl ?_
   | refine Leaves.of ?_
   | refine Vw.bool ?_)
 rcases nixOf_cases x.nm l with ⟨h,h2,h3⟩ | ⟨h,h2⟩
 ·simp [h,h2]
 ·simp [h,h2]
end Go.Dr.T
