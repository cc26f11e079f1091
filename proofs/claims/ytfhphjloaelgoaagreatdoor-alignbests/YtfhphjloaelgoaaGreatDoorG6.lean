/- Chapter 06: Best: its table of counts. -/
import Derived.Test.YtfhphjloaelgoaaGreatDoorG5
import Derived.Test.YtfhphjloaelgoaaGreatDoorDrJ
namespace Go.Dr.T
def zC:List V:=List.replicate 1681 (.int .i64 0)
def c21z:Fc:=⟨87,3,[.tmp 6,.tmp 7,.tmp 8],.seq (.reg false 2 [⟨some 3,none,0,.bx 0 (.t 0)⟩,⟨some 4,none,0,.bx 1 (.t 1)⟩,⟨some 6,none,0,.mv (.c (.int .i64 0))⟩,⟨some 7,none,4,.mv (.c (.int .i64 0))⟩,⟨some 8,none,12,.mv (.c (.int .i64 0))⟩]) (.seq (.reg false 0 [⟨some 15,none,0,.ld true 3 (.t 3)⟩,⟨some 16,none,0,.ld true 3 (.t 4)⟩,⟨some 17,none,0,.mv (.t 2)⟩,⟨some 18,none,7,.call (.c (.fn 53 [])) [.t 15,.t 16,.t 17]⟩,⟨some 14,none,15,.mv (.t 18)⟩,⟨some 19,none,31,.ex (.t 14) 0⟩,⟨some 20,none,31,.ex (.t 14) 1⟩,⟨some 9,none,63,.mv (.t 19)⟩,⟨some 8,none,255,.mv (.t 20)⟩]) (.seq (.seq (.reg false 0 [⟨some 21,none,0,.mv (.t 8)⟩,⟨some 22,none,1,.bo .neq (.t 21) (.c (.int .i64 0))⟩]) (.cond (.t 22) (.seq (.reg false 0 [⟨some 23,none,0,.mv (.t 8)⟩,⟨some 6,none,0,.mv (.c (.int .i64 0))⟩,⟨some 7,none,2,.mv (.c (.int .i64 0))⟩,⟨some 8,none,7,.mv (.t 23)⟩]) .ret) .skip)) (.seq (.reg false 1 [⟨some 10,none,0,.al 0 zC⟩]) (.seq (.seq (.reg false 1 [⟨some 24,none,0,.fa 1 (.t 3)⟩,⟨some 25,none,1,.ld false 1 (.t 24)⟩,⟨some 26,none,3,.len false (.t 25)⟩,⟨some 11,none,0,.al 0 [.int .i64 0]⟩,⟨none,none,15,.st 1 (.t 11) (.t 26)⟩]) (.block 0 (.loop (.seq (.seq (.reg false 0 [⟨some 27,none,0,.ld false 1 (.t 11)⟩,⟨some 28,none,1,.bo .geq (.t 27) (.c (.int .i64 0))⟩]) (.cond (.t 28) .skip (.exit 0))) (.seq (.block 1 (.seq (.reg false 1 [⟨some 31,none,0,.fa 1 (.t 4)⟩,⟨some 32,none,1,.ld false 1 (.t 31)⟩,⟨some 33,none,3,.len false (.t 32)⟩,⟨some 12,none,0,.al 0 [.int .i64 0]⟩,⟨none,none,15,.st 1 (.t 12) (.t 33)⟩]) (.block 2 (.loop (.seq (.seq (.reg false 0 [⟨some 34,none,0,.ld false 1 (.t 12)⟩,⟨some 35,none,1,.bo .geq (.t 34) (.c (.int .i64 0))⟩]) (.cond (.t 35) .skip (.exit 2))) (.seq (.block 3 (.seq (.seq (.reg true 0 [⟨some 38,none,0,.mv (.t 9)⟩,⟨some 39,none,0,.ld false 1 (.t 11)⟩,⟨some 40,none,0,.ld false 1 (.t 12)⟩,⟨some 41,none,1,.nc (.t 38)⟩,⟨some 42,none,9,.fa 3 (.t 41)⟩,⟨some 43,none,27,.iaa 41 41 (.t 42) (.t 39)⟩,⟨some 44,none,63,.iaa 1 41 (.t 43) (.t 40)⟩,⟨some 45,none,127,.ld false 1 (.t 44)⟩,⟨some 46,none,255,.bo .eql (.t 45) (.c (.int .i64 0))⟩]) (.cond (.t 46) (.seq (.reg true 0 [⟨some 47,none,0,.ld false 1 (.t 11)⟩,⟨some 48,none,0,.ld false 1 (.t 12)⟩,⟨some 49,none,1,.iaa 41 41 (.t 10) (.t 47)⟩,⟨some 50,none,7,.iaa 1 41 (.t 49) (.t 48)⟩,⟨none,none,15,.st 1 (.t 50) (.c (.int .i64 1))⟩]) (.exit 3)) .skip)) (.seq (.reg false 0 [⟨some 51,none,0,.mv (.t 9)⟩,⟨some 52,none,0,.ld false 1 (.t 11)⟩,⟨some 53,none,0,.ld false 1 (.t 12)⟩,⟨some 54,none,7,.call (.c (.fn 54 [])) [.t 51,.t 52,.t 53]⟩]) (.block 4 (.rf (.t 54) [55] (.reg false 1 [⟨some 13,none,0,.al 0 [.int .i64 0,.int .i64 0]⟩,⟨none,none,1,.st 2 (.t 13) (.t 55)⟩]) (.block 5 (.reg true 0 [⟨some 56,none,0,.ld false 1 (.t 11)⟩,⟨some 57,none,0,.ld false 1 (.t 12)⟩,⟨some 58,none,0,.ld false 1 (.t 11)⟩,⟨some 59,none,0,.ld false 1 (.t 12)⟩,⟨some 60,none,4,.iaa 41 41 (.t 10) (.t 58)⟩,⟨some 61,none,28,.iaa 1 41 (.t 60) (.t 59)⟩,⟨some 62,none,60,.ld false 1 (.t 61)⟩,⟨some 63,none,0,.fa 0 (.t 13)⟩,⟨some 64,none,128,.ld false 1 (.t 63)⟩,⟨some 65,none,384,.bo .add (.t 64) (.c (.int .i64 1))⟩,⟨some 66,none,0,.fa 1 (.t 13)⟩,⟨some 67,none,1024,.ld false 1 (.t 66)⟩,⟨some 68,none,3072,.bo .add (.t 67) (.c (.int .i64 1))⟩,⟨some 69,none,896,.iaa 41 41 (.t 10) (.t 65)⟩,⟨some 70,none,16256,.iaa 1 41 (.t 69) (.t 68)⟩,⟨some 71,none,32640,.ld false 1 (.t 70)⟩,⟨some 72,none,65532,.bo .add (.t 62) (.t 71)⟩,⟨some 73,none,131068,.mm false [.c (.int .i64 1000000),.t 72]⟩,⟨some 74,none,1,.iaa 41 41 (.t 10) (.t 56)⟩,⟨some 75,none,524287,.iaa 1 41 (.t 74) (.t 57)⟩,⟨none,none,1048575,.st 1 (.t 75) (.t 73)⟩]))))))) (.seq (.seq (.reg false 0 [⟨some 76,none,0,.ld false 1 (.t 12)⟩]) (.reg false 1 [⟨some 12,none,0,.al 0 [.int .i64 0]⟩,⟨none,none,1,.st 1 (.t 12) (.t 76)⟩])) (.reg false 0 [⟨some 36,none,0,.ld false 1 (.t 12)⟩,⟨some 37,none,1,.bo .sub (.t 36) (.c (.int .i64 1))⟩,⟨none,none,3,.st 1 (.t 12) (.t 37)⟩])))))))) (.seq (.seq (.reg false 0 [⟨some 77,none,0,.ld false 1 (.t 11)⟩]) (.reg false 1 [⟨some 11,none,0,.al 0 [.int .i64 0]⟩,⟨none,none,1,.st 1 (.t 11) (.t 77)⟩])) (.reg false 0 [⟨some 29,none,0,.ld false 1 (.t 11)⟩,⟨some 30,none,1,.bo .sub (.t 29) (.c (.int .i64 1))⟩,⟨none,none,3,.st 1 (.t 11) (.t 30)⟩]))))))) (.seq (.reg true 0 [⟨some 78,none,0,.mv (.t 9)⟩,⟨some 79,none,1,.nc (.t 78)⟩,⟨some 80,none,3,.fa 3 (.t 79)⟩,⟨some 81,none,7,.iaa 41 41 (.t 80) (.c (.int .i64 0))⟩,⟨some 82,none,15,.iaa 1 41 (.t 81) (.c (.int .i64 0))⟩,⟨some 83,none,31,.ld false 1 (.t 82)⟩,⟨some 84,none,0,.iaa 41 41 (.t 10) (.c (.int .i64 0))⟩,⟨some 85,none,64,.iaa 1 41 (.t 84) (.c (.int .i64 0))⟩,⟨some 86,none,192,.ld false 1 (.t 85)⟩,⟨some 6,none,63,.mv (.t 83)⟩,⟨some 7,none,1023,.mv (.t 86)⟩,⟨some 8,none,2047,.mv (.c (.int .i64 0))⟩]) .ret))))),none⟩
theorem c21_eq:FB 21=some c21z:=rfl
theorem cells_ints:∀ {l:List Int} {n:Nat},n<l.length→∃ y,l[n]?=some y∧cellAt (ofInts l) n=some (.int .i64 y)
 | x :: l,0,_=>⟨x,rfl,rfl⟩
 | x :: l,n+1,h=>by
  obtain ⟨y,h1,h2⟩:=cells_ints (l:=l) (n:=n) (by simpa using h)
  exact ⟨y,by simpa using h1,by simpa [ofInts,cellAt] using h2⟩
theorem over_ints:∀ {M:List Int} {i:Nat} {y:Int},over (ofInts M) i [.int .i64 y]=ofInts (M.set i y)
 | [],i,y=>by cases i <;> rfl
 | m :: M,0,y=>by cases M <;> rfl
 | m :: M,i+1,y=>by
  have:=over_ints (M:=M) (i:=i) (y:=y)
  simp only [ofInts,List.map_cons,List.set_cons_succ,over] at this ⊢
  rw [this]
@[irreducible] def tC (f:Nat→Nat→Int):List V:=ofInts (tb f)
theorem tC_eq (f:Nat→Nat→Int):tC f=ofInts (tb f):=by unfold tC;rfl
theorem zC_eq:zC=tC zT:=by rw [tC_eq,tb_zero];rfl
theorem zC_len:zC.length=1681:=List.length_replicate
attribute [irreducible] zC
theorem tC_len {f:Nat→Nat→Int}:(tC f).length=1681:=by rw [tC_eq];simp [ofInts,tb_len]
theorem tC_get {f:Nat→Nat→Int} {i j:Nat} (hi:i<41) (hj:j<41):cellAt (tC f) (0+i * 41+j * 1)=some (.int .i64 (f i j)):=by
 rw [tC_eq,show 0+i * 41+j * 1=i * 41+j by omega]
 obtain ⟨y,h1,h2⟩:=cells_ints (l:=tb f) (n:=i * 41+j) (by rw [tb_len];omega)
 rw [tb_get hi hj] at h1
 cases h1;exact h2
theorem tC_set {f:Nat→Nat→Int} {i j:Nat} {v:Int} (hi:i<41) (hj:j<41):over (tC f) (0+i * 41+j * 1) [.int .i64 v]=tC (upT f i j v):=by
 rw [tC_eq,tC_eq,show 0+i * 41+j * 1=i * 41+j by omega,over_ints,tb_set hi hj]
theorem tC_blo {f:Nat→Nat→Int} (n:Nat):blos n (tC f)=true:=by rw [tC_eq];exact blos_int1 _ _
theorem tC_blk {T:Nat→Nat→Int} {n:Nat}:(B.blk (tC T) false).blo n=true:=tC_blo n
end Go.Dr.T
namespace Go.Dr.T
def rowC (m:Nat) (f:Nat→Int):List V:=ofInts ((List.range (m+1)).map f)
def up1 (f:Nat→Int) (j:Nat) (v:Int):Nat→Int:=fun k=>if k=j then v else f k
theorem rowC_len {m:Nat} {f:Nat→Int}:(rowC m f).length=m+1:=by simp [rowC,ofInts]
theorem rowC_get {m j:Nat} {f:Nat→Int} (h:j≤m):cellAt (rowC m f) (0+j * 1)=some (.int .i64 (f j)):=by
 rw [Nat.zero_add,Nat.mul_one]
 obtain ⟨y,h1,h2⟩:=cells_ints (l:=(List.range (m+1)).map f) (n:=j) (by simp;omega)
 have:((List.range (m+1)).map f)[j]?=some (f j):=by simp [show j<m+1 by omega]
 rw [this] at h1
 cases h1
 exact h2
theorem rowC_set {m j:Nat} {f:Nat→Int} {v:Int} (h:j≤m):over (rowC m f) (0+j * 1) [.int .i64 v]=rowC m (up1 f j v):=by
 unfold rowC
 rw [Nat.zero_add,Nat.mul_one,over_ints]
 congr 1
 apply List.ext_getElem?
 intro k
 rw [List.getElem?_set]
 by_cases hk:j=k
 ·subst hk
  simp [up1,show j<m+1 by omega]
 ·rw [if_neg hk]
  by_cases hk2:k<m+1
  ·simp [hk2,up1,show ¬ k=j from fun e=>hk e.symm]
  ·rw [List.getElem?_eq_none (by simp;omega),List.getElem?_eq_none (by simp;omega)]
theorem rowC_zero {m:Nat}:reps (m+1) [.int .i64 0]=rowC m (fun _=>0):=by
 have key:∀ k,reps k [V.int .i64 0]=ofInts (List.replicate k 0):=by
  intro k
  induction k with
  | zero=>rfl
  | succ k ih=>rw [reps,ih];rfl
 unfold rowC
 rw [key]
 congr 1
 rw [List.map_const']
 simp
theorem rowC_blo {m n:Nat} {f:Nat→Int}:(B.blk (rowC m f) true).blo n=true:=rfl
def outC (n m:Nat) (rid:Nat→Nat) (hv:Nat→Bool):List V:=(List.range (n+1)).map fun i=>if hv i=true then .ms 1 (rid i) ((m+1) * 1) 0 (m+1) true else .nilsl
theorem outC_len {n m:Nat} {rid:Nat→Nat} {hv:Nat→Bool}:(outC n m rid hv).length=n+1:=by simp [outC]
theorem cellAt_eq:∀ {l:List V} {n:Nat},cellAt l n=l[n]?
 | [],n=>by cases n <;> rfl
 | _ :: l,0=>rfl
 | _ :: l,n+1=>by simpa [cellAt] using cellAt_eq (l:=l) (n:=n)
theorem over_one:∀ {l:List V} {i:Nat} {v:V},over l i [v]=l.set i v
 | [],i,v=>by cases i <;> rfl
 | _ :: l,0,v=>by cases l <;> rfl
 | _ :: l,i+1,v=>by simp only [over,List.set_cons_succ,over_one (l:=l)]
theorem outC_get {n m i:Nat} {rid:Nat→Nat} {hv:Nat→Bool} (h:i≤n) (hi:hv i=true):cellAt (outC n m rid hv) (0+i * 1)=some (.ms 1 (rid i) ((m+1) * 1) 0 (m+1) true):=by
 rw [Nat.zero_add,Nat.mul_one i,cellAt_eq]
 simp [outC,show i<n+1 by omega,hi]
theorem outC_set {n m i:Nat} {rid:Nat→Nat} {hv:Nat→Bool} (h:i≤n):over (outC n m rid hv) (0+i * 1) [.ms 1 (rid i) ((m+1) * 1) 0 (m+1) true]=outC n m rid (fun k=>decide (k=i) || hv k):=by
 unfold outC
 rw [Nat.zero_add,Nat.mul_one i,over_one]
 apply List.ext_getElem?
 intro k
 rw [List.getElem?_set]
 by_cases hk:i=k
 ·subst hk
  simp [show i<n+1 by omega]
 ·rw [if_neg hk]
  by_cases hk2:k<n+1
  ·simp [hk2,show ¬ k=i from fun e=>hk e.symm]
  ·rw [List.getElem?_eq_none (by simp;omega),List.getElem?_eq_none (by simp;omega)]
theorem outC_none {n m:Nat} {rid:Nat→Nat}:reps (n+1) [.nilsl]=outC n m rid (fun _=>false):=by
 have key:∀ k,reps k [V.nilsl]=List.replicate k .nilsl:=by
  intro k
  induction k with
  | zero=>rfl
  | succ k ih=>rw [reps,ih];rfl
 unfold outC
 rw [key]
 simp only [Bool.false_eq_true,if_false]
 rw [List.map_const']
 simp
theorem outC_ext {n m:Nat} {rid:Nat→Nat} {hv hv' : Nat→Bool} (h:∀ k,k≤n→hv k=hv' k):outC n m rid hv=outC n m rid hv' := by
 unfold outC
 apply List.map_congr_left
 intro k hk
 rw [h k (by simp at hk;omega)]
theorem blos_mem {k:Nat}:∀ {l:List V} {v:V},blos k l=true→v∈l→v.blo k=true
 | x :: l,v,h,hm=>by
  simp only [blos,Bool.and_eq_true] at h
  rcases List.mem_cons.1 hm with e | e
  ·subst e;exact h.1
  ·exact blos_mem h.2 e
theorem outC_blo {n m i k:Nat} {rid:Nat→Nat} {hv:Nat→Bool} (h:(B.blk (outC n m rid hv) false).blo k=true) (hi:i≤n) (hh:hv i=true):rid i<k:=by
 simp only [B.blo,Bool.false_or] at h
 have:=blos_mem (v:=.ms 1 (rid i) ((m+1) * 1) 0 (m+1) true) h (by unfold outC;exact List.mem_map.2 ⟨i,by simp;omega,by rw [if_pos hh]⟩)
 simpa [V.blo] using this
theorem blos_of:∀ {k:Nat} {l:List V},(∀ v∈l,v.blo k=true)→blos k l=true
 | k,[],_=>rfl
 | k,x :: l,h=>by simp only [blos,Bool.and_eq_true];exact ⟨h x (by simp),blos_of fun v hv=>h v (by simp [hv])⟩
theorem outC_ok {n m k:Nat} {rid:Nat→Nat} {hv:Nat→Bool} (h:∀ i,i≤n→hv i=true→rid i<k):(B.blk (outC n m rid hv) false).blo k=true:=by
 simp only [B.blo,Bool.false_or]
 refine blos_of fun v hv' => ?_
 unfold outC at hv'
 obtain ⟨i,hi,rfl⟩:=List.mem_map.1 hv'
 split
 ·rename_i hh
  simpa [V.blo] using h i (by simp at hi;omega) hh
 ·rfl
theorem norm_all {mk:List Bool} {n o r:Nat} {tm:List V} {h:List B} {b:B} (hr:h.length=r+1) (hn:n≤r) (ho:o<n) (hb:bget h o=some b) (hv:∀ k,b.blo k=true→r<k):norm mk n ⟨tm,h⟩=⟨masked mk tm,h⟩:=by
 unfold norm trunc
 dsimp only
 obtain ⟨d,hd⟩:∃ d,h.length - n=d+1:=⟨h.length - n - 1,by omega⟩
 rw [hd]
 unfold strip
 rw [show n+d=r by omega]
 have:hbelow r (h.take r)=false:=by
  cases hc:hbelow r (h.take r) with
  | false=>rfl
  | true =>
   have h1:bget (h.take r) o=some b:=by rw [bget_take (by omega)];exact hb
   have hm:b∈h.take r:=by
    have key:∀ {l:List B} {i:Nat} {b:B},bget l i=some b→b∈l:=by
     intro l
     induction l with
     | nil=>intro i b e;cases e
     | cons x l ih =>
      intro i b e
      cases i with
      | zero=>simp only [bget,Option.some.injEq] at e;subst e;simp
      | succ i=>exact List.mem_cons_of_mem _ (ih e)
    exact key h1
   exact absurd (hv r (blo_of_hbelow hc hm)) (Nat.lt_irrefl r)
 rw [this,Bool.and_false]
 rfl
def rowV (m:Nat) (f:Nat→Int):V:=.sl true (m+1) (rowC m f)
def tabV (n m:Nat) (T:Nat→Nat→Int):V:=.sl true (n+1) ((List.range (n+1)).map fun i=>rowV m (T i))
theorem VwLF.ints {h:List B} {d:Nat}:∀ l:List Int,VwLF h (d+1) (ofInts l) (ofInts l)
 | []=>VwLF.nil
 | _ :: l=>VwLF.cons (VwF.int rfl) (VwLF.ints l)
theorem VwLF.map {h:List B} {d:Nat} {α:Type} {f g:α→V}:∀ {l:List α},(∀ x∈l,VwF h d (f x) (g x))→VwLF h d (l.map f) (l.map g)
 | [],_=>VwLF.nil
 | x :: l,h=>VwLF.cons (h x (by simp)) (VwLF.map fun y hy=>h y (by simp [hy]))
theorem tab_view {h:List B} {d o n m:Nat} {rid:Nat→Nat} {hv:Nat→Bool} {T:Nat→Nat→Int} {c:Bool} (hc:c=true) (ho:bget h o=some (.blk (outC n m rid hv) false)) (hall:∀ i,i≤n→hv i=true) (hr:∀ i,i≤n→bget h (rid i)=some (.blk (rowC m (T i)) true)) :
  VwF h (d+3) (.ms 1 o ((n+1) * 1) 0 (n+1) c) (tabV n m T):=by
 subst hc
 refine VwF.ms (d:=d+2) ho (by rw [outC_len,Nat.mul_one]) (part_all (by rw [outC_len,Nat.mul_one])) ?_
 unfold outC
 refine VwLF.map fun i hi => ?_
 have hi' : i≤n:=by simp at hi;omega
 rw [if_pos (hall i hi')]
 exact VwF.ms (d:=d+1) (hr i hi') (by rw [rowC_len,Nat.mul_one]) (part_all (by rw [rowC_len,Nat.mul_one])) (VwLF.ints _)
theorem rowC_ext {m:Nat} {f g:Nat→Int} (h:∀ j,j≤m→f j=g j):rowC m f=rowC m g:=by
 unfold rowC
 congr 1
 apply List.map_congr_left
 intro k hk
 exact h k (by simp at hk;omega)
theorem up1_same {f:Nat→Int} {j:Nat} {v:Int}:up1 f j v j=v:=by unfold up1;rw [if_pos rfl]
theorem up1_other {f:Nat→Int} {j k:Nat} {v:Int} (h:k≠j):up1 f j v k=f k:=by unfold up1;rw [if_neg h]
theorem up1_two {f:Nat→Int} {j:Nat} {v w:Int}:up1 (up1 f j v) j w=up1 f j w:=by
 funext k
 unfold up1
 split <;> rfl
end Go.Dr.T
