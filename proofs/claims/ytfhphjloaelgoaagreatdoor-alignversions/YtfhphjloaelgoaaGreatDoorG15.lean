/- Chapter 06: the counts of the best alignments, plain. -/
import Derived.Test.YtfhphjloaelgoaaGreatDoorG14
import Derived.Test.YtfhphjloaelgoaaGreatDoorG12
import Derived.Test.YtfhphjloaelgoaaGreatDoorDrJ
namespace Go.Dr.T
theorem openT_eq {x y:El} {s:Int} (i j:Nat):openT x y s i j=wT x.l y.l s (-1) 0 i j:=by
 unfold openT mixT zT
 by_cases h:i<x.l.length∧j<y.l.length
 ·rw [if_pos (by omega)]
 ·rw [if_neg (by omega)]
  by_cases h2:i<x.l.length
  ·rw [wT_end2 (by omega)]
  ·rw [wT_end1 (by omega)]
theorem openT_rng {x y:El} {s:Int} (ha:shOk x.l) (hb:shOk y.l) (i j:Nat):0≤openT x y s i j∧openT x y s i j≤8000000:=by
 rw [openT_eq];exact wT_rng ha hb i j
theorem wT_cell {a b:List (Int × Int)} {s:Int} (ha:shOk a) (hb:shOk b) {i j:Nat} (hi:i<a.length) (hj:j<b.length):wT a b s (-1) 0 i j=if 0<shA a b s i j then max (max (wT a b s (-1) 0 (i+1) j) (wT a b s (-1) 0 i (j+1))) (shA a b s i j+wT a b s (-1) 0 (i+1) (j+1)) else max (wT a b s (-1) 0 (i+1) j) (wT a b s (-1) 0 i (j+1)):=by
 have e:shA a b s i j=shr s a[i] b[j]:=by
  unfold shA;rw [List.getD_eq_getElem?_getD,List.getElem?_eq_getElem hi,List.getD_eq_getElem?_getD,List.getElem?_eq_getElem hj];rfl
 rw [wT_step (List.getElem?_eq_getElem hi) (List.getElem?_eq_getElem hj),e]
 by_cases h:0<shr s a[i] b[j]
 ·rw [if_pos ⟨h,by omega⟩,if_pos h]
 ·rw [if_neg (fun q=>h q.1),if_neg h]
theorem wT_down {a b:List (Int × Int)} {s:Int} (ha:shOk a) (hb:shOk b) (i j:Nat):wT a b s (-1) 0 (i+1) j≤wT a b s (-1) 0 i j:=by
 by_cases hi:i<a.length
 ·by_cases hj:j<b.length
  ·rw [wT_cell ha hb hi hj];split <;> omega
  ·rw [wT_end2 (by omega),wT_end2 (by omega)];exact Int.le_refl _
 ·rw [wT_end1 (by omega),wT_end1 (by omega)];exact Int.le_refl _
theorem wT_right {a b:List (Int × Int)} {s:Int} (ha:shOk a) (hb:shOk b) (i j:Nat):wT a b s (-1) 0 i (j+1)≤wT a b s (-1) 0 i j:=by
 by_cases hi:i<a.length
 ·by_cases hj:j<b.length
  ·rw [wT_cell ha hb hi hj];split <;> omega
  ·rw [wT_end2 (by omega),wT_end2 (by omega)];exact Int.le_refl _
 ·rw [wT_end1 (by omega),wT_end1 (by omega)];exact Int.le_refl _
theorem wT_mono1 {a b:List (Int × Int)} {s:Int} (ha:shOk a) (hb:shOk b) {j:Nat}:∀ (k k' : Nat),k≤k' → wT a b s (-1) 0 k' j≤wT a b s (-1) 0 k j:=by
 intro k k' h
 obtain ⟨d,rfl⟩:=Nat.le.dest h
 induction d with
 | zero=>exact Int.le_refl _
 | succ d ih=>exact Int.le_trans (wT_down ha hb (k+d) j) (ih (by omega))
theorem wT_mono2 {a b:List (Int × Int)} {s:Int} (ha:shOk a) (hb:shOk b) {i:Nat}:∀ (k k' : Nat),k≤k' → wT a b s (-1) 0 i k' ≤ wT a b s (-1) 0 i k:=by
 intro k k' h
 obtain ⟨d,rfl⟩:=Nat.le.dest h
 induction d with
 | zero=>exact Int.le_refl _
 | succ d ih=>exact Int.le_trans (wT_right ha hb i (k+d)) (ih (by omega))
theorem wT_take {a b:List (Int × Int)} {s:Int} (ha:shOk a) (hb:shOk b) {k l:Nat} (hk:k<a.length) (hl:l<b.length) (h:0<shA a b s k l):shA a b s k l+wT a b s (-1) 0 (k+1) (l+1)≤wT a b s (-1) 0 k l:=by
 rw [wT_cell ha hb hk hl,if_pos h];omega
theorem begins_same {x y:El} {s:Int} (ha:shOk x.l) (hb:shOk y.l) (i j:Nat):bgs (shA x.l y.l s) (openT x y s) x.l.length y.l.length i j=bgA (shA x.l y.l s) (openT x y s) x.l.length y.l.length i j:=by
 refine bgs_eq (fun k k' h => ?_) (fun k l hk hj hl h => ?_)
 ·rw [openT_eq,openT_eq];exact wT_mono1 ha hb k k' h
 ·rw [openT_eq,openT_eq]
  exact Int.le_trans (wT_take ha hb hk hl h) (wT_mono2 ha hb j l hj)
def cvT (S W:Nat→Nat→Int) (n m:Nat) (T:Nat→Nat→Int) (i j:Nat):Int :=
 if W i j=0 then 1 else (bgs S W n m i j).foldl (fun c p=>min 1000000 (c+T (p.1+1) (p.2+1))) 0
def cRow (S W:Nat→Nat→Int) (n m i:Nat):Nat→(Nat→Nat→Int)→(Nat→Nat→Int)
 | 0,T=>T
 | l+1,T=>cRow S W n m i l (upT T i l (cvT S W n m T i l))
def cAll (S W:Nat→Nat→Int) (n m:Nat):Nat→(Nat→Nat→Int)→(Nat→Nat→Int)
 | 0,T=>T
 | k+1,T=>cAll S W n m k (cRow S W n m k (m+1) T)
def bestV2 (x y:El) (s:Int):V :=
 if openE x y s≠0 then .tup [.int .i64 0,.int .i64 0,.int .i64 (openE x y s)] else
 .tup [.int .i64 (openT x y s 0 0),.int .i64 (cAll (shA x.l y.l s) (openT x y s) x.l.length y.l.length (x.l.length+1) zT 0 0),.int .i64 0]
end Go.Dr.T
namespace Go.Dr.T
def zC:List V:=List.replicate 1681 (.int .i64 0)
def c21z:Fc:=⟨87,3,[.tmp 6,.tmp 7,.tmp 8],.seq (.reg false 2 [⟨some 3,none,0,.bx 0 (.t 0)⟩,⟨some 4,none,0,.bx 1 (.t 1)⟩,⟨some 6,none,0,.mv (.c (.int .i64 0))⟩,⟨some 7,none,4,.mv (.c (.int .i64 0))⟩,⟨some 8,none,12,.mv (.c (.int .i64 0))⟩]) (.seq (.reg false 0 [⟨some 15,none,0,.ld true 3 (.t 3)⟩,⟨some 16,none,0,.ld true 3 (.t 4)⟩,⟨some 17,none,0,.mv (.t 2)⟩,⟨some 18,none,7,.call (.c (.fn 53 [])) [.t 15,.t 16,.t 17]⟩,⟨some 14,none,15,.mv (.t 18)⟩,⟨some 19,none,31,.ex (.t 14) 0⟩,⟨some 20,none,31,.ex (.t 14) 1⟩,⟨some 9,none,63,.mv (.t 19)⟩,⟨some 8,none,255,.mv (.t 20)⟩]) (.seq (.seq (.reg false 0 [⟨some 21,none,0,.mv (.t 8)⟩,⟨some 22,none,1,.bo .neq (.t 21) (.c (.int .i64 0))⟩]) (.cond (.t 22) (.seq (.reg false 0 [⟨some 23,none,0,.mv (.t 8)⟩,⟨some 6,none,0,.mv (.c (.int .i64 0))⟩,⟨some 7,none,2,.mv (.c (.int .i64 0))⟩,⟨some 8,none,7,.mv (.t 23)⟩]) .ret) .skip)) (.seq (.reg false 1 [⟨some 10,none,0,.al 0 zC⟩]) (.seq (.seq (.reg false 1 [⟨some 24,none,0,.fa 1 (.t 3)⟩,⟨some 25,none,1,.ld false 1 (.t 24)⟩,⟨some 26,none,3,.len false (.t 25)⟩,⟨some 11,none,0,.al 0 [.int .i64 0]⟩,⟨none,none,15,.st 1 (.t 11) (.t 26)⟩]) (.block 0 (.loop (.seq (.seq (.reg false 0 [⟨some 27,none,0,.ld false 1 (.t 11)⟩,⟨some 28,none,1,.bo .geq (.t 27) (.c (.int .i64 0))⟩]) (.cond (.t 28) .skip (.exit 0))) (.seq (.block 1 (.seq (.reg false 1 [⟨some 31,none,0,.fa 1 (.t 4)⟩,⟨some 32,none,1,.ld false 1 (.t 31)⟩,⟨some 33,none,3,.len false (.t 32)⟩,⟨some 12,none,0,.al 0 [.int .i64 0]⟩,⟨none,none,15,.st 1 (.t 12) (.t 33)⟩]) (.block 2 (.loop (.seq (.seq (.reg false 0 [⟨some 34,none,0,.ld false 1 (.t 12)⟩,⟨some 35,none,1,.bo .geq (.t 34) (.c (.int .i64 0))⟩]) (.cond (.t 35) .skip (.exit 2))) (.seq (.block 3 (.seq (.seq (.reg true 0 [⟨some 38,none,0,.mv (.t 9)⟩,⟨some 39,none,0,.ld false 1 (.t 11)⟩,⟨some 40,none,0,.ld false 1 (.t 12)⟩,⟨some 41,none,1,.nc (.t 38)⟩,⟨some 42,none,9,.fa 3 (.t 41)⟩,⟨some 43,none,27,.iaa 41 41 (.t 42) (.t 39)⟩,⟨some 44,none,63,.iaa 1 41 (.t 43) (.t 40)⟩,⟨some 45,none,127,.ld false 1 (.t 44)⟩,⟨some 46,none,255,.bo .eql (.t 45) (.c (.int .i64 0))⟩]) (.cond (.t 46) (.seq (.reg true 0 [⟨some 47,none,0,.ld false 1 (.t 11)⟩,⟨some 48,none,0,.ld false 1 (.t 12)⟩,⟨some 49,none,1,.iaa 41 41 (.t 10) (.t 47)⟩,⟨some 50,none,7,.iaa 1 41 (.t 49) (.t 48)⟩,⟨none,none,15,.st 1 (.t 50) (.c (.int .i64 1))⟩]) (.exit 3)) .skip)) (.seq (.reg false 0 [⟨some 51,none,0,.mv (.t 9)⟩,⟨some 52,none,0,.ld false 1 (.t 11)⟩,⟨some 53,none,0,.ld false 1 (.t 12)⟩,⟨some 54,none,7,.call (.c (.fn 54 [])) [.t 51,.t 52,.t 53]⟩]) (.block 4 (.rf (.t 54) [55] (.reg false 1 [⟨some 13,none,0,.al 0 [.int .i64 0,.int .i64 0]⟩,⟨none,none,1,.st 2 (.t 13) (.t 55)⟩]) (.block 5 (.reg true 0 [⟨some 56,none,0,.ld false 1 (.t 11)⟩,⟨some 57,none,0,.ld false 1 (.t 12)⟩,⟨some 58,none,0,.ld false 1 (.t 11)⟩,⟨some 59,none,0,.ld false 1 (.t 12)⟩,⟨some 60,none,4,.iaa 41 41 (.t 10) (.t 58)⟩,⟨some 61,none,28,.iaa 1 41 (.t 60) (.t 59)⟩,⟨some 62,none,60,.ld false 1 (.t 61)⟩,⟨some 63,none,0,.fa 0 (.t 13)⟩,⟨some 64,none,128,.ld false 1 (.t 63)⟩,⟨some 65,none,384,.bo .add (.t 64) (.c (.int .i64 1))⟩,⟨some 66,none,0,.fa 1 (.t 13)⟩,⟨some 67,none,1024,.ld false 1 (.t 66)⟩,⟨some 68,none,3072,.bo .add (.t 67) (.c (.int .i64 1))⟩,⟨some 69,none,896,.iaa 41 41 (.t 10) (.t 65)⟩,⟨some 70,none,16256,.iaa 1 41 (.t 69) (.t 68)⟩,⟨some 71,none,32640,.ld false 1 (.t 70)⟩,⟨some 72,none,65532,.bo .add (.t 62) (.t 71)⟩,⟨some 73,none,131068,.mm false [.c (.int .i64 1000000),.t 72]⟩,⟨some 74,none,1,.iaa 41 41 (.t 10) (.t 56)⟩,⟨some 75,none,524287,.iaa 1 41 (.t 74) (.t 57)⟩,⟨none,none,1048575,.st 1 (.t 75) (.t 73)⟩]))))))) (.seq (.seq (.reg false 0 [⟨some 76,none,0,.ld false 1 (.t 12)⟩]) (.reg false 1 [⟨some 12,none,0,.al 0 [.int .i64 0]⟩,⟨none,none,1,.st 1 (.t 12) (.t 76)⟩])) (.reg false 0 [⟨some 36,none,0,.ld false 1 (.t 12)⟩,⟨some 37,none,1,.bo .sub (.t 36) (.c (.int .i64 1))⟩,⟨none,none,3,.st 1 (.t 12) (.t 37)⟩])))))))) (.seq (.seq (.reg false 0 [⟨some 77,none,0,.ld false 1 (.t 11)⟩]) (.reg false 1 [⟨some 11,none,0,.al 0 [.int .i64 0]⟩,⟨none,none,1,.st 1 (.t 11) (.t 77)⟩])) (.reg false 0 [⟨some 29,none,0,.ld false 1 (.t 11)⟩,⟨some 30,none,1,.bo .sub (.t 29) (.c (.int .i64 1))⟩,⟨none,none,3,.st 1 (.t 11) (.t 30)⟩]))))))) (.seq (.reg true 0 [⟨some 78,none,0,.mv (.t 9)⟩,⟨some 79,none,1,.nc (.t 78)⟩,⟨some 80,none,3,.fa 3 (.t 79)⟩,⟨some 81,none,7,.iaa 41 41 (.t 80) (.c (.int .i64 0))⟩,⟨some 82,none,15,.iaa 1 41 (.t 81) (.c (.int .i64 0))⟩,⟨some 83,none,31,.ld false 1 (.t 82)⟩,⟨some 84,none,0,.iaa 41 41 (.t 10) (.c (.int .i64 0))⟩,⟨some 85,none,64,.iaa 1 41 (.t 84) (.c (.int .i64 0))⟩,⟨some 86,none,192,.ld false 1 (.t 85)⟩,⟨some 6,none,63,.mv (.t 83)⟩,⟨some 7,none,1023,.mv (.t 86)⟩,⟨some 8,none,2047,.mv (.c (.int .i64 0))⟩]) .ret))))),none⟩
theorem c21_eq:FB 21=some c21z:=rfl
theorem cells_ints:∀ {l:List Int} {n:Nat},n<l.length→∃ y,l[n]?=some y∧cellAt (ofInts l) n=some (.int .i64 y)
 | x :: l,0,_=>⟨x,rfl,rfl⟩
 | x :: l,n+1,h=>by
  obtain ⟨y,h1,h2⟩:=cells_ints (l:=l) (n:=n) (by simpa using h)
  exact ⟨y,by simpa using h1,by simpa [ofInts,cellAt] using h2⟩
theorem over_ints:∀ {M:List Int} {i:Nat} {y:Int},over (ofInts M) i [.int .i64 y]=ofInts (M.set i y)
 | [],i,y=>by cases i <;> rfl
 | m :: M,0,y=>by cases M <;> rfl
 | m :: M,i+1,y=>by
  have:=over_ints (M:=M) (i:=i) (y:=y)
  simp only [ofInts,List.map_cons,List.set_cons_succ,over] at this ⊢
  rw [this]
@[irreducible] def tC (f:Nat→Nat→Int):List V:=ofInts (tb f)
theorem tC_eq (f:Nat→Nat→Int):tC f=ofInts (tb f):=by unfold tC;rfl
theorem zC_eq:zC=tC zT:=by rw [tC_eq,tb_zero];rfl
theorem zC_len:zC.length=1681:=List.length_replicate
attribute [irreducible] zC
theorem tC_len {f:Nat→Nat→Int}:(tC f).length=1681:=by rw [tC_eq];simp [ofInts,tb_len]
theorem tC_get {f:Nat→Nat→Int} {i j:Nat} (hi:i<41) (hj:j<41):cellAt (tC f) (0+i * 41+j * 1)=some (.int .i64 (f i j)):=by
 rw [tC_eq,show 0+i * 41+j * 1=i * 41+j by omega]
 obtain ⟨y,h1,h2⟩:=cells_ints (l:=tb f) (n:=i * 41+j) (by rw [tb_len];omega)
 rw [tb_get hi hj] at h1
 cases h1;exact h2
theorem tC_set {f:Nat→Nat→Int} {i j:Nat} {v:Int} (hi:i<41) (hj:j<41):over (tC f) (0+i * 41+j * 1) [.int .i64 v]=tC (upT f i j v):=by
 rw [tC_eq,tC_eq,show 0+i * 41+j * 1=i * 41+j by omega,over_ints,tb_set hi hj]
theorem tC_blo {f:Nat→Nat→Int} (n:Nat):blos n (tC f)=true:=by rw [tC_eq];exact blos_int1 _ _
theorem tC_blk {T:Nat→Nat→Int} {n:Nat}:(B.blk (tC T) false).blo n=true:=tC_blo n
end Go.Dr.T
namespace Go.Dr.T
def lsP (l:List (Int × Int)):V:=if l=[] then .sl true 0 [] else .sl false l.length (shC l)
def idOf:V→Nat
 | .ms _ id _ _ _ _=>id
 | _=>0
theorem shC_appS:∀ {l m:List (Int × Int)},shC (l++m)=shC l++shC m
 | [],m=>rfl
 | p :: l,m=>by simp only [List.cons_append,shC,shC_appS (l:=l)]
theorem lsP_eq (l:List (Int × Int)):∃ c,lsP l = .sl c l.length (shC l):=by
 unfold lsP
 split
 ·rename_i h;subst h;exact ⟨true,rfl⟩
 ·exact ⟨false,rfl⟩
def pI (p:Nat × Nat):Int × Int:=((p.1:Int),(p.2:Int))
end Go.Dr.T
namespace Go.Dr.T
theorem cellAt_eq:∀ {l:List V} {n:Nat},cellAt l n=l[n]?
 | [],n=>by cases n <;> rfl
 | _ :: l,0=>rfl
 | _ :: l,n+1=>by simpa [cellAt] using cellAt_eq (l:=l) (n:=n)
end Go.Dr.T
namespace Go.Dr.T
def rowC (m:Nat) (f:Nat→Int):List V:=ofInts ((List.range (m+1)).map f)
def up1 (f:Nat→Int) (j:Nat) (v:Int):Nat→Int:=fun k=>if k=j then v else f k
theorem rowC_len {m:Nat} {f:Nat→Int}:(rowC m f).length=m+1:=by simp [rowC,ofInts]
theorem rowC_get {m j:Nat} {f:Nat→Int} (h:j≤m):cellAt (rowC m f) (0+j * 1)=some (.int .i64 (f j)):=by
 rw [Nat.zero_add,Nat.mul_one]
 obtain ⟨y,h1,h2⟩:=cells_ints (l:=(List.range (m+1)).map f) (n:=j) (by simp;omega)
 have:((List.range (m+1)).map f)[j]?=some (f j):=by simp [show j<m+1 by omega]
 rw [this] at h1
 cases h1
 exact h2
theorem rowC_set {m j:Nat} {f:Nat→Int} {v:Int} (h:j≤m):over (rowC m f) (0+j * 1) [.int .i64 v]=rowC m (up1 f j v):=by
 unfold rowC
 rw [Nat.zero_add,Nat.mul_one,over_ints]
 congr 1
 apply List.ext_getElem?
 intro k
 rw [List.getElem?_set]
 by_cases hk:j=k
 ·subst hk
  simp [up1,show j<m+1 by omega]
 ·rw [if_neg hk]
  by_cases hk2:k<m+1
  ·simp [hk2,up1,show ¬ k=j from fun e=>hk e.symm]
  ·rw [List.getElem?_eq_none (by simp;omega),List.getElem?_eq_none (by simp;omega)]
theorem rowC_zero {m:Nat}:reps (m+1) [.int .i64 0]=rowC m (fun _=>0):=by
 have key:∀ k,reps k [V.int .i64 0]=ofInts (List.replicate k 0):=by
  intro k
  induction k with
  | zero=>rfl
  | succ k ih=>rw [reps,ih];rfl
 unfold rowC
 rw [key]
 congr 1
 rw [List.map_const']
 simp
theorem rowC_blo {m n:Nat} {f:Nat→Int}:(B.blk (rowC m f) true).blo n=true:=rfl
def outC (n m:Nat) (rid:Nat→Nat) (hv:Nat→Bool):List V:=(List.range (n+1)).map fun i=>if hv i=true then .ms 1 (rid i) ((m+1) * 1) 0 (m+1) true else .nilsl
theorem outC_len {n m:Nat} {rid:Nat→Nat} {hv:Nat→Bool}:(outC n m rid hv).length=n+1:=by simp [outC]
theorem over_one:∀ {l:List V} {i:Nat} {v:V},over l i [v]=l.set i v
 | [],i,v=>by cases i <;> rfl
 | _ :: l,0,v=>by cases l <;> rfl
 | _ :: l,i+1,v=>by simp only [over,List.set_cons_succ,over_one (l:=l)]
theorem outC_get {n m i:Nat} {rid:Nat→Nat} {hv:Nat→Bool} (h:i≤n) (hi:hv i=true):cellAt (outC n m rid hv) (0+i * 1)=some (.ms 1 (rid i) ((m+1) * 1) 0 (m+1) true):=by
 rw [Nat.zero_add,Nat.mul_one i,cellAt_eq]
 simp [outC,show i<n+1 by omega,hi]
theorem outC_set {n m i:Nat} {rid:Nat→Nat} {hv:Nat→Bool} (h:i≤n):over (outC n m rid hv) (0+i * 1) [.ms 1 (rid i) ((m+1) * 1) 0 (m+1) true]=outC n m rid (fun k=>decide (k=i) || hv k):=by
 unfold outC
 rw [Nat.zero_add,Nat.mul_one i,over_one]
 apply List.ext_getElem?
 intro k
 rw [List.getElem?_set]
 by_cases hk:i=k
 ·subst hk
  simp [show i<n+1 by omega]
 ·rw [if_neg hk]
  by_cases hk2:k<n+1
  ·simp [hk2,show ¬ k=i from fun e=>hk e.symm]
  ·rw [List.getElem?_eq_none (by simp;omega),List.getElem?_eq_none (by simp;omega)]
theorem outC_none {n m:Nat} {rid:Nat→Nat}:reps (n+1) [.nilsl]=outC n m rid (fun _=>false):=by
 have key:∀ k,reps k [V.nilsl]=List.replicate k .nilsl:=by
  intro k
  induction k with
  | zero=>rfl
  | succ k ih=>rw [reps,ih];rfl
 unfold outC
 rw [key]
 simp only [Bool.false_eq_true,if_false]
 rw [List.map_const']
 simp
theorem outC_ext {n m:Nat} {rid:Nat→Nat} {hv hv' : Nat→Bool} (h:∀ k,k≤n→hv k=hv' k):outC n m rid hv=outC n m rid hv' := by
 unfold outC
 apply List.map_congr_left
 intro k hk
 rw [h k (by simp at hk;omega)]
theorem blos_mem {k:Nat}:∀ {l:List V} {v:V},blos k l=true→v∈l→v.blo k=true
 | x :: l,v,h,hm=>by
  simp only [blos,Bool.and_eq_true] at h
  rcases List.mem_cons.1 hm with e | e
  ·subst e;exact h.1
  ·exact blos_mem h.2 e
theorem outC_blo {n m i k:Nat} {rid:Nat→Nat} {hv:Nat→Bool} (h:(B.blk (outC n m rid hv) false).blo k=true) (hi:i≤n) (hh:hv i=true):rid i<k:=by
 simp only [B.blo,Bool.false_or] at h
 have:=blos_mem (v:=.ms 1 (rid i) ((m+1) * 1) 0 (m+1) true) h (by unfold outC;exact List.mem_map.2 ⟨i,by simp;omega,by rw [if_pos hh]⟩)
 simpa [V.blo] using this
theorem blos_of:∀ {k:Nat} {l:List V},(∀ v∈l,v.blo k=true)→blos k l=true
 | k,[],_=>rfl
 | k,x :: l,h=>by simp only [blos,Bool.and_eq_true];exact ⟨h x (by simp),blos_of fun v hv=>h v (by simp [hv])⟩
theorem outC_ok {n m k:Nat} {rid:Nat→Nat} {hv:Nat→Bool} (h:∀ i,i≤n→hv i=true→rid i<k):(B.blk (outC n m rid hv) false).blo k=true:=by
 simp only [B.blo,Bool.false_or]
 refine blos_of fun v hv' => ?_
 unfold outC at hv'
 obtain ⟨i,hi,rfl⟩:=List.mem_map.1 hv'
 split
 ·rename_i hh
  simpa [V.blo] using h i (by simp at hi;omega) hh
 ·rfl
theorem norm_all {mk:List Bool} {n o r:Nat} {tm:List V} {h:List B} {b:B} (hr:h.length=r+1) (hn:n≤r) (ho:o<n) (hb:bget h o=some b) (hv:∀ k,b.blo k=true→r<k):norm mk n ⟨tm,h⟩=⟨masked mk tm,h⟩:=by
 unfold norm trunc
 dsimp only
 obtain ⟨d,hd⟩:∃ d,h.length - n=d+1:=⟨h.length - n - 1,by omega⟩
 rw [hd]
 unfold strip
 rw [show n+d=r by omega]
 have:hbelow r (h.take r)=false:=by
  cases hc:hbelow r (h.take r) with
  | false=>rfl
  | true =>
   have h1:bget (h.take r) o=some b:=by rw [bget_take (by omega)];exact hb
   have hm:b∈h.take r:=by
    have key:∀ {l:List B} {i:Nat} {b:B},bget l i=some b→b∈l:=by
     intro l
     induction l with
     | nil=>intro i b e;cases e
     | cons x l ih =>
      intro i b e
      cases i with
      | zero=>simp only [bget,Option.some.injEq] at e;subst e;simp
      | succ i=>exact List.mem_cons_of_mem _ (ih e)
    exact key h1
   exact absurd (hv r (blo_of_hbelow hc hm)) (Nat.lt_irrefl r)
 rw [this,Bool.and_false]
 rfl
def rowV (m:Nat) (f:Nat→Int):V:=.sl true (m+1) (rowC m f)
def tabV (n m:Nat) (T:Nat→Nat→Int):V:=.sl true (n+1) ((List.range (n+1)).map fun i=>rowV m (T i))
theorem VwLF.ints {h:List B} {d:Nat}:∀ l:List Int,VwLF h (d+1) (ofInts l) (ofInts l)
 | []=>VwLF.nil
 | _ :: l=>VwLF.cons (VwF.int rfl) (VwLF.ints l)
theorem VwLF.map {h:List B} {d:Nat} {α:Type} {f g:α→V}:∀ {l:List α},(∀ x∈l,VwF h d (f x) (g x))→VwLF h d (l.map f) (l.map g)
 | [],_=>VwLF.nil
 | x :: l,h=>VwLF.cons (h x (by simp)) (VwLF.map fun y hy=>h y (by simp [hy]))
theorem tab_view {h:List B} {d o n m:Nat} {rid:Nat→Nat} {hv:Nat→Bool} {T:Nat→Nat→Int} {c:Bool} (hc:c=true) (ho:bget h o=some (.blk (outC n m rid hv) false)) (hall:∀ i,i≤n→hv i=true) (hr:∀ i,i≤n→bget h (rid i)=some (.blk (rowC m (T i)) true)) :
  VwF h (d+3) (.ms 1 o ((n+1) * 1) 0 (n+1) c) (tabV n m T):=by
 subst hc
 refine VwF.ms (d:=d+2) ho (by rw [outC_len,Nat.mul_one]) (part_all (by rw [outC_len,Nat.mul_one])) ?_
 unfold outC
 refine VwLF.map fun i hi => ?_
 have hi' : i≤n:=by simp at hi;omega
 rw [if_pos (hall i hi')]
 exact VwF.ms (d:=d+1) (hr i hi') (by rw [rowC_len,Nat.mul_one]) (part_all (by rw [rowC_len,Nat.mul_one])) (VwLF.ints _)
theorem rowC_ext {m:Nat} {f g:Nat→Int} (h:∀ j,j≤m→f j=g j):rowC m f=rowC m g:=by
 unfold rowC
 congr 1
 apply List.map_congr_left
 intro k hk
 exact h k (by simp at hk;omega)
theorem up1_same {f:Nat→Int} {j:Nat} {v:Int}:up1 f j v j=v:=by unfold up1;rw [if_pos rfl]
theorem up1_other {f:Nat→Int} {j k:Nat} {v:Int} (h:k≠j):up1 f j v k=f k:=by unfold up1;rw [if_neg h]
theorem up1_two {f:Nat→Int} {j:Nat} {v w:Int}:up1 (up1 f j v) j w=up1 f j w:=by
 funext k
 unfold up1
 split <;> rfl
end Go.Dr.T
namespace Go.Dr.T
def rdV:Option (List Int)→V
 | none=>.sl true 0 []
 | some l=>.sl false l.length (ofInts l)
def rndP (l:List El):Option (List Int):=roundP (fun k=>wayP (pAll l) k k k) mks
def rndV (l:List El):V:=if vldE l≠0 then .tup [.sl true 0 [],.int .i64 (vldE l)] else .tup [rdV (rndP l),.int .i64 0]
set_option maxRecDepth 100000 in
set_option maxHeartbeats 20000000 in
theorem alnRound_ok {c:Bool} {l:List El}:Fun FB1 md 36 [elsV c l] (rndV l):=by
 have hg:=gather_fun (c:=c) (l:=l) gatherV_view
 unfold gatherV at hg
 unfold rndV
 by_cases hv:vldE l=0
 ·rw [if_neg (fun h=>h hv)] at hg ⊢
  have w:=wg_all hv
  have hl:=w.len
  have hrn:=w.round
  have hne:rndP l≠some []:=round_ne (fun k=>w.ne) _ _ (by simp)
  unfold rndP at hne ⊢
  rw [← hrn] at hne ⊢
  have hrc:∀ {h:List B} {ro:Nat} {K:V→List B→Prop},K (bestV (roundP (fun k=>wayP (pAll l) k k k) (isort (keysOf (pAll l))))) h→CallP FB1 md ro (.fn 66 []) [gatV (pAll l)] h K:=fun hk=>round_call (w:=fun k=>wayP (pAll l) k k k) (by omega) (fun k _=>w.funs) (fun k=>w.ne) hk
  generalize roundP (fun k=>wayP (pAll l) k k k) (isort (keysOf (pAll l)))=r at *
  generalize pAll l=D at *
  cases r with
  | none =>
   refine fun_of rfl rfl ?_
   repeat' (first
 | (conv=>whnf)
   first
   | refine Br.f ?_
   | refine call_fun rfl rfl hg (.inl rfl) ?_
   | refine hrc ?_
   | refine Get.mk _ rfl ?_
   | refine Leaves.of ?_
   | refine Vw.int ?_
   | refine Vw.nil
   | refine Vw.tup ?_
   | refine VwL.cons ?_ ?_
   | refine VwL.nil)
   all_goals first | rfl | (exfalso;omega;done)
  | some x =>
   obtain ⟨y,r,rfl⟩:∃ y r,x=y :: r:=by
    cases x with
    | nil=>exact absurd rfl hne
    | cons y r=>exact ⟨y,r,rfl⟩
   refine fun_of rfl rfl ?_
   repeat' (first
 | (conv=>whnf)
   first
   | refine Br.f ?_
   | refine call_fun rfl rfl hg (.inl rfl) ?_
   | refine hrc ?_
   | refine Get.mk _ rfl ?_
   | refine Leaves.of ?_
   | refine Vw.int ?_
   | refine Vw.sl
   | refine Vw.tup ?_
   | refine VwL.cons ?_ ?_
   | refine VwL.nil)
   all_goals first | rfl | (exfalso;omega;done)
 ·rw [if_pos hv] at hg ⊢
  generalize vldE l=e at *
  refine fun_of rfl rfl ?_
  repeat' (first
 | (conv=>whnf)
   first
   | (refine Br.decF ?_ ?_;(focus first | assumption | omega))
   | refine Br.not ?_
   | refine call_fun rfl rfl hg (.inl rfl) ?_
   | refine Get.mk _ rfl ?_
   | refine Leaves.of ?_
   | refine Vw.int ?_
   | refine Vw.nil
   | refine Vw.tup ?_
   | refine VwL.cons ?_ ?_
   | refine VwL.nil)
  all_goals first | rfl | (exfalso;omega;done)
def boC (n:Nat) (f:Nat→Bool):List V:=(List.range n).map fun i=>.bool (f i)
theorem boC_len {n:Nat} {f:Nat→Bool}:(boC n f).length=n:=by simp [boC]
theorem boC_get {n j:Nat} {f:Nat→Bool} (h:j<n):cellAt (boC n f) (0+j * 1)=some (.bool (f j)):=by
 rw [Nat.zero_add,Nat.mul_one,cellAt_eq]
 simp [boC,h]
theorem boC_get' {n j:Nat} {f:Nat→Bool} (h:j<n):cellAt (boC n f) (j * 1)=some (.bool (f j)):=by
 have:=boC_get (f:=f) h
 rwa [Nat.zero_add] at this
def upB (f:Nat→Bool) (j:Nat) (v:Bool):Nat→Bool:=fun k=>if k=j then v else f k
theorem boC_set {n j:Nat} {f:Nat→Bool} {v:Bool} (h:j<n):over (boC n f) (0+j * 1) [.bool v]=boC n (upB f j v):=by
 unfold boC
 rw [Nat.zero_add,Nat.mul_one j,over_one]
 apply List.ext_getElem?
 intro k
 rw [List.getElem?_set]
 by_cases hk:j=k
 ·subst hk
  simp [upB,h]
 ·rw [if_neg hk]
  by_cases hk2:k<n
  ·simp [hk2,upB,show ¬ k=j from fun e=>hk e.symm]
  ·rw [List.getElem?_eq_none (by simp;omega),List.getElem?_eq_none (by simp;omega)]
theorem boC_zero {n:Nat}:reps n [.bool false]=boC n (fun _=>false):=by
 have key:∀ k,reps k [V.bool false]=List.replicate k (.bool false):=by
  intro k
  induction k with
  | zero=>rfl
  | succ k ih=>rw [reps,ih];rfl
 unfold boC
 rw [key,List.map_const']
 simp
theorem boC_blo {m n:Nat} {f:Nat→Bool}:(B.blk (boC m f) true).blo n=true:=rfl
theorem boC_ext {n:Nat} {f g:Nat→Bool} (h:∀ j,j<n→f j=g j):boC n f=boC n g:=by
 unfold boC
 apply List.map_congr_left
 intro k hk
 rw [h k (by simpa using hk)]
theorem VwLF.bools {h:List B} {d:Nat} {n:Nat} {f:Nat→Bool}:VwLF h (d+1) (boC n f) (boC n f):=by
 unfold boC
 generalize List.range n=l
 induction l with
 | nil=>exact VwLF.nil
 | cons x l ih=>exact VwLF.cons (VwF.bool rfl) ih
def rowB (n:Nat) (f:Nat→Bool):V:=.sl true n (boC n f)
end Go.Dr.T
