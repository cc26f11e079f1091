/- Chapter 06: the pairs with which a best alignment begins; their iterator. -/
import Derived.Test.YtcjhgcjmomildaaGreatDoorG6
namespace Go.Dr.T
def bgR (S W:Nat→Nat→Int) (m:Nat) (v:Int) (l k:Nat):List (Nat × Nat):=((List.range' l (m - l)).filter fun l=>decide (0<S k l∧S k l+W (k+1) (l+1)=v)).map fun l=>(k,l)
def bgF (S W:Nat→Nat→Int) (n m:Nat) (v:Int) (j k:Nat):List (Nat × Nat):=((List.range' k (n - k)).takeWhile fun k=>decide (W k j=v)).flatMap (bgR S W m v j)
def bgs (S W:Nat→Nat→Int) (n m i j:Nat):List (Nat × Nat):=bgF S W n m (W i j) j i
def bgA (S W:Nat→Nat→Int) (n m i j:Nat):List (Nat × Nat):=(List.range' i (n - i)).flatMap (bgR S W m (W i j) j)
theorem bgR_end {S W:Nat→Nat→Int} {m:Nat} {v:Int} {l k:Nat} (h:m≤l):bgR S W m v l k=[]:=by
 unfold bgR;rw [show m - l=0 by omega];rfl
theorem bgR_step {S W:Nat→Nat→Int} {m:Nat} {v:Int} {l k:Nat} (h:l<m):bgR S W m v l k=if 0<S k l∧S k l+W (k+1) (l+1)=v then (k,l) :: bgR S W m v (l+1) k else bgR S W m v (l+1) k:=by
 unfold bgR
 rw [show m - l=(m - (l+1))+1 by omega,List.range'_succ,List.filter_cons]
 by_cases hc:0<S k l∧S k l+W (k+1) (l+1)=v
 ·simp only [hc,and_self,decide_true,if_true,List.map_cons]
 ·simp only [hc,decide_false,if_false,Bool.false_eq_true]
theorem bgF_end {S W:Nat→Nat→Int} {n m:Nat} {v:Int} {j k:Nat} (h:¬ (k<n∧W k j=v)):bgF S W n m v j k=[]:=by
 unfold bgF
 by_cases hk:k<n
 ·rw [show n - k=(n - (k+1))+1 by omega,List.range'_succ,List.takeWhile_cons_of_neg (by simpa using fun h2=>h ⟨hk,h2⟩)];rfl
 ·rw [show n - k=0 by omega];rfl
theorem bgF_step {S W:Nat→Nat→Int} {n m:Nat} {v:Int} {j k:Nat} (h:k<n∧W k j=v):bgF S W n m v j k=bgR S W m v j k++bgF S W n m v j (k+1):=by
 unfold bgF
 rw [show n - k=(n - (k+1))+1 by omega,List.range'_succ,List.takeWhile_cons_of_pos (by simpa using h.2),List.flatMap_cons]
theorem takeWhile_flatMap {α β:Type} {p:α→Bool} {g:α→List β}:∀ {l:List α},(l.Pairwise fun a b=>p a=false→p b=false)→(∀ a∈l,p a=false→g a=[])→(l.takeWhile p).flatMap g=l.flatMap g
 | [],_,_=>rfl
 | a :: l,hp,hg=>by
  obtain ⟨h1,h2⟩:=List.pairwise_cons.1 hp
  cases h:p a with
  | true=>rw [List.takeWhile_cons_of_pos h,List.flatMap_cons,List.flatMap_cons,takeWhile_flatMap h2 fun b hb=>hg b (by simp [hb])]
  | false =>
   rw [List.takeWhile_cons_of_neg (by simp [h]),List.flatMap_nil,List.flatMap_cons,hg a (by simp) h,List.nil_append]
   symm
   rw [List.flatMap_eq_nil_iff]
   intro b hb
   exact hg b (by simp [hb]) (h1 b hb h)
theorem bgs_eq {S W:Nat→Nat→Int} {n m i j:Nat} (hmono:∀ k k', k≤k' → W k' j≤W k j) (hle:∀ k l,k<n→j≤l→l<m→0<S k l→S k l+W (k+1) (l+1)≤W k j):bgs S W n m i j=bgA S W n m i j:=by
 unfold bgs bgA bgF
 refine takeWhile_flatMap ?_ ?_
 ·refine List.Pairwise.imp_of_mem ?_ (List.pairwise_lt_range' (s:=i) (n:=n - i))
  intro a b ha hb hlt h
  have hia:i≤a:=(List.mem_range'_1.1 ha).1
  simp only [decide_eq_false_iff_not] at h ⊢
  have:=hmono i a hia
  have:=hmono a b (by omega)
  omega
 ·intro k hk h
  obtain ⟨hik,hkn⟩:=List.mem_range'_1.1 hk
  simp only [decide_eq_false_iff_not] at h
  unfold bgR
  rw [List.map_eq_nil_iff,List.filter_eq_nil_iff]
  intro l hl
  obtain ⟨h1,hlm⟩:=List.mem_range'_1.1 hl
  simp only [decide_eq_true_eq]
  rintro ⟨h2,h3⟩
  have:=hle k l (by omega) h1 (by omega) h2
  have:=hmono i k hik
  omega
set_option maxRecDepth 100000 in
theorem begins_ok {a b:Sh} {s i j:Int} {f:Nat→Nat→Int}:Fun FB md 26 [.rp (pC a b s f) 0,.int .i64 i,.int .i64 j] (.fn 47 [.rp [.int .i64 i] 0,.rp [.rp (pC a b s f) 0] 0,.rp [.int .i64 j] 0]):=by
 have hvw:∀ h,bget h 0=some (.blk [.rp (pC a b s f) 0] false)→bget h 1=some (.blk [.int .i64 i] false)→bget h 2=some (.blk [.int .i64 j] false)→Vw h depth (.fn 47 [.ref 1 1 0,.ref 0 1 0,.ref 2 1 0]) (.fn 47 [.rp [.int .i64 i] 0,.rp [.rp (pC a b s f) 0] 0,.rp [.int .i64 j] 0]):=fun h h0 h1 h2 =>
  Vw.fn (d:=63) (VwL.cons (Vw.ref (d:=62) h1 rfl rfl (VwL.cons (d:=62) (Vw.int rfl) VwL.nil)) (VwL.cons (Vw.ref (d:=62) h0 rfl rfl (VwL.cons (d:=62) ⟨rfl⟩ VwL.nil)) (VwL.cons (Vw.ref (d:=62) h2 rfl rfl (VwL.cons (d:=62) (Vw.int rfl) VwL.nil)) VwL.nil)))
 refine fun_of rfl rfl ?_
 repeat' (first
 | (conv=>whnf)
   first
   | refine hvw _ rfl rfl rfl
   | refine Get.mk _ rfl ?_
   | refine Leaves.of ?_
   | (refine Req.mk ?_ ?_;(focus first | rfl | decide | exact ⟨rfl,rfl⟩ | exact ⟨rfl,by decide⟩ | exact (fun _=>rfl) | exact (fun h=>nomatch h) | (simp;done) | omega | (simp [big];done) | exact le_big (by omega) | exact lt_big (by omega))))
end Go.Dr.T
namespace Go.Dr.T
theorem openT_eq {x y:El} {s:Int} (i j:Nat):openT x y s i j=wT x.l y.l s (-1) 0 i j:=by
 unfold openT mixT zT
 by_cases h:i<x.l.length∧j<y.l.length
 ·rw [if_pos (by omega)]
 ·rw [if_neg (by omega)]
  by_cases h2:i<x.l.length
  ·rw [wT_end2 (by omega)]
  ·rw [wT_end1 (by omega)]
theorem openT_rng {x y:El} {s:Int} (ha:shOk x.l) (hb:shOk y.l) (i j:Nat):0≤openT x y s i j∧openT x y s i j≤8000000:=by
 rw [openT_eq];exact wT_rng ha hb i j
theorem wT_cell {a b:List (Int × Int)} {s:Int} (ha:shOk a) (hb:shOk b) {i j:Nat} (hi:i<a.length) (hj:j<b.length):wT a b s (-1) 0 i j=if 0<shA a b s i j then max (max (wT a b s (-1) 0 (i+1) j) (wT a b s (-1) 0 i (j+1))) (shA a b s i j+wT a b s (-1) 0 (i+1) (j+1)) else max (wT a b s (-1) 0 (i+1) j) (wT a b s (-1) 0 i (j+1)):=by
 have e:shA a b s i j=shr s a[i] b[j]:=by
  unfold shA;rw [List.getD_eq_getElem?_getD,List.getElem?_eq_getElem hi,List.getD_eq_getElem?_getD,List.getElem?_eq_getElem hj];rfl
 rw [wT_step (List.getElem?_eq_getElem hi) (List.getElem?_eq_getElem hj),e]
 by_cases h:0<shr s a[i] b[j]
 ·rw [if_pos ⟨h,by omega⟩,if_pos h]
 ·rw [if_neg (fun q=>h q.1),if_neg h]
theorem wT_down {a b:List (Int × Int)} {s:Int} (ha:shOk a) (hb:shOk b) (i j:Nat):wT a b s (-1) 0 (i+1) j≤wT a b s (-1) 0 i j:=by
 by_cases hi:i<a.length
 ·by_cases hj:j<b.length
  ·rw [wT_cell ha hb hi hj];split <;> omega
  ·rw [wT_end2 (by omega),wT_end2 (by omega)];exact Int.le_refl _
 ·rw [wT_end1 (by omega),wT_end1 (by omega)];exact Int.le_refl _
theorem wT_right {a b:List (Int × Int)} {s:Int} (ha:shOk a) (hb:shOk b) (i j:Nat):wT a b s (-1) 0 i (j+1)≤wT a b s (-1) 0 i j:=by
 by_cases hi:i<a.length
 ·by_cases hj:j<b.length
  ·rw [wT_cell ha hb hi hj];split <;> omega
  ·rw [wT_end2 (by omega),wT_end2 (by omega)];exact Int.le_refl _
 ·rw [wT_end1 (by omega),wT_end1 (by omega)];exact Int.le_refl _
theorem wT_mono1 {a b:List (Int × Int)} {s:Int} (ha:shOk a) (hb:shOk b) {j:Nat}:∀ (k k' : Nat),k≤k' → wT a b s (-1) 0 k' j≤wT a b s (-1) 0 k j:=by
 intro k k' h
 obtain ⟨d,rfl⟩:=Nat.le.dest h
 induction d with
 | zero=>exact Int.le_refl _
 | succ d ih=>exact Int.le_trans (wT_down ha hb (k+d) j) (ih (by omega))
theorem wT_mono2 {a b:List (Int × Int)} {s:Int} (ha:shOk a) (hb:shOk b) {i:Nat}:∀ (k k' : Nat),k≤k' → wT a b s (-1) 0 i k' ≤ wT a b s (-1) 0 i k:=by
 intro k k' h
 obtain ⟨d,rfl⟩:=Nat.le.dest h
 induction d with
 | zero=>exact Int.le_refl _
 | succ d ih=>exact Int.le_trans (wT_right ha hb i (k+d)) (ih (by omega))
theorem wT_take {a b:List (Int × Int)} {s:Int} (ha:shOk a) (hb:shOk b) {k l:Nat} (hk:k<a.length) (hl:l<b.length) (h:0<shA a b s k l):shA a b s k l+wT a b s (-1) 0 (k+1) (l+1)≤wT a b s (-1) 0 k l:=by
 rw [wT_cell ha hb hk hl,if_pos h];omega
theorem begins_same {x y:El} {s:Int} (ha:shOk x.l) (hb:shOk y.l) (i j:Nat):bgs (shA x.l y.l s) (openT x y s) x.l.length y.l.length i j=bgA (shA x.l y.l s) (openT x y s) x.l.length y.l.length i j:=by
 refine bgs_eq (fun k k' h => ?_) (fun k l hk hj hl h => ?_)
 ·rw [openT_eq,openT_eq];exact wT_mono1 ha hb k k' h
 ·rw [openT_eq,openT_eq]
  exact Int.le_trans (wT_take ha hb hk hl h) (wT_mono2 ha hb j l hj)
def cvT (S W:Nat→Nat→Int) (n m:Nat) (T:Nat→Nat→Int) (i j:Nat):Int :=
 if W i j=0 then 1 else (bgs S W n m i j).foldl (fun c p=>min 1000000 (c+T (p.1+1) (p.2+1))) 0
def cRow (S W:Nat→Nat→Int) (n m i:Nat):Nat→(Nat→Nat→Int)→(Nat→Nat→Int)
 | 0,T=>T
 | l+1,T=>cRow S W n m i l (upT T i l (cvT S W n m T i l))
def cAll (S W:Nat→Nat→Int) (n m:Nat):Nat→(Nat→Nat→Int)→(Nat→Nat→Int)
 | 0,T=>T
 | k+1,T=>cAll S W n m k (cRow S W n m k (m+1) T)
def bestV2 (x y:El) (s:Int):V :=
 if openE x y s≠0 then .tup [.int .i64 0,.int .i64 0,.int .i64 (openE x y s)] else
 .tup [.int .i64 (openT x y s 0 0),.int .i64 (cAll (shA x.l y.l s) (openT x y s) x.l.length y.l.length (x.l.length+1) zT 0 0),.int .i64 0]
end Go.Dr.T
namespace Go.Dr.T
theorem shr_slack {s s' : Int} {x y:Int × Int} (h:s≤s') (hx:1≤x.2∧x.2≤200000) (hy:1≤y.2∧y.2≤200000):shr s x y≤shr s' x y:=by
 have h0:=shr_rng (s:=s') hx hy
 obtain ⟨m,n⟩:=x
 obtain ⟨m', n'⟩:=y
 by_cases hc:s<max n n' - min n n'
 ·rw [shr_case,if_pos hc];exact h0.1
 ·rw [shr_case (s:=s),shr_case (s:=s'),if_neg hc,if_neg (show ¬ s' < max n n' - min n n' by omega)];exact Int.le_refl _
theorem shr_min {s:Int} {x y:Int × Int} (hx:1≤x.2∧x.2≤200000) (hy:1≤y.2∧y.2≤200000):shr s x y≤x.2∧shr s x y≤y.2:=by
 obtain ⟨m,n⟩:=x
 obtain ⟨m', n'⟩:=y
 rw [shr_case]
 dsimp only at hx hy ⊢
 split
 ·omega
 ·split
  ·omega
  ·split <;> omega
def frOk (l:List (Int × Int)):Prop:=∀ p∈l,1≤p.2∧p.2≤200000
theorem shOk.fr {l:List (Int × Int)} (h:shOk l):frOk l:=fun p hp=>⟨(h.2 p hp).2.2.1,(h.2 p hp).2.2.2⟩
theorem shA_at {a b:List (Int × Int)} {s:Int} {i j:Nat} (hi:i<a.length) (hj:j<b.length):shA a b s i j=shr s a[i] b[j]:=by
 unfold shA;rw [List.getD_eq_getElem?_getD,List.getElem?_eq_getElem hi,List.getD_eq_getElem?_getD,List.getElem?_eq_getElem hj];rfl
theorem wN_T {a b:List (Int × Int)} {s:Int} {k l:Nat}:wN a b s (-1) 0 (k+1) (l+1) =
  (if 0<shA a b s (a.length - (k+1)) (b.length - (l+1)) then max (max (wN a b s (-1) 0 k (l+1)) (wN a b s (-1) 0 (k+1) l)) (shA a b s (a.length - (k+1)) (b.length - (l+1))+wN a b s (-1) 0 k l) else max (wN a b s (-1) 0 k (l+1)) (wN a b s (-1) 0 (k+1) l)):=by
 rw [wN_S]
 dsimp only
 by_cases h:0<shA a b s (a.length - (k+1)) (b.length - (l+1))
 ·rw [if_pos h,if_pos ⟨h,fun q=>by omega⟩]
 ·rw [if_neg h,if_neg (fun q=>h q.1)]
theorem wN_S0 {a b:List (Int × Int)} {s bi bj:Int} {k:Nat}:wN a b s bi bj (k+1) 0=0:=rfl
theorem wN_slack {a b:List (Int × Int)} {s s' : Int} (h:s≤s') (ha:frOk a) (hb:frOk b):∀ k l,k≤a.length→l≤b.length→wN a b s (-1) 0 k l≤wN a b s' (-1) 0 k l:=by
 intro k
 induction k with
 | zero=>intro l _ _;exact Int.le_refl _
 | succ k ihk =>
  intro l
  induction l with
  | zero=>intro _ _;exact Int.le_refl _
  | succ l ihl =>
   intro hk hl
   have i1:=ihk (l+1) (by omega) hl
   have i2:=ihl hk (by omega)
   have i3:=ihk l (by omega) (by omega)
   have e1:shA a b s (a.length - (k+1)) (b.length - (l+1))≤shA a b s' (a.length - (k+1)) (b.length - (l+1)):=by
    rw [shA_at (by omega) (by omega),shA_at (by omega) (by omega)]
    exact shr_slack h (ha _ (List.getElem_mem _)) (hb _ (List.getElem_mem _))
   rw [wN_T,wN_T]
   generalize shA a b s (a.length - (k+1)) (b.length - (l+1))=u at *
   generalize shA a b s' (a.length - (k+1)) (b.length - (l+1))=v at *
   split <;> split <;> omega
def frS:List (Int × Int)→Int
 | []=>0
 | p :: l=>p.2+frS l
theorem frS_append:∀ {l m:List (Int × Int)},frS (l++m)=frS l+frS m
 | [],m=>by simp [frS]
 | p :: l,m=>by simp only [List.cons_append,frS,frS_append (l:=l)];omega
theorem frS_drop {l:List (Int × Int)} {k:Nat} (h:k+1≤l.length):frS (l.drop (l.length - (k+1)))=(l[l.length - (k+1)]'(by omega)).2+frS (l.drop (l.length - k)):=by
 rw [List.drop_eq_getElem_cons (by omega),frS,show l.length - (k+1)+1=l.length - k by omega]
theorem frS_pos {l:List (Int × Int)} (h:frOk l):0≤frS l∧frS l≤200000 * l.length:=by
 induction l with
 | nil=>simp [frS]
 | cons p l ih =>
  have:=ih fun q hq=>h q (by simp [hq])
  have:=h p (by simp)
  simp only [frS,List.length_cons]
  omega
theorem frOk.drop {l:List (Int × Int)} {n:Nat} (h:frOk l):frOk (l.drop n):=fun p hp=>h p (List.mem_of_mem_drop hp)
theorem wN_low {a b:List (Int × Int)} {s:Int}:∀ k l,0≤wN a b s (-1) 0 k l:=by
 intro k
 induction k with
 | zero=>intro l;exact Int.le_refl _
 | succ k ihk =>
  intro l
  induction l with
  | zero=>exact Int.le_refl _
  | succ l ihl =>
   have i1:=ihk (l+1)
   rw [wN_T]
   split <;> omega
theorem wN_left {a b:List (Int × Int)} {s:Int} (ha:frOk a) (hb:frOk b):∀ k l,k≤a.length→l≤b.length→wN a b s (-1) 0 k l≤frS (a.drop (a.length - k)):=by
 intro k
 induction k with
 | zero=>intro l _ _;rw [Nat.sub_zero,List.drop_length];exact Int.le_refl _
 | succ k ihk =>
  intro l
  induction l with
  | zero=>intro _ _;rw [wN_S0];exact (frS_pos ha.drop).1
  | succ l ihl =>
   intro hk hl
   have i1:=ihk (l+1) (by omega) hl
   have i2:=ihl hk (by omega)
   have i3:=ihk l (by omega) (by omega)
   rw [frS_drop hk] at i2 ⊢
   have e1:=(shr_min (s:=s) (ha _ (List.getElem_mem (show a.length - (k+1)<a.length by omega))) (hb _ (List.getElem_mem (show b.length - (l+1)<b.length by omega)))).1
   have e2:=ha _ (List.getElem_mem (show a.length - (k+1)<a.length by omega))
   rw [wN_T,shA_at (by omega) (by omega)]
   split <;> omega
theorem wN_right {a b:List (Int × Int)} {s:Int} (ha:frOk a) (hb:frOk b):∀ k l,k≤a.length→l≤b.length→wN a b s (-1) 0 k l≤frS (b.drop (b.length - l)):=by
 intro k
 induction k with
 | zero=>intro l _ _;rw [wN_0];exact (frS_pos hb.drop).1
 | succ k ihk =>
  intro l
  induction l with
  | zero=>intro _ _;rw [wN_S0];exact (frS_pos hb.drop).1
  | succ l ihl =>
   intro hk hl
   have i1:=ihk (l+1) (by omega) hl
   have i2:=ihl hk (by omega)
   have i3:=ihk l (by omega) (by omega)
   rw [frS_drop hl] at i1 ⊢
   have e1:=(shr_min (s:=s) (ha _ (List.getElem_mem (show a.length - (k+1)<a.length by omega))) (hb _ (List.getElem_mem (show b.length - (l+1)<b.length by omega)))).2
   have e2:=hb _ (List.getElem_mem (show b.length - (l+1)<b.length by omega))
   rw [wN_T,shA_at (by omega) (by omega)]
   split <;> omega
theorem wN_mono {a b:List (Int × Int)} {s:Int} {k l:Nat}:wN a b s (-1) 0 k l≤wN a b s (-1) 0 k (l+1):=by
 cases k with
 | zero=>exact Int.le_refl _
 | succ k=>rw [wN_T];split <;> omega
theorem wN_cons {a b:List (Int × Int)} {p:Int × Int} {s:Int}:∀ k l,k≤a.length→l≤b.length→wN (p :: a) b s (-1) 0 k l=wN a b s (-1) 0 k l:=by
 intro k
 induction k with
 | zero=>intro l _ _;rfl
 | succ k ihk =>
  intro l
  induction l with
  | zero=>intro _ _;rfl
  | succ l ihl =>
   intro hk hl
   have e1:shA (p :: a) b s ((p :: a).length - (k+1)) (b.length - (l+1))=shA a b s (a.length - (k+1)) (b.length - (l+1)):=by
    unfold shA
    rw [show (p :: a).length - (k+1)=a.length - (k+1)+1 by simp only [List.length_cons];omega]
    rfl
   rw [wN_T,wN_T,e1,ihk (l+1) (by omega) hl,ihl hk (by omega),ihk l (by omega) (by omega)]
theorem wN_front {a b:List (Int × Int)} {p:Int × Int} {s:Int} (hp:1≤p.2∧p.2≤200000) (hb:frOk b):∀ l,l≤b.length→wN a b s (-1) 0 a.length l≤wN (p :: a) b s (-1) 0 (a.length+1) l∧wN (p :: a) b s (-1) 0 (a.length+1) l≤wN a b s (-1) 0 a.length l+p.2:=by
 intro l
 induction l with
 | zero=>intro _;rw [wN_S0,wN_1];omega
 | succ l ih =>
  intro hl
  have i:=ih (by omega)
  have m:=wN_mono (a:=a) (b:=b) (s:=s) (k:=a.length) (l:=l)
  have e:shA (p :: a) b s ((p :: a).length - (a.length+1)) (b.length - (l+1))≤p.2:=by
   rw [show (p :: a).length - (a.length+1)=0 by simp,shA_at (by simp) (by omega)]
   exact (shr_min (x:=p) hp (hb _ (List.getElem_mem _))).1
  rw [wN_T,wN_cons _ _ (Nat.le_refl _) hl,wN_cons _ _ (Nat.le_refl _) (by omega)]
  generalize shA (p :: a) b s ((p :: a).length - (a.length+1)) (b.length - (l+1))=u at *
  split <;> omega
theorem wN_end {a b:List (Int × Int)} {p:Int × Int} {s:Int} (hp:1≤p.2∧p.2≤200000) (ha:frOk a) (hb:frOk b):∀ k l,k≤a.length→l≤b.length→wN a b s (-1) 0 k l≤wN (a++[p]) b s (-1) 0 (k+1) l∧wN (a++[p]) b s (-1) 0 (k+1) l≤wN a b s (-1) 0 k l+p.2:=by
 have hap:frOk (a++[p]):=fun q hq=>by
  rcases List.mem_append.1 hq with h | h
  ·exact ha q h
  ·simp only [List.mem_singleton] at h;subst h;exact hp
 intro k
 induction k with
 | zero =>
  intro l _ hl
  have h1:=wN_left (s:=s) hap hb 1 l (by simp) hl
  have e:(a++[p]).drop ((a++[p]).length - 1)=[p]:=by simp
  rw [e] at h1
  have h2:=wN_low (a:=a++[p]) (b:=b) (s:=s) 1 l
  rw [wN_0]
  simp only [frS] at h1
  show _≤wN (a++[p]) b s (-1) 0 1 l∧wN (a++[p]) b s (-1) 0 1 l≤_
  omega
 | succ k ihk =>
  intro l
  induction l with
  | zero=>intro _ _;rw [wN_S0,wN_S0];omega
  | succ l ihl =>
   intro hk hl
   have i1:=ihk (l+1) (by omega) hl
   have i2:=ihl hk (by omega)
   have i3:=ihk l (by omega) (by omega)
   have e1:shA (a++[p]) b s ((a++[p]).length - (k+1+1)) (b.length - (l+1))=shA a b s (a.length - (k+1)) (b.length - (l+1)):=by
    rw [shA_at (by simp;omega) (by omega),shA_at (by omega) (by omega)]
    congr 1
    rw [List.getElem_append_left (by simp;omega)]
    congr 1
    simp
   rw [wN_T,wN_T,e1]
   generalize shA a b s (a.length - (k+1)) (b.length - (l+1))=u at *
   split <;> omega
theorem openT_00 {x y:El} {s:Int}:openT x y s 0 0=wN x.l y.l s (-1) 0 x.l.length y.l.length:=by rw [openT_eq];rfl
end Go.Dr.T
