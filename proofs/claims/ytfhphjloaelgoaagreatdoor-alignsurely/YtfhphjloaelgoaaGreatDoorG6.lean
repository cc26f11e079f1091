/- Chapter 06: the pairs with which a best alignment begins; their iterator. -/
import Derived.Test.YtfhphjloaelgoaaGreatDoorG5
import Derived.Test.YtfhphjloaelgoaaGreatDoorG3
import Derived.Test.YtfhphjloaelgoaaGreatDoorDrJ
namespace Go.Dr.T
def bgR (S W:Nat→Nat→Int) (m:Nat) (v:Int) (l k:Nat):List (Nat × Nat):=((List.range' l (m - l)).filter fun l=>decide (0<S k l∧S k l+W (k+1) (l+1)=v)).map fun l=>(k,l)
def bgF (S W:Nat→Nat→Int) (n m:Nat) (v:Int) (j k:Nat):List (Nat × Nat):=((List.range' k (n - k)).takeWhile fun k=>decide (W k j=v)).flatMap (bgR S W m v j)
def bgs (S W:Nat→Nat→Int) (n m i j:Nat):List (Nat × Nat):=bgF S W n m (W i j) j i
def bgA (S W:Nat→Nat→Int) (n m i j:Nat):List (Nat × Nat):=(List.range' i (n - i)).flatMap (bgR S W m (W i j) j)
theorem bgR_end {S W:Nat→Nat→Int} {m:Nat} {v:Int} {l k:Nat} (h:m≤l):bgR S W m v l k=[]:=by
 unfold bgR;rw [show m - l=0 by omega];rfl
theorem bgR_step {S W:Nat→Nat→Int} {m:Nat} {v:Int} {l k:Nat} (h:l<m):bgR S W m v l k=if 0<S k l∧S k l+W (k+1) (l+1)=v then (k,l) :: bgR S W m v (l+1) k else bgR S W m v (l+1) k:=by
 unfold bgR
 rw [show m - l=(m - (l+1))+1 by omega,List.range'_succ,List.filter_cons]
 by_cases hc:0<S k l∧S k l+W (k+1) (l+1)=v
 ·simp only [hc,and_self,decide_true,if_true,List.map_cons]
 ·simp only [hc,decide_false,if_false,Bool.false_eq_true]
theorem bgF_end {S W:Nat→Nat→Int} {n m:Nat} {v:Int} {j k:Nat} (h:¬ (k<n∧W k j=v)):bgF S W n m v j k=[]:=by
 unfold bgF
 by_cases hk:k<n
 ·rw [show n - k=(n - (k+1))+1 by omega,List.range'_succ,List.takeWhile_cons_of_neg (by simpa using fun h2=>h ⟨hk,h2⟩)];rfl
 ·rw [show n - k=0 by omega];rfl
theorem bgF_step {S W:Nat→Nat→Int} {n m:Nat} {v:Int} {j k:Nat} (h:k<n∧W k j=v):bgF S W n m v j k=bgR S W m v j k++bgF S W n m v j (k+1):=by
 unfold bgF
 rw [show n - k=(n - (k+1))+1 by omega,List.range'_succ,List.takeWhile_cons_of_pos (by simpa using h.2),List.flatMap_cons]
theorem takeWhile_flatMap {α β:Type} {p:α→Bool} {g:α→List β}:∀ {l:List α},(l.Pairwise fun a b=>p a=false→p b=false)→(∀ a∈l,p a=false→g a=[])→(l.takeWhile p).flatMap g=l.flatMap g
 | [],_,_=>rfl
 | a :: l,hp,hg=>by
  obtain ⟨h1,h2⟩:=List.pairwise_cons.1 hp
  cases h:p a with
  | true=>rw [List.takeWhile_cons_of_pos h,List.flatMap_cons,List.flatMap_cons,takeWhile_flatMap h2 fun b hb=>hg b (by simp [hb])]
  | false =>
   rw [List.takeWhile_cons_of_neg (by simp [h]),List.flatMap_nil,List.flatMap_cons,hg a (by simp) h,List.nil_append]
   symm
   rw [List.flatMap_eq_nil_iff]
   intro b hb
   exact hg b (by simp [hb]) (h1 b hb h)
theorem bgs_eq {S W:Nat→Nat→Int} {n m i j:Nat} (hmono:∀ k k', k≤k' → W k' j≤W k j) (hle:∀ k l,k<n→j≤l→l<m→0<S k l→S k l+W (k+1) (l+1)≤W k j):bgs S W n m i j=bgA S W n m i j:=by
 unfold bgs bgA bgF
 refine takeWhile_flatMap ?_ ?_
 ·refine List.Pairwise.imp_of_mem ?_ (List.pairwise_lt_range' (s:=i) (n:=n - i))
  intro a b ha hb hlt h
  have hia:i≤a:=(List.mem_range'_1.1 ha).1
  simp only [decide_eq_false_iff_not] at h ⊢
  have:=hmono i a hia
  have:=hmono a b (by omega)
  omega
 ·intro k hk h
  obtain ⟨hik,hkn⟩:=List.mem_range'_1.1 hk
  simp only [decide_eq_false_iff_not] at h
  unfold bgR
  rw [List.map_eq_nil_iff,List.filter_eq_nil_iff]
  intro l hl
  obtain ⟨h1,hlm⟩:=List.mem_range'_1.1 hl
  simp only [decide_eq_true_eq]
  rintro ⟨h2,h3⟩
  have:=hle k l (by omega) h1 (by omega) h2
  have:=hmono i k hik
  omega
set_option maxRecDepth 100000 in
theorem begins_ok {a b:Sh} {s i j:Int} {f:Nat→Nat→Int}:Fun FB md 54 [.rp (pC a b s f) 0,.int .i64 i,.int .i64 j] (.fn 90 [.rp [.int .i64 i] 0,.rp [.rp (pC a b s f) 0] 0,.rp [.int .i64 j] 0]):=by
 have hvw:∀ h,bget h 0=some (.blk [.rp (pC a b s f) 0] false)→bget h 1=some (.blk [.int .i64 i] false)→bget h 2=some (.blk [.int .i64 j] false)→Vw h depth (.fn 90 [.ref 1 1 0,.ref 0 1 0,.ref 2 1 0]) (.fn 90 [.rp [.int .i64 i] 0,.rp [.rp (pC a b s f) 0] 0,.rp [.int .i64 j] 0]):=fun h h0 h1 h2 =>
  Vw.fn (d:=63) (VwL.cons (Vw.ref (d:=62) h1 rfl rfl (VwL.cons (d:=62) (Vw.int rfl) VwL.nil)) (VwL.cons (Vw.ref (d:=62) h0 rfl rfl (VwL.cons (d:=62) ⟨rfl⟩ VwL.nil)) (VwL.cons (Vw.ref (d:=62) h2 rfl rfl (VwL.cons (d:=62) (Vw.int rfl) VwL.nil)) VwL.nil)))
 refine fun_of rfl rfl ?_
 repeat' (first
 | (conv=>whnf)
   first
   | refine hvw _ rfl rfl rfl
   | refine Get.mk _ rfl ?_
   | refine Leaves.of ?_
   | (refine Req.mk ?_ ?_;(focus first | rfl | decide | exact ⟨rfl,rfl⟩ | exact ⟨rfl,by decide⟩ | exact (fun _=>rfl) | exact (fun h=>nomatch h) | (simp;done) | omega | (simp [big];done) | exact le_big (by omega) | exact lt_big (by omega))))
end Go.Dr.T
namespace Go.Dr.T
theorem openT_eq {x y:El} {s:Int} (i j:Nat):openT x y s i j=wT x.l y.l s (-1) 0 i j:=by
 unfold openT mixT zT
 by_cases h:i<x.l.length∧j<y.l.length
 ·rw [if_pos (by omega)]
 ·rw [if_neg (by omega)]
  by_cases h2:i<x.l.length
  ·rw [wT_end2 (by omega)]
  ·rw [wT_end1 (by omega)]
theorem openT_rng {x y:El} {s:Int} (ha:shOk x.l) (hb:shOk y.l) (i j:Nat):0≤openT x y s i j∧openT x y s i j≤8000000:=by
 rw [openT_eq];exact wT_rng ha hb i j
theorem wT_cell {a b:List (Int × Int)} {s:Int} (ha:shOk a) (hb:shOk b) {i j:Nat} (hi:i<a.length) (hj:j<b.length):wT a b s (-1) 0 i j=if 0<shA a b s i j then max (max (wT a b s (-1) 0 (i+1) j) (wT a b s (-1) 0 i (j+1))) (shA a b s i j+wT a b s (-1) 0 (i+1) (j+1)) else max (wT a b s (-1) 0 (i+1) j) (wT a b s (-1) 0 i (j+1)):=by
 have e:shA a b s i j=shr s a[i] b[j]:=by
  unfold shA;rw [List.getD_eq_getElem?_getD,List.getElem?_eq_getElem hi,List.getD_eq_getElem?_getD,List.getElem?_eq_getElem hj];rfl
 rw [wT_step (List.getElem?_eq_getElem hi) (List.getElem?_eq_getElem hj),e]
 by_cases h:0<shr s a[i] b[j]
 ·rw [if_pos ⟨h,by omega⟩,if_pos h]
 ·rw [if_neg (fun q=>h q.1),if_neg h]
theorem wT_down {a b:List (Int × Int)} {s:Int} (ha:shOk a) (hb:shOk b) (i j:Nat):wT a b s (-1) 0 (i+1) j≤wT a b s (-1) 0 i j:=by
 by_cases hi:i<a.length
 ·by_cases hj:j<b.length
  ·rw [wT_cell ha hb hi hj];split <;> omega
  ·rw [wT_end2 (by omega),wT_end2 (by omega)];exact Int.le_refl _
 ·rw [wT_end1 (by omega),wT_end1 (by omega)];exact Int.le_refl _
theorem wT_right {a b:List (Int × Int)} {s:Int} (ha:shOk a) (hb:shOk b) (i j:Nat):wT a b s (-1) 0 i (j+1)≤wT a b s (-1) 0 i j:=by
 by_cases hi:i<a.length
 ·by_cases hj:j<b.length
  ·rw [wT_cell ha hb hi hj];split <;> omega
  ·rw [wT_end2 (by omega),wT_end2 (by omega)];exact Int.le_refl _
 ·rw [wT_end1 (by omega),wT_end1 (by omega)];exact Int.le_refl _
theorem wT_mono1 {a b:List (Int × Int)} {s:Int} (ha:shOk a) (hb:shOk b) {j:Nat}:∀ (k k' : Nat),k≤k' → wT a b s (-1) 0 k' j≤wT a b s (-1) 0 k j:=by
 intro k k' h
 obtain ⟨d,rfl⟩:=Nat.le.dest h
 induction d with
 | zero=>exact Int.le_refl _
 | succ d ih=>exact Int.le_trans (wT_down ha hb (k+d) j) (ih (by omega))
theorem wT_mono2 {a b:List (Int × Int)} {s:Int} (ha:shOk a) (hb:shOk b) {i:Nat}:∀ (k k' : Nat),k≤k' → wT a b s (-1) 0 i k' ≤ wT a b s (-1) 0 i k:=by
 intro k k' h
 obtain ⟨d,rfl⟩:=Nat.le.dest h
 induction d with
 | zero=>exact Int.le_refl _
 | succ d ih=>exact Int.le_trans (wT_right ha hb i (k+d)) (ih (by omega))
theorem wT_take {a b:List (Int × Int)} {s:Int} (ha:shOk a) (hb:shOk b) {k l:Nat} (hk:k<a.length) (hl:l<b.length) (h:0<shA a b s k l):shA a b s k l+wT a b s (-1) 0 (k+1) (l+1)≤wT a b s (-1) 0 k l:=by
 rw [wT_cell ha hb hk hl,if_pos h];omega
theorem begins_same {x y:El} {s:Int} (ha:shOk x.l) (hb:shOk y.l) (i j:Nat):bgs (shA x.l y.l s) (openT x y s) x.l.length y.l.length i j=bgA (shA x.l y.l s) (openT x y s) x.l.length y.l.length i j:=by
 refine bgs_eq (fun k k' h => ?_) (fun k l hk hj hl h => ?_)
 ·rw [openT_eq,openT_eq];exact wT_mono1 ha hb k k' h
 ·rw [openT_eq,openT_eq]
  exact Int.le_trans (wT_take ha hb hk hl h) (wT_mono2 ha hb j l hj)
def cvT (S W:Nat→Nat→Int) (n m:Nat) (T:Nat→Nat→Int) (i j:Nat):Int :=
 if W i j=0 then 1 else (bgs S W n m i j).foldl (fun c p=>min 1000000 (c+T (p.1+1) (p.2+1))) 0
def cRow (S W:Nat→Nat→Int) (n m i:Nat):Nat→(Nat→Nat→Int)→(Nat→Nat→Int)
 | 0,T=>T
 | l+1,T=>cRow S W n m i l (upT T i l (cvT S W n m T i l))
def cAll (S W:Nat→Nat→Int) (n m:Nat):Nat→(Nat→Nat→Int)→(Nat→Nat→Int)
 | 0,T=>T
 | k+1,T=>cAll S W n m k (cRow S W n m k (m+1) T)
def bestV2 (x y:El) (s:Int):V :=
 if openE x y s≠0 then .tup [.int .i64 0,.int .i64 0,.int .i64 (openE x y s)] else
 .tup [.int .i64 (openT x y s 0 0),.int .i64 (cAll (shA x.l y.l s) (openT x y s) x.l.length y.l.length (x.l.length+1) zT 0 0),.int .i64 0]
end Go.Dr.T
namespace Go.Dr.T
abbrev elB (x:El):B:=.blk [.str x.nm,.sl x.c x.l.length (shC x.l),.int .i64 x.g] false
set_option maxRecDepth 100000 in
theorem refShare_ok {s:Int} {x y:Int × Int} (hs:0≤s∧s≤200000) (hx:0≤x.1∧x.1≤999∧1≤x.2∧x.2≤200000) (hy:0≤y.1∧y.1≤999∧1≤y.2∧y.2≤200000):Fun FB md 64 [.agg [.int .i64 x.1,.int .i64 x.2],.agg [.int .i64 y.1,.int .i64 y.2],.int .i64 s] (.int .i64 (shr s x y)):=by
 obtain ⟨m,n⟩:=x
 obtain ⟨m', n'⟩:=y
 dsimp only at *
 have hw:IntKind.i64.wrap ((min n n').tdiv 2)=min n n' / 2:=by rw [Int.tdiv_eq_ediv_of_nonneg (by omega)];exact wrap_i64 (by omega) (by omega)
 refine fun_of rfl rfl ?_
 repeat' (first
 | (conv=>whnf)
   first
   | refine Br.t ?_
   | refine Br.f ?_
   | (refine Br.decT ?_ ?_;(focus first | assumption | omega))
   | (refine Br.decF ?_ ?_;(focus first | assumption | omega))
   | refine Br.dec (fun _ => ?_) (fun _ => ?_)
   | refine Br.not ?_
   | (refine Bnd.i64 ?_ ?_ ?_;(focus omega);(focus omega))
   | refine Bnd.any ?_
   | refine Get.mk _ rfl ?_
   | refine Leaves.of ?_
   | refine Vw.int ?_
   | (refine Req.mk ?_ ?_;(focus first | rfl | decide | exact ⟨rfl,rfl⟩ | exact ⟨rfl,by decide⟩ | exact (fun _=>rfl) | exact (fun h=>nomatch h) | (simp;done) | omega | (simp [big];done) | exact le_big (by omega) | exact lt_big (by omega))))
 all_goals rw [shr_case]
 all_goals (try rw [hw])
 all_goals first
  | (rw [if_pos (by omega)];done)
  | (rw [if_neg (by omega),if_pos (by omega)];omega)
  | (rw [if_neg (by omega),if_neg (by omega),if_pos (by omega)];done)
  | (rw [if_neg (by omega),if_neg (by omega),if_neg (by omega)];done)
  | (exfalso;omega)
theorem openE_1 {x y:El} {s:Int} (h:x.e≠0):openE x y s=x.e:=by simp [openE,ckd,h]
theorem openE_2 {x y:El} {s:Int} (h:x.e=0) (h2:y.e≠0):openE x y s=y.e:=by simp [openE,ckd,h,h2]
theorem openE_3 {x y:El} {s:Int} (h:x.e=0) (h2:y.e=0):openE x y s=if outB s 0 200000=true then 7 else 0:=by simp [openE,ckd,h,h2]
set_option maxRecDepth 100000 in
theorem two_ok {x y:El} {s:Int}:Fun FB md 55 [elA' x,elA' y,.int .i64 s] (.int .i64 (openE x y s)):=by
 have h1:Fun FB md 19 [elA' x] (.tup [.int .i64 (ckE x.nm x.l x.g).1,.int .i64 x.e]):=refCheck_ok (nm:=x.nm) (c:=x.c) (l:=x.l) (g:=x.g)
 have h2:Fun FB md 19 [elA' y] (.tup [.int .i64 (ckE y.nm y.l y.g).1,.int .i64 y.e]):=refCheck_ok (nm:=y.nm) (c:=y.c) (l:=y.l) (g:=y.g)
 have h3:=in_ok (n:=s) (lo:=0) (hi:=200000)
 generalize (ckE x.nm x.l x.g).1=ax at *
 generalize (ckE y.nm y.l y.g).1=ay at *
 by_cases hex:x.e=0
 ·by_cases hey:y.e=0
  ·rw [openE_3 hex hey]
   rw [hex] at h1
   rw [hey] at h2
   cases hs:outB s 0 200000 <;> rw [hs] at h3
   all_goals refine fun_of rfl rfl ?_
   all_goals
    repeat' (first
 | (conv=>whnf)
   first
   | refine Br.t ?_
   | refine Br.f ?_
   | refine call_fun rfl rfl h1 (.inl rfl) ?_
   | refine call_fun rfl rfl h2 (.inl rfl) ?_
   | refine call_fun rfl rfl h3 (.inl rfl) ?_
   | refine Get.mk _ rfl ?_
   | refine Leaves.of ?_
   | refine Vw.int ?_
   | (refine Req.mk ?_ ?_;(focus first | rfl | decide | exact ⟨rfl,rfl⟩ | exact ⟨rfl,by decide⟩ | exact (fun _=>rfl) | exact (fun h=>nomatch h) | (simp;done) | omega | (simp [big];done) | exact le_big (by omega) | exact lt_big (by omega))))
   all_goals first | rfl | (exfalso;omega)
  ·rw [openE_2 hex hey]
   rw [hex] at h1
   generalize y.e=ey at *
   refine fun_of rfl rfl ?_
   repeat' (first
 | (conv=>whnf)
   first
   | refine Br.t ?_
   | refine Br.f ?_
   | (refine Br.decF ?_ ?_;(focus first | assumption | omega))
   | refine call_fun rfl rfl h1 (.inl rfl) ?_
   | refine call_fun rfl rfl h2 (.inl rfl) ?_
   | refine Get.mk _ rfl ?_
   | refine Leaves.of ?_
   | refine Vw.int ?_
   | (refine Req.mk ?_ ?_;(focus first | rfl | decide | exact ⟨rfl,rfl⟩ | exact ⟨rfl,by decide⟩ | exact (fun _=>rfl) | exact (fun h=>nomatch h) | (simp;done) | omega | (simp [big];done) | exact le_big (by omega) | exact lt_big (by omega))))
   all_goals first | rfl | (exfalso;omega)
 ·rw [openE_1 hex]
  generalize x.e=ex at *
  refine fun_of rfl rfl ?_
  repeat' (first
 | (conv=>whnf)
   first
   | refine Br.f ?_
   | (refine Br.decF ?_ ?_;(focus first | assumption | omega))
   | refine call_fun rfl rfl h1 (.inl rfl) ?_
   | refine Get.mk _ rfl ?_
   | refine Leaves.of ?_
   | refine Vw.int ?_
   | (refine Req.mk ?_ ?_;(focus first | rfl | decide | exact ⟨rfl,rfl⟩ | exact ⟨rfl,by decide⟩ | exact (fun _=>rfl) | exact (fun h=>nomatch h) | (simp;done) | omega | (simp [big];done) | exact le_big (by omega) | exact lt_big (by omega))))
  all_goals first | rfl | (exfalso;omega)
end Go.Dr.T
namespace Go.Dr.T
def zC:List V:=List.replicate 1681 (.int .i64 0)
def c21z:Fc:=⟨87,3,[.tmp 6,.tmp 7,.tmp 8],.seq (.reg false 2 [⟨some 3,none,0,.bx 0 (.t 0)⟩,⟨some 4,none,0,.bx 1 (.t 1)⟩,⟨some 6,none,0,.mv (.c (.int .i64 0))⟩,⟨some 7,none,4,.mv (.c (.int .i64 0))⟩,⟨some 8,none,12,.mv (.c (.int .i64 0))⟩]) (.seq (.reg false 0 [⟨some 15,none,0,.ld true 3 (.t 3)⟩,⟨some 16,none,0,.ld true 3 (.t 4)⟩,⟨some 17,none,0,.mv (.t 2)⟩,⟨some 18,none,7,.call (.c (.fn 53 [])) [.t 15,.t 16,.t 17]⟩,⟨some 14,none,15,.mv (.t 18)⟩,⟨some 19,none,31,.ex (.t 14) 0⟩,⟨some 20,none,31,.ex (.t 14) 1⟩,⟨some 9,none,63,.mv (.t 19)⟩,⟨some 8,none,255,.mv (.t 20)⟩]) (.seq (.seq (.reg false 0 [⟨some 21,none,0,.mv (.t 8)⟩,⟨some 22,none,1,.bo .neq (.t 21) (.c (.int .i64 0))⟩]) (.cond (.t 22) (.seq (.reg false 0 [⟨some 23,none,0,.mv (.t 8)⟩,⟨some 6,none,0,.mv (.c (.int .i64 0))⟩,⟨some 7,none,2,.mv (.c (.int .i64 0))⟩,⟨some 8,none,7,.mv (.t 23)⟩]) .ret) .skip)) (.seq (.reg false 1 [⟨some 10,none,0,.al 0 zC⟩]) (.seq (.seq (.reg false 1 [⟨some 24,none,0,.fa 1 (.t 3)⟩,⟨some 25,none,1,.ld false 1 (.t 24)⟩,⟨some 26,none,3,.len false (.t 25)⟩,⟨some 11,none,0,.al 0 [.int .i64 0]⟩,⟨none,none,15,.st 1 (.t 11) (.t 26)⟩]) (.block 0 (.loop (.seq (.seq (.reg false 0 [⟨some 27,none,0,.ld false 1 (.t 11)⟩,⟨some 28,none,1,.bo .geq (.t 27) (.c (.int .i64 0))⟩]) (.cond (.t 28) .skip (.exit 0))) (.seq (.block 1 (.seq (.reg false 1 [⟨some 31,none,0,.fa 1 (.t 4)⟩,⟨some 32,none,1,.ld false 1 (.t 31)⟩,⟨some 33,none,3,.len false (.t 32)⟩,⟨some 12,none,0,.al 0 [.int .i64 0]⟩,⟨none,none,15,.st 1 (.t 12) (.t 33)⟩]) (.block 2 (.loop (.seq (.seq (.reg false 0 [⟨some 34,none,0,.ld false 1 (.t 12)⟩,⟨some 35,none,1,.bo .geq (.t 34) (.c (.int .i64 0))⟩]) (.cond (.t 35) .skip (.exit 2))) (.seq (.block 3 (.seq (.seq (.reg true 0 [⟨some 38,none,0,.mv (.t 9)⟩,⟨some 39,none,0,.ld false 1 (.t 11)⟩,⟨some 40,none,0,.ld false 1 (.t 12)⟩,⟨some 41,none,1,.nc (.t 38)⟩,⟨some 42,none,9,.fa 3 (.t 41)⟩,⟨some 43,none,27,.iaa 41 41 (.t 42) (.t 39)⟩,⟨some 44,none,63,.iaa 1 41 (.t 43) (.t 40)⟩,⟨some 45,none,127,.ld false 1 (.t 44)⟩,⟨some 46,none,255,.bo .eql (.t 45) (.c (.int .i64 0))⟩]) (.cond (.t 46) (.seq (.reg true 0 [⟨some 47,none,0,.ld false 1 (.t 11)⟩,⟨some 48,none,0,.ld false 1 (.t 12)⟩,⟨some 49,none,1,.iaa 41 41 (.t 10) (.t 47)⟩,⟨some 50,none,7,.iaa 1 41 (.t 49) (.t 48)⟩,⟨none,none,15,.st 1 (.t 50) (.c (.int .i64 1))⟩]) (.exit 3)) .skip)) (.seq (.reg false 0 [⟨some 51,none,0,.mv (.t 9)⟩,⟨some 52,none,0,.ld false 1 (.t 11)⟩,⟨some 53,none,0,.ld false 1 (.t 12)⟩,⟨some 54,none,7,.call (.c (.fn 54 [])) [.t 51,.t 52,.t 53]⟩]) (.block 4 (.rf (.t 54) [55] (.reg false 1 [⟨some 13,none,0,.al 0 [.int .i64 0,.int .i64 0]⟩,⟨none,none,1,.st 2 (.t 13) (.t 55)⟩]) (.block 5 (.reg true 0 [⟨some 56,none,0,.ld false 1 (.t 11)⟩,⟨some 57,none,0,.ld false 1 (.t 12)⟩,⟨some 58,none,0,.ld false 1 (.t 11)⟩,⟨some 59,none,0,.ld false 1 (.t 12)⟩,⟨some 60,none,4,.iaa 41 41 (.t 10) (.t 58)⟩,⟨some 61,none,28,.iaa 1 41 (.t 60) (.t 59)⟩,⟨some 62,none,60,.ld false 1 (.t 61)⟩,⟨some 63,none,0,.fa 0 (.t 13)⟩,⟨some 64,none,128,.ld false 1 (.t 63)⟩,⟨some 65,none,384,.bo .add (.t 64) (.c (.int .i64 1))⟩,⟨some 66,none,0,.fa 1 (.t 13)⟩,⟨some 67,none,1024,.ld false 1 (.t 66)⟩,⟨some 68,none,3072,.bo .add (.t 67) (.c (.int .i64 1))⟩,⟨some 69,none,896,.iaa 41 41 (.t 10) (.t 65)⟩,⟨some 70,none,16256,.iaa 1 41 (.t 69) (.t 68)⟩,⟨some 71,none,32640,.ld false 1 (.t 70)⟩,⟨some 72,none,65532,.bo .add (.t 62) (.t 71)⟩,⟨some 73,none,131068,.mm false [.c (.int .i64 1000000),.t 72]⟩,⟨some 74,none,1,.iaa 41 41 (.t 10) (.t 56)⟩,⟨some 75,none,524287,.iaa 1 41 (.t 74) (.t 57)⟩,⟨none,none,1048575,.st 1 (.t 75) (.t 73)⟩]))))))) (.seq (.seq (.reg false 0 [⟨some 76,none,0,.ld false 1 (.t 12)⟩]) (.reg false 1 [⟨some 12,none,0,.al 0 [.int .i64 0]⟩,⟨none,none,1,.st 1 (.t 12) (.t 76)⟩])) (.reg false 0 [⟨some 36,none,0,.ld false 1 (.t 12)⟩,⟨some 37,none,1,.bo .sub (.t 36) (.c (.int .i64 1))⟩,⟨none,none,3,.st 1 (.t 12) (.t 37)⟩])))))))) (.seq (.seq (.reg false 0 [⟨some 77,none,0,.ld false 1 (.t 11)⟩]) (.reg false 1 [⟨some 11,none,0,.al 0 [.int .i64 0]⟩,⟨none,none,1,.st 1 (.t 11) (.t 77)⟩])) (.reg false 0 [⟨some 29,none,0,.ld false 1 (.t 11)⟩,⟨some 30,none,1,.bo .sub (.t 29) (.c (.int .i64 1))⟩,⟨none,none,3,.st 1 (.t 11) (.t 30)⟩]))))))) (.seq (.reg true 0 [⟨some 78,none,0,.mv (.t 9)⟩,⟨some 79,none,1,.nc (.t 78)⟩,⟨some 80,none,3,.fa 3 (.t 79)⟩,⟨some 81,none,7,.iaa 41 41 (.t 80) (.c (.int .i64 0))⟩,⟨some 82,none,15,.iaa 1 41 (.t 81) (.c (.int .i64 0))⟩,⟨some 83,none,31,.ld false 1 (.t 82)⟩,⟨some 84,none,0,.iaa 41 41 (.t 10) (.c (.int .i64 0))⟩,⟨some 85,none,64,.iaa 1 41 (.t 84) (.c (.int .i64 0))⟩,⟨some 86,none,192,.ld false 1 (.t 85)⟩,⟨some 6,none,63,.mv (.t 83)⟩,⟨some 7,none,1023,.mv (.t 86)⟩,⟨some 8,none,2047,.mv (.c (.int .i64 0))⟩]) .ret))))),none⟩
theorem c21_eq:FB 21=some c21z:=rfl
theorem cells_ints:∀ {l:List Int} {n:Nat},n<l.length→∃ y,l[n]?=some y∧cellAt (ofInts l) n=some (.int .i64 y)
 | x :: l,0,_=>⟨x,rfl,rfl⟩
 | x :: l,n+1,h=>by
  obtain ⟨y,h1,h2⟩:=cells_ints (l:=l) (n:=n) (by simpa using h)
  exact ⟨y,by simpa using h1,by simpa [ofInts,cellAt] using h2⟩
theorem over_ints:∀ {M:List Int} {i:Nat} {y:Int},over (ofInts M) i [.int .i64 y]=ofInts (M.set i y)
 | [],i,y=>by cases i <;> rfl
 | m :: M,0,y=>by cases M <;> rfl
 | m :: M,i+1,y=>by
  have:=over_ints (M:=M) (i:=i) (y:=y)
  simp only [ofInts,List.map_cons,List.set_cons_succ,over] at this ⊢
  rw [this]
@[irreducible] def tC (f:Nat→Nat→Int):List V:=ofInts (tb f)
theorem tC_eq (f:Nat→Nat→Int):tC f=ofInts (tb f):=by unfold tC;rfl
theorem zC_eq:zC=tC zT:=by rw [tC_eq,tb_zero];rfl
theorem zC_len:zC.length=1681:=List.length_replicate
attribute [irreducible] zC
theorem tC_len {f:Nat→Nat→Int}:(tC f).length=1681:=by rw [tC_eq];simp [ofInts,tb_len]
theorem tC_get {f:Nat→Nat→Int} {i j:Nat} (hi:i<41) (hj:j<41):cellAt (tC f) (0+i * 41+j * 1)=some (.int .i64 (f i j)):=by
 rw [tC_eq,show 0+i * 41+j * 1=i * 41+j by omega]
 obtain ⟨y,h1,h2⟩:=cells_ints (l:=tb f) (n:=i * 41+j) (by rw [tb_len];omega)
 rw [tb_get hi hj] at h1
 cases h1;exact h2
theorem tC_set {f:Nat→Nat→Int} {i j:Nat} {v:Int} (hi:i<41) (hj:j<41):over (tC f) (0+i * 41+j * 1) [.int .i64 v]=tC (upT f i j v):=by
 rw [tC_eq,tC_eq,show 0+i * 41+j * 1=i * 41+j by omega,over_ints,tb_set hi hj]
theorem tC_blo {f:Nat→Nat→Int} (n:Nat):blos n (tC f)=true:=by rw [tC_eq];exact blos_int1 _ _
theorem tC_blk {T:Nat→Nat→Int} {n:Nat}:(B.blk (tC T) false).blo n=true:=tC_blo n
end Go.Dr.T
namespace Go.Dr.T
def lsP (l:List (Int × Int)):V:=if l=[] then .sl true 0 [] else .sl false l.length (shC l)
def idOf:V→Nat
 | .ms _ id _ _ _ _=>id
 | _=>0
theorem shC_appS:∀ {l m:List (Int × Int)},shC (l++m)=shC l++shC m
 | [],m=>rfl
 | p :: l,m=>by simp only [List.cons_append,shC,shC_appS (l:=l)]
theorem lsP_eq (l:List (Int × Int)):∃ c,lsP l = .sl c l.length (shC l):=by
 unfold lsP
 split
 ·rename_i h;subst h;exact ⟨true,rfl⟩
 ·exact ⟨false,rfl⟩
def pI (p:Nat × Nat):Int × Int:=((p.1:Int),(p.2:Int))
end Go.Dr.T
namespace Go.Dr.T
def rowC (m:Nat) (f:Nat→Int):List V:=ofInts ((List.range (m+1)).map f)
def up1 (f:Nat→Int) (j:Nat) (v:Int):Nat→Int:=fun k=>if k=j then v else f k
theorem rowC_len {m:Nat} {f:Nat→Int}:(rowC m f).length=m+1:=by simp [rowC,ofInts]
theorem rowC_get {m j:Nat} {f:Nat→Int} (h:j≤m):cellAt (rowC m f) (0+j * 1)=some (.int .i64 (f j)):=by
 rw [Nat.zero_add,Nat.mul_one]
 obtain ⟨y,h1,h2⟩:=cells_ints (l:=(List.range (m+1)).map f) (n:=j) (by simp;omega)
 have:((List.range (m+1)).map f)[j]?=some (f j):=by simp [show j<m+1 by omega]
 rw [this] at h1
 cases h1
 exact h2
theorem rowC_set {m j:Nat} {f:Nat→Int} {v:Int} (h:j≤m):over (rowC m f) (0+j * 1) [.int .i64 v]=rowC m (up1 f j v):=by
 unfold rowC
 rw [Nat.zero_add,Nat.mul_one,over_ints]
 congr 1
 apply List.ext_getElem?
 intro k
 rw [List.getElem?_set]
 by_cases hk:j=k
 ·subst hk
  simp [up1,show j<m+1 by omega]
 ·rw [if_neg hk]
  by_cases hk2:k<m+1
  ·simp [hk2,up1,show ¬ k=j from fun e=>hk e.symm]
  ·rw [List.getElem?_eq_none (by simp;omega),List.getElem?_eq_none (by simp;omega)]
theorem rowC_zero {m:Nat}:reps (m+1) [.int .i64 0]=rowC m (fun _=>0):=by
 have key:∀ k,reps k [V.int .i64 0]=ofInts (List.replicate k 0):=by
  intro k
  induction k with
  | zero=>rfl
  | succ k ih=>rw [reps,ih];rfl
 unfold rowC
 rw [key]
 congr 1
 rw [List.map_const']
 simp
theorem rowC_blo {m n:Nat} {f:Nat→Int}:(B.blk (rowC m f) true).blo n=true:=rfl
def rowV (m:Nat) (f:Nat→Int):V:=.sl true (m+1) (rowC m f)
def tabV (n m:Nat) (T:Nat→Nat→Int):V:=.sl true (n+1) ((List.range (n+1)).map fun i=>rowV m (T i))
theorem tab_view {h:List B} {d o n m:Nat} {rid:Nat→Nat} {hv:Nat→Bool} {T:Nat→Nat→Int} {c:Bool} (hc:c=true) (ho:bget h o=some (.blk (outC n m rid hv) false)) (hall:∀ i,i≤n→hv i=true) (hr:∀ i,i≤n→bget h (rid i)=some (.blk (rowC m (T i)) true)) :
  VwF h (d+3) (.ms 1 o ((n+1) * 1) 0 (n+1) c) (tabV n m T):=by
 subst hc
 refine VwF.ms (d:=d+2) ho (by rw [outC_len,Nat.mul_one]) (part_all (by rw [outC_len,Nat.mul_one])) ?_
 unfold outC
 refine VwLF.map fun i hi => ?_
 have hi' : i≤n:=by simp at hi;omega
 rw [if_pos (hall i hi')]
 exact VwF.ms (d:=d+1) (hr i hi') (by rw [rowC_len,Nat.mul_one]) (part_all (by rw [rowC_len,Nat.mul_one])) (VwLF.ints _)
theorem rowC_ext {m:Nat} {f g:Nat→Int} (h:∀ j,j≤m→f j=g j):rowC m f=rowC m g:=by
 unfold rowC
 congr 1
 apply List.map_congr_left
 intro k hk
 exact h k (by simp at hk;omega)
theorem up1_same {f:Nat→Int} {j:Nat} {v:Int}:up1 f j v j=v:=by unfold up1;rw [if_pos rfl]
theorem up1_other {f:Nat→Int} {j k:Nat} {v:Int} (h:k≠j):up1 f j v k=f k:=by unfold up1;rw [if_neg h]
theorem up1_two {f:Nat→Int} {j:Nat} {v w:Int}:up1 (up1 f j v) j w=up1 f j w:=by
 funext k
 unfold up1
 split <;> rfl
end Go.Dr.T
