/- Chapter 06: heaps and lists of cells: what many texts want. -/
import Derived.Test.YtcjhgcjmomildaaGreatDoorG3
import Derived.Test.YtcjhgcjmomildaaGreatDoorG6
import Derived.Test.YtcjhgcjmomildaaGreatDoorG4
import Derived.Test.YtcjhgcjmomildaaGreatDoorG9
import Derived.Test.YtcjhgcjmomildaaGreatDoorDrJ
namespace Go.Dr.T
theorem cellAt_eq:∀ {l:List V} {n:Nat},cellAt l n=l[n]?
 | [],n=>by cases n <;> rfl
 | _ :: l,0=>rfl
 | _ :: l,n+1=>by simpa [cellAt] using cellAt_eq (l:=l) (n:=n)
def outC (n m:Nat) (rid:Nat→Nat) (hv:Nat→Bool):List V:=(List.range (n+1)).map fun i=>if hv i=true then .ms 1 (rid i) ((m+1) * 1) 0 (m+1) true else .nilsl
theorem outC_len {n m:Nat} {rid:Nat→Nat} {hv:Nat→Bool}:(outC n m rid hv).length=n+1:=by simp [outC]
theorem over_one:∀ {l:List V} {i:Nat} {v:V},over l i [v]=l.set i v
 | [],i,v=>by cases i <;> rfl
 | _ :: l,0,v=>by cases l <;> rfl
 | _ :: l,i+1,v=>by simp only [over,List.set_cons_succ,over_one (l:=l)]
theorem outC_get {n m i:Nat} {rid:Nat→Nat} {hv:Nat→Bool} (h:i≤n) (hi:hv i=true):cellAt (outC n m rid hv) (0+i * 1)=some (.ms 1 (rid i) ((m+1) * 1) 0 (m+1) true):=by
 rw [Nat.zero_add,Nat.mul_one i,cellAt_eq]
 simp [outC,show i<n+1 by omega,hi]
theorem outC_set {n m i:Nat} {rid:Nat→Nat} {hv:Nat→Bool} (h:i≤n):over (outC n m rid hv) (0+i * 1) [.ms 1 (rid i) ((m+1) * 1) 0 (m+1) true]=outC n m rid (fun k=>decide (k=i) || hv k):=by
 unfold outC
 rw [Nat.zero_add,Nat.mul_one i,over_one]
 apply List.ext_getElem?
 intro k
 rw [List.getElem?_set]
 by_cases hk:i=k
 ·subst hk
  simp [show i<n+1 by omega]
 ·rw [if_neg hk]
  by_cases hk2:k<n+1
  ·simp [hk2,show ¬ k=i from fun e=>hk e.symm]
  ·rw [List.getElem?_eq_none (by simp;omega),List.getElem?_eq_none (by simp;omega)]
theorem outC_none {n m:Nat} {rid:Nat→Nat}:reps (n+1) [.nilsl]=outC n m rid (fun _=>false):=by
 have key:∀ k,reps k [V.nilsl]=List.replicate k .nilsl:=by
  intro k
  induction k with
  | zero=>rfl
  | succ k ih=>rw [reps,ih];rfl
 unfold outC
 rw [key]
 simp only [Bool.false_eq_true,if_false]
 rw [List.map_const']
 simp
theorem outC_ext {n m:Nat} {rid:Nat→Nat} {hv hv' : Nat→Bool} (h:∀ k,k≤n→hv k=hv' k):outC n m rid hv=outC n m rid hv' := by
 unfold outC
 apply List.map_congr_left
 intro k hk
 rw [h k (by simp at hk;omega)]
theorem blos_mem {k:Nat}:∀ {l:List V} {v:V},blos k l=true→v∈l→v.blo k=true
 | x :: l,v,h,hm=>by
  simp only [blos,Bool.and_eq_true] at h
  rcases List.mem_cons.1 hm with e | e
  ·subst e;exact h.1
  ·exact blos_mem h.2 e
theorem outC_blo {n m i k:Nat} {rid:Nat→Nat} {hv:Nat→Bool} (h:(B.blk (outC n m rid hv) false).blo k=true) (hi:i≤n) (hh:hv i=true):rid i<k:=by
 simp only [B.blo,Bool.false_or] at h
 have:=blos_mem (v:=.ms 1 (rid i) ((m+1) * 1) 0 (m+1) true) h (by unfold outC;exact List.mem_map.2 ⟨i,by simp;omega,by rw [if_pos hh]⟩)
 simpa [V.blo] using this
theorem blos_of:∀ {k:Nat} {l:List V},(∀ v∈l,v.blo k=true)→blos k l=true
 | k,[],_=>rfl
 | k,x :: l,h=>by simp only [blos,Bool.and_eq_true];exact ⟨h x (by simp),blos_of fun v hv=>h v (by simp [hv])⟩
theorem outC_ok {n m k:Nat} {rid:Nat→Nat} {hv:Nat→Bool} (h:∀ i,i≤n→hv i=true→rid i<k):(B.blk (outC n m rid hv) false).blo k=true:=by
 simp only [B.blo,Bool.false_or]
 refine blos_of fun v hv' => ?_
 unfold outC at hv'
 obtain ⟨i,hi,rfl⟩:=List.mem_map.1 hv'
 split
 ·rename_i hh
  simpa [V.blo] using h i (by simp at hi;omega) hh
 ·rfl
theorem norm_all {mk:List Bool} {n o r:Nat} {tm:List V} {h:List B} {b:B} (hr:h.length=r+1) (hn:n≤r) (ho:o<n) (hb:bget h o=some b) (hv:∀ k,b.blo k=true→r<k):norm mk n ⟨tm,h⟩=⟨masked mk tm,h⟩:=by
 unfold norm trunc
 dsimp only
 obtain ⟨d,hd⟩:∃ d,h.length - n=d+1:=⟨h.length - n - 1,by omega⟩
 rw [hd]
 unfold strip
 rw [show n+d=r by omega]
 have:hbelow r (h.take r)=false:=by
  cases hc:hbelow r (h.take r) with
  | false=>rfl
  | true =>
   have h1:bget (h.take r) o=some b:=by rw [bget_take (by omega)];exact hb
   have hm:b∈h.take r:=by
    have key:∀ {l:List B} {i:Nat} {b:B},bget l i=some b→b∈l:=by
     intro l
     induction l with
     | nil=>intro i b e;cases e
     | cons x l ih =>
      intro i b e
      cases i with
      | zero=>simp only [bget,Option.some.injEq] at e;subst e;simp
      | succ i=>exact List.mem_cons_of_mem _ (ih e)
    exact key h1
   exact absurd (hv r (blo_of_hbelow hc hm)) (Nat.lt_irrefl r)
 rw [this,Bool.and_false]
 rfl
theorem VwLF.ints {h:List B} {d:Nat}:∀ l:List Int,VwLF h (d+1) (ofInts l) (ofInts l)
 | []=>VwLF.nil
 | _ :: l=>VwLF.cons (VwF.int rfl) (VwLF.ints l)
theorem VwLF.map {h:List B} {d:Nat} {α:Type} {f g:α→V}:∀ {l:List α},(∀ x∈l,VwF h d (f x) (g x))→VwLF h d (l.map f) (l.map g)
 | [],_=>VwLF.nil
 | x :: l,h=>VwLF.cons (h x (by simp)) (VwLF.map fun y hy=>h y (by simp [hy]))
def hasc:Nat→List B→Prop
 | _,[]=>True
 | n,b :: l=>b.blo n=true∧hasc (n+1) l
theorem cl_asc:∀ {A H:List B},Cl H→hasc H.length A→Cl (H++A)
 | [],H,c,_=>by rw [List.append_nil];exact c
 | b :: A,H,c,h=>by
  have:=cl_asc (A:=A) (H:=H++[b]) (c.app h.1) (by rw [List.length_append];exact h.2)
  rwa [List.append_assoc] at this
theorem mem_bget:∀ {l:List B} {i:Nat} {b:B},bget l i=some b→b∈l
 | [],_,_,e=>nomatch e
 | x :: l,0,b,e=>by simp only [bget,Option.some.injEq] at e;subst e;simp
 | x :: l,i+1,b,e=>List.mem_cons_of_mem _ (mem_bget e)
theorem norm_with {m:List Bool} {n q r:Nat} {s:St} {b b' : B} (hn:n≤s.h.length) (c:Cl s.h) (hq:bget (norm m n s).h q=some b) (hv:∀ k,b.blo k=true→r<k) (hr:bget s.h r=some b'):bget (norm m n s).h r=some b' := by
 have c' := norm_cl (m:=m) hn c
 have hb:=blo_of_hbelow c' (mem_bget hq)
 have hlt:=hv _ hb
 have e:∃ j,(norm m n s).h=s.h.take j:=by
  obtain ⟨j,_,h2,_⟩:=strip_spec (n:=n) (tm:=masked m s.tm) (k:=s.h.length - n) (h:=s.h) (by omega)
  exact ⟨j,h2⟩
 obtain ⟨j,e⟩:=e
 rw [e] at hlt ⊢
 rw [List.length_take] at hlt
 rw [bget_take (by omega)]
 exact hr
end Go.Dr.T
namespace Go.Dr.T
abbrev elB (x:El):B:=.blk [.str x.nm,.sl x.c x.l.length (shC x.l),.int .i64 x.g] false
theorem openE_1 {x y:El} {s:Int} (h:x.e≠0):openE x y s=x.e:=by simp [openE,ckd,h]
theorem openE_2 {x y:El} {s:Int} (h:x.e=0) (h2:y.e≠0):openE x y s=y.e:=by simp [openE,ckd,h,h2]
theorem openE_3 {x y:El} {s:Int} (h:x.e=0) (h2:y.e=0):openE x y s=if outB s 0 200000=true then 7 else 0:=by simp [openE,ckd,h,h2]
end Go.Dr.T
namespace Go.Dr.T
def lsP (l:List (Int × Int)):V:=if l=[] then .sl true 0 [] else .sl false l.length (shC l)
def idOf:V→Nat
 | .ms _ id _ _ _ _=>id
 | _=>0
theorem shC_appS:∀ {l m:List (Int × Int)},shC (l++m)=shC l++shC m
 | [],m=>rfl
 | p :: l,m=>by simp only [List.cons_append,shC,shC_appS (l:=l)]
theorem lsP_eq (l:List (Int × Int)):∃ c,lsP l = .sl c l.length (shC l):=by
 unfold lsP
 split
 ·rename_i h;subst h;exact ⟨true,rfl⟩
 ·exact ⟨false,rfl⟩
def pI (p:Nat × Nat):Int × Int:=((p.1:Int),(p.2:Int))
end Go.Dr.T
namespace Go.Dr.T
theorem views_shL {h:List B} {d:Nat}:∀ l:List (Int × Int),VwLF h (d+1) (shC l) (shC l)
 | []=>VwLF.nil
 | _ :: l=>VwLF.cons (VwF.int rfl) (VwLF.cons (VwF.int rfl) (views_shL l))
theorem scal_sh:∀ l:List (Int × Int),scalars (shC l)=true
 | []=>rfl
 | _ :: l=>by simp only [shC,scalars,V.scalar,Bool.true_and];exact scal_sh l
set_option maxRecDepth 100000 in
theorem clone_ok {c:Bool} {l:List (Int × Int)} (hl:l.length≤1000) (h0:l.length≠0):FunF FB md 49 [.sl c l.length (shC l)] (.sl false l.length (shC l)):=by
 have hlen:=shC_length l
 have hr:(([]:List V).length+(shC l).length) * (16+1)<big:=by rw [hlen];simp [big];omega
 have hs:true=true→scalars ([]++shC l)=true:=fun _=>scal_sh l
 have hvw:∀ h,bget h 0=some (.blk ([]++shC l) true)→VwF h depth (.ms 2 (0+0) (([]:List V).length+(shC l).length) 0 (0+l.length) false) (.sl false l.length (shC l)):=fun h hb=>by
  show VwF h depth (.ms 2 0 (0+(shC l).length) 0 (0+l.length) false) _
  rw [Nat.zero_add,Nat.zero_add]
  exact VwF.ms (d:=63) (dat:=true) hb (by rw [List.nil_append]) (part_all (by rw [List.nil_append,hlen])) (views_shL (d:=62) l)
 have heq:eqv2 3 (.sl c l.length (shC l)) .nilsl=some false:=by unfold eqv2;simp [h0]
 refine funF_of rfl rfl ?_
 repeat' (first
 | (conv=>whnf)
   first
   | refine hvw _ rfl
   | refine Br.f ?_
   | refine Get.mk _ heq ?_
   | refine Req.mk hlen ?_
   | refine Req.mk hr ?_
   | refine Req.mk hs ?_
   | (refine Ifz.pos ?_ ?_;(focus omega))
   | refine Get.mk _ rfl ?_
   | refine LeavesF.of ?_
   | (refine Req.mk ?_ ?_;(focus first | rfl | decide | exact ⟨rfl,rfl⟩ | exact ⟨rfl,by decide⟩ | exact (fun _=>rfl) | exact (fun h=>nomatch h) | (simp;done) | omega | (simp [big];done) | exact le_big (by omega) | exact lt_big (by omega))))
 all_goals first | (exfalso;omega;done)
theorem clip_ms {id g len ro:Nat} {c:Bool} {h:List B} {K:V→List B→Prop} (hid:id<h.length) (hl:len≤1000) (hk:K (.ms 2 id g 0 len true) h):CallP FB md ro (.fn 50 []) [.ms 2 id g 0 len c] h K:=by
 have hb:(V.ms 2 id g 0 len true).blo h.length=true:=decide_eq_true hid
 have hd:decide (len=len)=true:=decide_eq_true rfl
 refine call_two rfl rfl rfl ?_
 repeat' (first
 | (conv=>whnf)
   first
   | refine fLen.mk ?_
   | refine fB.i0 ?_
   | (refine Idx.nat ?_ ?_;(focus omega))
   | refine Get.mk _ rfl ?_
   | refine Ends.of ?_)
 refine Req.mk ?_ ?_
 ·show (V.ms 2 id g (0+0 * 2) (len - 0) (decide (len=len))).blo h.length=true
  exact hb
 ·show K (V.ms 2 id g 0 len (decide (len=len))) h
  rw [hd];exact hk
theorem clipA_nil {ro:Nat} {h:List B} {K:V→List B→Prop} (hk:K .nilsl h):CallP FB md ro (.fn 50 []) [.nilsl] h K:=by
 refine call_two rfl rfl rfl ?_
 repeat' (first
 | (conv=>whnf)
   first
   | refine fLen.mk ?_
   | refine fB.i0 ?_
   | (refine Idx.int ?_ ?_ ?_;(focus omega);(focus omega))
   | refine Get.mk _ rfl ?_
   | refine Ends.of ?_
   | (refine Req.mk ?_ ?_;(focus first | rfl | decide | exact ⟨rfl,rfl⟩ | exact ⟨rfl,by decide⟩ | exact (fun _=>rfl) | exact (fun h=>nomatch h) | (simp;done) | omega | (simp [big];done) | exact le_big (by omega) | exact lt_big (by omega))))
 exact hk
theorem cloneA_nil {ro:Nat} {h:List B} {K:V→List B→Prop} (hk:K .nilsl h):CallP FB md ro (.fn 49 []) [.nilsl] h K:=by
 refine call_two rfl rfl rfl ?_
 repeat' (first
 | (conv=>whnf)
   first
   | refine Br.t ?_
   | refine fLen.mk ?_
   | refine fB.i0 ?_
   | refine Get.mk _ rfl ?_
   | refine Ends.of ?_
   | (refine Req.mk ?_ ?_;(focus first | rfl | decide | exact ⟨rfl,rfl⟩ | exact ⟨rfl,by decide⟩ | exact (fun _=>rfl) | exact (fun h=>nomatch h) | (simp;done) | omega | (simp [big];done) | exact le_big (by omega) | exact lt_big (by omega))))
 exact hk
set_option maxRecDepth 100000 in
theorem alsn_call {H:List B} {C:List V} {r g n L:Nat} {i j:Int} {K:V→List B→Prop} (hL:H.length=L) (hk:K (.fn 48 [.ref (L+0) 1 0,.ref (L+2) 1 0,.ref (L+3) 1 0,.ref (L+1) 1 0]) (H++[.blk [.rp C 0] false,.blk [.ms 2 r g 0 n false] false,.blk [.int .i64 i] false,.blk [.int .i64 j] false])):CallP FB md 0 (.fn 28 []) [.rp C 0,.ms 2 r g 0 n false,.int .i64 i,.int .i64 j] H K:=by
 have hi4:∀ (h:List B) (K:List B→Prop),(fB (unborns 4) fun r=>K (h++r))→fB (if 4=0 then h else h++unborns 4) K:=fun h K hk=>by rw [if_neg (by decide)];exact fB.tail hk
 have hji:∀ j,L+j=H.length+j:=fun j=>by rw [hL]
 have hT:trunc H.length [.fn 48 [.ref (L+0) 1 0,.ref (L+2) 1 0,.ref (L+3) 1 0,.ref (L+1) 1 0]] (H++[.blk [.rp C 0] false,.blk [.ms 2 r g 0 n false] false,.blk [.int .i64 i] false,.blk [.int .i64 j] false])=H++[.blk [.rp C 0] false,.blk [.ms 2 r g 0 n false] false,.blk [.int .i64 i] false,.blk [.int .i64 j] false]:=by
  unfold trunc
  rw [show (H++[B.blk [.rp C 0] false,.blk [.ms 2 r g 0 n false] false,.blk [.int .i64 i] false,.blk [.int .i64 j] false]).length - H.length=4 by rw [List.length_append];simp]
  unfold strip
  have:blos (H.length+3) [V.fn 48 [.ref (L+0) 1 0,.ref (L+2) 1 0,.ref (L+3) 1 0,.ref (L+1) 1 0]]=false:=by
   simp only [blos,V.blo,hL]
   simp
  rw [this,Bool.false_and]
  rfl
 have hl4:∀ r:List B,(H++r).length=L+r.length:=fun r=>by rw [List.length_append,hL]
 refine call_one rfl rfl rfl ?_
 repeat' (first
 | (conv=>whnf)
   first
   | refine fLen.as hL ?_
   | refine fLen.as (hl4 _) ?_
   | refine hi4 _ _ ?_
   | refine fB.i0 ?_
   | refine Get.newj 0 (hji 0) rfl ?_
   | refine fB.newj 0 (hji 0) ?_
   | refine Get.newj 1 (hji 1) rfl ?_
   | refine fB.newj 1 (hji 1) ?_
   | refine Get.newj 2 (hji 2) rfl ?_
   | refine fB.newj 2 (hji 2) ?_
   | refine Get.newj 3 (hji 3) rfl ?_
   | refine fB.newj 3 (hji 3) ?_
   | refine fB.mk ?_
   | refine Get.mk _ rfl ?_
   | refine Ends.of ?_
   | (refine Req.mk ?_ ?_;(focus first | rfl | decide | exact ⟨rfl,rfl⟩ | exact ⟨rfl,by decide⟩ | exact (fun _=>rfl) | exact (fun h=>nomatch h) | (simp;done) | omega | (simp [big];done) | exact le_big (by omega) | exact lt_big (by omega))))
 all_goals first | (rw [hT];exact hk)
end Go.Dr.T
namespace Go.Dr.T
def prN (p:Nat × Nat):Int × Int:=((p.1:Int),(p.2:Int))
def pvL (l:List (Nat × Nat)):V:=if l=[] then .nilsl else .sl false (l.map prN).length (shC (l.map prN))
def BefOk (Bl:List B) (e:Nat) (bef:List (Nat × Nat)) (q:Nat):Prop :=
 (bef=[]∧bget Bl e=some (.blk [.nilsl] false))∨(bef≠[]∧bget Bl e=some (.blk [.ms 2 q ((bef.map prN).length * 2) 0 (bef.map prN).length false] false)∧bget Bl q=some (.blk (shC (bef.map prN)) true))
theorem views_shC {h:List B} {d:Nat}:∀ l:List (Int × Int),VwL h (d+1) (shC l) (shC l)
 | []=>VwL.nil
 | _ :: l=>VwL.cons (Vw.int rfl) (VwL.cons (Vw.int rfl) (views_shC l))
theorem fB.i1a {h l g:List B} {K:List B→Prop} (hk:fB (l++g) fun r=>K (h++r)):fB (if 1=0 then h++l else (h++l)++g) K:=by
 rw [if_neg (by decide),List.append_assoc];exact fB.tail hk
theorem free_by' {b:Bool} {A:Prop} (h:b=true) (hk:A):(match (generalizing:=false) b with | true=>A | false=>False):=by subst h;exact hk
theorem free_cons {fp q:Fp} {b i:Nat} {l:List (Nat × Fp)} (h:(b.testBit i || fp.free q)=true) (t:freeOf fp b l=true):freeOf fp b ((i,q) :: l)=true:=by
 simp only [freeOf,h,t,Bool.and_self]
theorem free_nil {fp:Fp} {b:Nat}:freeOf fp b []=true:=rfl
theorem hbelow_app {n:Nat}:∀ {h l:List B},hbelow n h=true→hbelow n l=true→hbelow n (h++l)=true
 | [],_,_,h2=>h2
 | b :: h,l,h1,h2=>by
  simp only [hbelow,Bool.and_eq_true,List.cons_append] at h1 ⊢
  exact ⟨h1.1,hbelow_app h1.2 h2⟩
theorem Cl.apps {h l:List B} (c:Cl h) (e:hbelow (h.length+l.length) l=true):Cl (h++l):=by
 unfold Cl at c ⊢
 rw [List.length_append]
 exact hbelow_app (hbelow_mono (Nat.le_add_right _ _) _ c) e
theorem hasc_take:∀ {A:List B} {n k:Nat},hasc n A→hasc n (A.take k)
 | [],_,k,_=>by cases k <;> exact trivial
 | b :: A,n,0,_=>trivial
 | b :: A,n,k+1,h=>⟨h.1,hasc_take h.2⟩
theorem trunc_asc {H A:List B} {n:Nat} (hL:H.length=n) (hc:Cl H) (ha:hasc n A):trunc n [] (H++A)=H:=by
 subst hL
 have key:∀ k,k≤A.length→strip H.length [] k (H++A.take k)=H:=by
  intro k
  induction k with
  | zero=>intro _;simp [strip]
  | succ k ih =>
   intro hk
   unfold strip
   have e:(H++A.take (k+1)).take (H.length+k)=H++A.take k:=by
    rw [List.take_length_add_append,List.take_take]
    congr 2
    omega
   have c:=cl_asc hc (hasc_take (k:=k) ha)
   unfold Cl at c
   rw [List.length_append,List.length_take,Nat.min_eq_left (by omega)] at c
   rw [e,c]
   exact ih (by omega)
 unfold trunc
 rw [List.length_append,Nat.add_sub_cancel_left]
 have:=key A.length (Nat.le_refl _)
 rwa [List.take_length] at this
end Go.Dr.T
