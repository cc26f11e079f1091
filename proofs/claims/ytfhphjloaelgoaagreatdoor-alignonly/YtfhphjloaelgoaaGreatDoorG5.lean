/- Chapter 06: open: the pair of two elements. -/
import Derived.Test.YtfhphjloaelgoaaGreatDoorG4
namespace Go.Dr.T
def zP:List V:=[.nilsl,.nilsl]++List.replicate 1682 (.int .i64 0)
def c53z:Fc:=⟨30,3,[.tmp 6,.tmp 7],.seq (.reg false 2 [⟨some 3,none,0,.bx 0 (.t 0)⟩,⟨some 4,none,0,.bx 1 (.t 1)⟩,⟨some 6,none,0,.mv (.c .nilp)⟩,⟨some 7,none,4,.mv (.c (.int .i64 0))⟩]) (.seq (.seq (.reg false 1 [⟨some 10,none,0,.ld true 3 (.t 3)⟩,⟨some 11,none,0,.ld true 3 (.t 4)⟩,⟨some 12,none,3,.bl 0 3 2 [.str [],.nilsl,.int .i64 0] [(0,3,.t 10),(3,3,.t 11)]⟩,⟨some 13,none,7,.call (.c (.fn 89 [])) [.t 12]⟩,⟨some 8,none,15,.mv (.t 13)⟩]) (.seq (.reg false 0 [⟨some 14,none,0,.mv (.t 8)⟩,⟨some 15,none,1,.bo .neq (.t 14) (.c (.int .i64 0))⟩]) (.cond (.t 15) (.seq (.reg false 0 [⟨some 16,none,0,.mv (.t 8)⟩,⟨some 6,none,0,.mv (.c .nilp)⟩,⟨some 7,none,3,.mv (.t 16)⟩]) .ret) .skip))) (.seq (.seq (.reg false 0 [⟨some 17,none,0,.mv (.t 2)⟩,⟨some 18,none,1,.call (.c (.fn 50 [])) [.t 17,.c (.int .i64 0),.c (.int .i64 200000)]⟩]) (.cond (.t 18) (.seq (.reg false 0 [⟨some 6,none,0,.mv (.c .nilp)⟩,⟨some 7,none,1,.mv (.c (.int .i64 7))⟩]) .ret) .skip)) (.seq (.reg false 1 [⟨some 19,none,0,.fa 1 (.t 3)⟩,⟨some 20,none,1,.ld false 1 (.t 19)⟩,⟨some 21,none,0,.fa 1 (.t 4)⟩,⟨some 22,none,4,.ld false 1 (.t 21)⟩,⟨some 23,none,0,.mv (.t 2)⟩,⟨some 24,none,31,.bd zP [(0,1,.t 20),(1,1,.t 22),(2,1,.t 23)]⟩,⟨some 25,none,63,.bx 0 (.t 24)⟩,⟨some 9,none,127,.mv (.t 25)⟩]) (.seq (.reg false 0 [⟨some 26,none,0,.mv (.t 9)⟩,⟨some 27,none,0,.bd [.int .i64 0,.int .i64 0] [(0,1,.c (.int .i64 (-1)))]⟩,⟨some 28,none,3,.call (.c (.fn 80 [])) [.t 26,.t 27]⟩]) (.seq (.reg false 0 [⟨some 29,none,0,.mv (.t 9)⟩,⟨some 6,none,1,.mv (.t 29)⟩,⟨some 7,none,3,.mv (.c (.int .i64 0))⟩]) .ret))))),none⟩
theorem c53_eq:FB 53=some c53z:=rfl
def El.sh (x:El):Sh:=⟨x.c,x.l⟩
def zT:Nat→Nat→Int:=fun _ _=>0
theorem tb_zero:ofInts (tb zT)=List.replicate 1681 (.int .i64 0):=by
 have key:∀ (n:Nat) (c:V),(List.range n).map (fun _=>c)=List.replicate n c:=fun n c=>by rw [List.map_const'];simp
 unfold tb zT ofInts
 rw [List.map_map]
 exact key 1681 _
theorem fills_zP {tm:List V} {a b:Sh} {s:Int} (h1:(O.t 20).ev tm=a.v) (h2:(O.t 22).ev tm=b.v) (h3:(O.t 23).ev tm = .int .i64 s):fills tm zP [(0,1,.t 20),(1,1,.t 22),(2,1,.t 23)]=some (pC a b s zT):=by
 have e:zP = .nilsl :: .nilsl :: .int .i64 0 :: ofInts (tb zT):=by rw [tb_zero];rfl
 rw [e,pC_eq]
 have hl:(ofInts (tb zT)).length=1681:=by simp [ofInts,tb_len]
 generalize ofInts (tb zT)=T at *
 unfold Sh.v at *
 simp only [fills,h1,h2,h3,V.cells,over,List.length_cons,List.length_nil,hl]
 rfl
attribute [irreducible] zP
theorem fC.mk {l:List V} {K:List V→Prop} (h:K l):fC l K:=fC_eq.2 h
theorem fLv.pC {a b:Sh} {s:Int} {f:Nat→Nat→Int} {K:Nat→Prop} (h:K 1684):fLv (pC a b s f) 0 K:=fLv_eq.2 (by rw [pC_len];exact h)
theorem pC_ones {a b:Sh} {s:Int} {f:Nat→Nat→Int}:ones (pC a b s f)=true:=by
 rw [pC_eq]
 have key:∀ l:List Int,ones (ofInts l)=true:=by
  intro l
  induction l with
  | nil=>rfl
  | cons x l ih=>simp only [ofInts,List.map_cons,ones,Bool.and_eq_true] at ih ⊢; exact ⟨rfl,ih⟩
 simp only [ones,Bool.and_eq_true]
 exact ⟨rfl,rfl,rfl,key _⟩
def openT (x y:El) (s:Int):Nat→Nat→Int:=mixT zT (wT x.l y.l s (-1) 0) x.l.length y.l.length 0 y.l.length
def openE (x y:El) (s:Int):Int:=if ckd [x,y]≠0 then ckd [x,y] else if outB s 0 200000 then 7 else 0
def openV (x y:El) (s:Int):V:=if openE x y s≠0 then .tup [.nilp,.int .i64 (openE x y s)] else .tup [.rp (pC x.sh y.sh s (openT x y s)) 0,.int .i64 0]
theorem shOk_of {x:El} (h:x.e=0):shOk x.l:=by
 obtain ⟨_,_,_,h1,h2⟩:=ck_good h
 refine ⟨h1,fun p hp => ?_⟩
 obtain ⟨i,hi⟩:=List.getElem?_of_mem hp
 obtain ⟨a,b,c,d,_⟩:=h2 i p hi
 exact ⟨a,b,c,d⟩
theorem open_good {x y:El} {s:Int} (h:openE x y s=0):shOk x.l∧shOk y.l∧0≤s∧s≤200000:=by
 unfold openE at h
 split at h
 ·rename_i h1;exact absurd h h1
 ·rename_i h1
  have h1:ckd [x,y]=0:=Classical.not_not.1 h1
  split at h
  ·cases h
  ·rename_i h2
   simp only [outB,Bool.or_eq_true,decide_eq_true_eq,not_or] at h2
   exact ⟨shOk_of (ckd_good h1 x (by simp)),shOk_of (ckd_good h1 y (by simp)),by omega,by omega⟩
theorem wG_bxP {base d k n:Nat} {tm:List V} {h:List B} {a b:Sh} {s:Int} {f:Nat→Nat→Int} {K:List V→List B→Fp→Prop} (hv:(O.t n).ev tm = .agg (pC a b s f)) (hb:bget h (base+k)=some .unborn)
  (hk:fB (bset h (base+k) (.blk (pC a b s f) false)) fun h' => fV (tset tm d (.ref (base+k) 1684 0)) fun tm' => K tm' h' (fpS md base tm (.bx k (.t n)))):wG FB md 0 base tm h (some d) none (.bx k (.t n)) K:=by
 show fC ((O.t n).ev tm).cells _
 rw [hv]
 refine fC.mk ?_
 refine fLv.pC ?_
 refine Req.mk pC_ones ?_
 refine ⟨_,hb,?_⟩
 exact hk
def elA' (x:El):V:=.agg x.v
set_option maxRecDepth 100000 in
set_option maxHeartbeats 20000000 in
theorem open_ok {x y:El} {s:Int}:Fun FB md 53 [elA' x,elA' y,.int .i64 s] (openV x y s):=by
 have hck:=checked_ok (c:=true) (l:=[x,y]) (by simp)
 have hou:=out_ok (n:=s) (lo:=0) (hi:=200000)
 unfold openV
 by_cases he:ckd [x,y]=0
 rotate_left
 ·have e1:openE x y s=ckd [x,y]:=by unfold openE;rw [if_pos he]
  rw [e1,if_pos he]
  generalize ckd [x,y]=e at *
  refine fun_of c53_eq rfl ?_
  repeat' (first
 | (conv=>whnf)
   first
   | (refine Br.decF ?_ ?_;(focus first | assumption | omega))
   | refine Br.not ?_
   | refine call_fun rfl rfl hck (.inl rfl) ?_
   | refine Get.mk _ rfl ?_
   | refine Leaves.of ?_
   | refine Vw.int ?_
   | refine Vw.tup ?_
   | refine VwL.cons ?_ ?_
   | refine VwL.nil
   | (refine Req.mk ?_ ?_;(focus first | rfl | decide | exact ⟨rfl,rfl⟩ | exact ⟨rfl,by decide⟩ | exact (fun _=>rfl) | exact (fun h=>nomatch h) | (simp;done) | omega | (simp [big];done) | exact le_big (by omega) | exact lt_big (by omega))))
  all_goals first | rfl | exact ⟨rfl⟩ | (exfalso;omega)
 rw [he] at hck
 cases hs:outB s 0 200000 with
 | true =>
  have e1:openE x y s=7:=by unfold openE;rw [if_neg (fun h=>h he),hs];rfl
  rw [hs] at hou
  rw [e1,if_pos (by decide)]
  refine fun_of c53_eq rfl ?_
  repeat' (first
 | (conv=>whnf)
   first
   | refine Br.t ?_
   | refine Br.f ?_
   | refine call_fun rfl rfl hck (.inl rfl) ?_
   | refine call_fun rfl rfl hou (.inl rfl) ?_
   | refine Get.mk _ rfl ?_
   | refine Leaves.of ?_
   | refine Vw.int ?_
   | refine Vw.tup ?_
   | refine VwL.cons ?_ ?_
   | refine VwL.nil
   | (refine Req.mk ?_ ?_;(focus first | rfl | decide | exact ⟨rfl,rfl⟩ | exact ⟨rfl,by decide⟩ | exact (fun _=>rfl) | exact (fun h=>nomatch h) | (simp;done) | omega | (simp [big];done) | exact le_big (by omega) | exact lt_big (by omega))))
  all_goals first | rfl | exact ⟨rfl⟩ | (exfalso;omega)
 | false =>
  have e1:openE x y s=0:=by unfold openE;rw [if_neg (fun h=>h he),hs];rfl
  rw [hs] at hou
  obtain ⟨ha,hb,hs1⟩:=open_good e1
  rw [e1,if_neg (by decide)]
  have hvw:∀ h,bget h 3=some (pB x.sh y.sh s (openT x y s))→Vw h depth (.tup [.ref 3 1684 0,.int .i64 0]) (.tup [.rp (pC x.sh y.sh s (openT x y s)) 0,.int .i64 0]):=fun h hb =>
   Vw.tup (d:=63) (VwL.cons (Vw.ref (d:=62) hb pC_len (part_all pC_len) ⟨view_pC⟩) (VwL.cons (Vw.int rfl) VwL.nil))
  refine fun_of c53_eq rfl ?_
  repeat' (first
 | (conv=>whnf)
   first
   | refine Br.f ?_
   | refine call_fun rfl rfl hck (.inl rfl) ?_
   | refine call_fun rfl rfl hou (.inl rfl) ?_
   | refine Get.mk _ (fills_zP (a:=x.sh) (b:=y.sh) (s:=s) rfl rfl rfl) ?_
   | refine Get.mk _ rfl ?_
   | (refine Req.mk ?_ ?_;(focus first | rfl | decide | exact ⟨rfl,rfl⟩ | exact ⟨rfl,by decide⟩ | exact (fun _=>rfl) | exact (fun h=>nomatch h) | (simp;done) | omega | (simp [big];done) | exact le_big (by omega) | exact lt_big (by omega))))
  all_goals refine fC.mk ?_
  simp only [wPut]
  refine fW.mk ?_
  refine fV.mk ?_
  simp only [wOps]
  refine wG_bxP (a:=x.sh) (b:=y.sh) (s:=s) (f:=zT) rfl rfl ?_
  refine fB.mk ?_
  refine fV.mk ?_
  simp only [tset,bset]
  repeat' (first
 | (conv=>whnf)
   first
   | refine hvw _ rfl
   | refine fill_call (a:=x.sh) (b:=y.sh) (g:=zT) ha hb hs1 (fun _ _ _=>rfl) (fun _ _=>rfl) ?_
   | refine Get.mk _ rfl ?_
   | refine Leaves.of ?_)
end Go.Dr.T
namespace Go.Dr.T
def bgR (S W:Nat→Nat→Int) (m:Nat) (v:Int) (l k:Nat):List (Nat × Nat):=((List.range' l (m - l)).filter fun l=>decide (0<S k l∧S k l+W (k+1) (l+1)=v)).map fun l=>(k,l)
def bgF (S W:Nat→Nat→Int) (n m:Nat) (v:Int) (j k:Nat):List (Nat × Nat):=((List.range' k (n - k)).takeWhile fun k=>decide (W k j=v)).flatMap (bgR S W m v j)
def bgs (S W:Nat→Nat→Int) (n m i j:Nat):List (Nat × Nat):=bgF S W n m (W i j) j i
def bgA (S W:Nat→Nat→Int) (n m i j:Nat):List (Nat × Nat):=(List.range' i (n - i)).flatMap (bgR S W m (W i j) j)
theorem bgR_end {S W:Nat→Nat→Int} {m:Nat} {v:Int} {l k:Nat} (h:m≤l):bgR S W m v l k=[]:=by
 unfold bgR;rw [show m - l=0 by omega];rfl
theorem bgR_step {S W:Nat→Nat→Int} {m:Nat} {v:Int} {l k:Nat} (h:l<m):bgR S W m v l k=if 0<S k l∧S k l+W (k+1) (l+1)=v then (k,l) :: bgR S W m v (l+1) k else bgR S W m v (l+1) k:=by
 unfold bgR
 rw [show m - l=(m - (l+1))+1 by omega,List.range'_succ,List.filter_cons]
 by_cases hc:0<S k l∧S k l+W (k+1) (l+1)=v
 ·simp only [hc,and_self,decide_true,if_true,List.map_cons]
 ·simp only [hc,decide_false,if_false,Bool.false_eq_true]
theorem bgF_end {S W:Nat→Nat→Int} {n m:Nat} {v:Int} {j k:Nat} (h:¬ (k<n∧W k j=v)):bgF S W n m v j k=[]:=by
 unfold bgF
 by_cases hk:k<n
 ·rw [show n - k=(n - (k+1))+1 by omega,List.range'_succ,List.takeWhile_cons_of_neg (by simpa using fun h2=>h ⟨hk,h2⟩)];rfl
 ·rw [show n - k=0 by omega];rfl
theorem bgF_step {S W:Nat→Nat→Int} {n m:Nat} {v:Int} {j k:Nat} (h:k<n∧W k j=v):bgF S W n m v j k=bgR S W m v j k++bgF S W n m v j (k+1):=by
 unfold bgF
 rw [show n - k=(n - (k+1))+1 by omega,List.range'_succ,List.takeWhile_cons_of_pos (by simpa using h.2),List.flatMap_cons]
theorem takeWhile_flatMap {α β:Type} {p:α→Bool} {g:α→List β}:∀ {l:List α},(l.Pairwise fun a b=>p a=false→p b=false)→(∀ a∈l,p a=false→g a=[])→(l.takeWhile p).flatMap g=l.flatMap g
 | [],_,_=>rfl
 | a :: l,hp,hg=>by
  obtain ⟨h1,h2⟩:=List.pairwise_cons.1 hp
  cases h:p a with
  | true=>rw [List.takeWhile_cons_of_pos h,List.flatMap_cons,List.flatMap_cons,takeWhile_flatMap h2 fun b hb=>hg b (by simp [hb])]
  | false =>
   rw [List.takeWhile_cons_of_neg (by simp [h]),List.flatMap_nil,List.flatMap_cons,hg a (by simp) h,List.nil_append]
   symm
   rw [List.flatMap_eq_nil_iff]
   intro b hb
   exact hg b (by simp [hb]) (h1 b hb h)
theorem bgs_eq {S W:Nat→Nat→Int} {n m i j:Nat} (hmono:∀ k k', k≤k' → W k' j≤W k j) (hle:∀ k l,k<n→j≤l→l<m→0<S k l→S k l+W (k+1) (l+1)≤W k j):bgs S W n m i j=bgA S W n m i j:=by
 unfold bgs bgA bgF
 refine takeWhile_flatMap ?_ ?_
 ·refine List.Pairwise.imp_of_mem ?_ (List.pairwise_lt_range' (s:=i) (n:=n - i))
  intro a b ha hb hlt h
  have hia:i≤a:=(List.mem_range'_1.1 ha).1
  simp only [decide_eq_false_iff_not] at h ⊢
  have:=hmono i a hia
  have:=hmono a b (by omega)
  omega
 ·intro k hk h
  obtain ⟨hik,hkn⟩:=List.mem_range'_1.1 hk
  simp only [decide_eq_false_iff_not] at h
  unfold bgR
  rw [List.map_eq_nil_iff,List.filter_eq_nil_iff]
  intro l hl
  obtain ⟨h1,hlm⟩:=List.mem_range'_1.1 hl
  simp only [decide_eq_true_eq]
  rintro ⟨h2,h3⟩
  have:=hle k l (by omega) h1 (by omega) h2
  have:=hmono i k hik
  omega
set_option maxRecDepth 100000 in
theorem begins_ok {a b:Sh} {s i j:Int} {f:Nat→Nat→Int}:Fun FB md 54 [.rp (pC a b s f) 0,.int .i64 i,.int .i64 j] (.fn 90 [.rp [.int .i64 i] 0,.rp [.rp (pC a b s f) 0] 0,.rp [.int .i64 j] 0]):=by
 have hvw:∀ h,bget h 0=some (.blk [.rp (pC a b s f) 0] false)→bget h 1=some (.blk [.int .i64 i] false)→bget h 2=some (.blk [.int .i64 j] false)→Vw h depth (.fn 90 [.ref 1 1 0,.ref 0 1 0,.ref 2 1 0]) (.fn 90 [.rp [.int .i64 i] 0,.rp [.rp (pC a b s f) 0] 0,.rp [.int .i64 j] 0]):=fun h h0 h1 h2 =>
  Vw.fn (d:=63) (VwL.cons (Vw.ref (d:=62) h1 rfl rfl (VwL.cons (d:=62) (Vw.int rfl) VwL.nil)) (VwL.cons (Vw.ref (d:=62) h0 rfl rfl (VwL.cons (d:=62) ⟨rfl⟩ VwL.nil)) (VwL.cons (Vw.ref (d:=62) h2 rfl rfl (VwL.cons (d:=62) (Vw.int rfl) VwL.nil)) VwL.nil)))
 refine fun_of rfl rfl ?_
 repeat' (first
 | (conv=>whnf)
   first
   | refine hvw _ rfl rfl rfl
   | refine Get.mk _ rfl ?_
   | refine Leaves.of ?_
   | (refine Req.mk ?_ ?_;(focus first | rfl | decide | exact ⟨rfl,rfl⟩ | exact ⟨rfl,by decide⟩ | exact (fun _=>rfl) | exact (fun h=>nomatch h) | (simp;done) | omega | (simp [big];done) | exact le_big (by omega) | exact lt_big (by omega))))
end Go.Dr.T
namespace Go.Dr.T
theorem openT_eq {x y:El} {s:Int} (i j:Nat):openT x y s i j=wT x.l y.l s (-1) 0 i j:=by
 unfold openT mixT zT
 by_cases h:i<x.l.length∧j<y.l.length
 ·rw [if_pos (by omega)]
 ·rw [if_neg (by omega)]
  by_cases h2:i<x.l.length
  ·rw [wT_end2 (by omega)]
  ·rw [wT_end1 (by omega)]
theorem openT_rng {x y:El} {s:Int} (ha:shOk x.l) (hb:shOk y.l) (i j:Nat):0≤openT x y s i j∧openT x y s i j≤8000000:=by
 rw [openT_eq];exact wT_rng ha hb i j
theorem wT_cell {a b:List (Int × Int)} {s:Int} (ha:shOk a) (hb:shOk b) {i j:Nat} (hi:i<a.length) (hj:j<b.length):wT a b s (-1) 0 i j=if 0<shA a b s i j then max (max (wT a b s (-1) 0 (i+1) j) (wT a b s (-1) 0 i (j+1))) (shA a b s i j+wT a b s (-1) 0 (i+1) (j+1)) else max (wT a b s (-1) 0 (i+1) j) (wT a b s (-1) 0 i (j+1)):=by
 have e:shA a b s i j=shr s a[i] b[j]:=by
  unfold shA;rw [List.getD_eq_getElem?_getD,List.getElem?_eq_getElem hi,List.getD_eq_getElem?_getD,List.getElem?_eq_getElem hj];rfl
 rw [wT_step (List.getElem?_eq_getElem hi) (List.getElem?_eq_getElem hj),e]
 by_cases h:0<shr s a[i] b[j]
 ·rw [if_pos ⟨h,by omega⟩,if_pos h]
 ·rw [if_neg (fun q=>h q.1),if_neg h]
theorem wT_down {a b:List (Int × Int)} {s:Int} (ha:shOk a) (hb:shOk b) (i j:Nat):wT a b s (-1) 0 (i+1) j≤wT a b s (-1) 0 i j:=by
 by_cases hi:i<a.length
 ·by_cases hj:j<b.length
  ·rw [wT_cell ha hb hi hj];split <;> omega
  ·rw [wT_end2 (by omega),wT_end2 (by omega)];exact Int.le_refl _
 ·rw [wT_end1 (by omega),wT_end1 (by omega)];exact Int.le_refl _
theorem wT_right {a b:List (Int × Int)} {s:Int} (ha:shOk a) (hb:shOk b) (i j:Nat):wT a b s (-1) 0 i (j+1)≤wT a b s (-1) 0 i j:=by
 by_cases hi:i<a.length
 ·by_cases hj:j<b.length
  ·rw [wT_cell ha hb hi hj];split <;> omega
  ·rw [wT_end2 (by omega),wT_end2 (by omega)];exact Int.le_refl _
 ·rw [wT_end1 (by omega),wT_end1 (by omega)];exact Int.le_refl _
theorem wT_mono1 {a b:List (Int × Int)} {s:Int} (ha:shOk a) (hb:shOk b) {j:Nat}:∀ (k k' : Nat),k≤k' → wT a b s (-1) 0 k' j≤wT a b s (-1) 0 k j:=by
 intro k k' h
 obtain ⟨d,rfl⟩:=Nat.le.dest h
 induction d with
 | zero=>exact Int.le_refl _
 | succ d ih=>exact Int.le_trans (wT_down ha hb (k+d) j) (ih (by omega))
theorem wT_mono2 {a b:List (Int × Int)} {s:Int} (ha:shOk a) (hb:shOk b) {i:Nat}:∀ (k k' : Nat),k≤k' → wT a b s (-1) 0 i k' ≤ wT a b s (-1) 0 i k:=by
 intro k k' h
 obtain ⟨d,rfl⟩:=Nat.le.dest h
 induction d with
 | zero=>exact Int.le_refl _
 | succ d ih=>exact Int.le_trans (wT_right ha hb i (k+d)) (ih (by omega))
theorem wT_take {a b:List (Int × Int)} {s:Int} (ha:shOk a) (hb:shOk b) {k l:Nat} (hk:k<a.length) (hl:l<b.length) (h:0<shA a b s k l):shA a b s k l+wT a b s (-1) 0 (k+1) (l+1)≤wT a b s (-1) 0 k l:=by
 rw [wT_cell ha hb hk hl,if_pos h];omega
theorem begins_same {x y:El} {s:Int} (ha:shOk x.l) (hb:shOk y.l) (i j:Nat):bgs (shA x.l y.l s) (openT x y s) x.l.length y.l.length i j=bgA (shA x.l y.l s) (openT x y s) x.l.length y.l.length i j:=by
 refine bgs_eq (fun k k' h => ?_) (fun k l hk hj hl h => ?_)
 ·rw [openT_eq,openT_eq];exact wT_mono1 ha hb k k' h
 ·rw [openT_eq,openT_eq]
  exact Int.le_trans (wT_take ha hb hk hl h) (wT_mono2 ha hb j l hj)
def cvT (S W:Nat→Nat→Int) (n m:Nat) (T:Nat→Nat→Int) (i j:Nat):Int :=
 if W i j=0 then 1 else (bgs S W n m i j).foldl (fun c p=>min 1000000 (c+T (p.1+1) (p.2+1))) 0
def cRow (S W:Nat→Nat→Int) (n m i:Nat):Nat→(Nat→Nat→Int)→(Nat→Nat→Int)
 | 0,T=>T
 | l+1,T=>cRow S W n m i l (upT T i l (cvT S W n m T i l))
def cAll (S W:Nat→Nat→Int) (n m:Nat):Nat→(Nat→Nat→Int)→(Nat→Nat→Int)
 | 0,T=>T
 | k+1,T=>cAll S W n m k (cRow S W n m k (m+1) T)
def bestV2 (x y:El) (s:Int):V :=
 if openE x y s≠0 then .tup [.int .i64 0,.int .i64 0,.int .i64 (openE x y s)] else
 .tup [.int .i64 (openT x y s 0 0),.int .i64 (cAll (shA x.l y.l s) (openT x y s) x.l.length y.l.length (x.l.length+1) zT 0 0),.int .i64 0]
end Go.Dr.T
