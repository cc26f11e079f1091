/- Chapter 06: gather, walked. -/
import Derived.Test.YtfhphjloaelgoaaGreatDoorG3
namespace Go.Dr.T
structure PE where
 k:Int
 c:Bool
 L:List Int
def Ent.p (e:Ent):PE:=⟨e.k,e.c,e.L⟩
def pUp (F:List PE) (a m:Int):List PE:=F.map fun e=>if e.k=a∧m ∉ e.L then ⟨e.k,false,e.L++[m]⟩ else e
def pCl (F:List PE) (m:Int):List PE:=if m∈F.map (·.k) then F.map fun e=>if e.k=m then ⟨e.k,true,e.L⟩ else e else F++[⟨m,true,[]⟩]
def pStep (s:List PE × Int) (p:Int × Int):List PE × Int:=if p.1=0 then s else (pCl (if 0<s.2 then pUp s.1 s.2 p.1 else s.1) p.1,p.1)
def pEl (F:List PE) (x:El):List PE:=(x.l.foldl pStep (F,0)).1
def pAll (l:List El):List PE:=l.foldl pEl []
def lw (c:Bool):List Int→V
 | []=>.sl true 0 []
 | x :: r=>.sl c (r.length+1) (ofInts (x :: r))
def PE.v (e:PE):V:=lw e.c (isort e.L)
def gatV (F:List PE):V:=.rm (ofInts (F.map (·.k))) (F.map PE.v)
def dupF (pre:List El):List El→Bool
 | []=>false
 | x :: r=>nmE x.nm pre || dupF (pre++[x]) r
def vldE (l:List El):Int:=if 8<l.length then 3 else if ckd l≠0 then ckd l else if dupF [] l then 5 else 0
def gatherV (l:List El):V:=if vldE l≠0 then .tup [.nilmap,.int .i64 (vldE l)] else .tup [gatV (pAll l),.int .i64 0]
theorem clip_ok {id:Nat} {c:Bool} {L:List Int} {h:List B} {ro:Nat} {K:V→List B→Prop} (hb:L≠[]→id+1<h.length) (hl:L.length≤140737488355328) (hk:K (lv id true L) h):CallP FB md ro (.fn 97 []) [lv id c L] h K:=by
 cases L with
 | nil =>
  refine call_two rfl rfl rfl ?_
  repeat' (first
 | (conv=>whnf)
   first
   | refine fLen.mk ?_
   | refine fB.mk ?_
   | (refine Idx.int ?_ ?_ ?_;(focus omega);(focus omega))
   | refine Get.mk _ rfl ?_
   | refine Ends.of ?_
   | (refine Req.mk ?_ ?_;(focus first | rfl | decide | exact ⟨rfl,rfl⟩ | exact ⟨rfl,by decide⟩ | exact (fun _=>rfl) | exact (fun h=>nomatch h) | (simp;done) | omega | (simp [big];done) | exact le_big (by omega) | exact lt_big (by omega))))
  exact hk
 | cons x r =>
  simp only [List.length_cons] at hl
  have hlt:=hb (by simp)
  refine call_two rfl rfl rfl ?_
  have e1:r.length+1 - 0=r.length+1:=rfl
  repeat' (first
 | (conv=>whnf)
   first
   | refine fLen.mk ?_
   | refine fB.mk ?_
   | refine Req.mk (decide_eq_true hlt) ?_
   | (refine Idx.nat ?_ ?_;(focus omega))
   | refine Get.mk _ rfl ?_
   | refine Ends.of ?_)
  simpa [lv] using hk
theorem views_ints {h:List B} {d:Nat}:∀ l:List Int,mapO (V.view h (d+1)) (ofInts l)=some (ofInts l)
 | []=>rfl
 | x :: l=>by
  have:=views_ints (h:=h) (d:=d) l
  simp only [ofInts,List.map_cons,mapO,V.view] at this ⊢
  rw [this]
theorem view_lv {h:List B} {d id:Nat} {c:Bool} {L:List Int} (hb:L≠[]→bget h (id+1)=some (.blk (ofInts L) true)):V.view h (d+2) (lv id c L)=some (lw c L):=by
 cases L with
 | nil=>rfl
 | cons x r =>
  have:=hb (by simp)
  have hl:(ofInts (x :: r)).length=r.length+1:=by simp [ofInts]
  have hp:part (ofInts (x :: r)) 0 ((r.length+1) * 1)=some (ofInts (x :: r)):=part_all (by rw [hl,Nat.mul_one])
  exact (Vw.ms (clip:=c) this hl hp ⟨views_ints _⟩).1
theorem views_lv {x:B} {H G:List B} {id:Nat} {c:Bool} {L:List Int} {m:Int} (hb:L≠[]→bget H id=some (.blk (ofInts L) true)):views (hp x H++G) depth [lv id c L,.int .i64 m]=some [lw c L,.int .i64 m]:=by
 have:=view_lv (h:=hp x H++G) (d:=62) (id:=id) (c:=c) (L:=L) (fun hn=>HP.bget_o (hb hn))
 exact (VwL.cons ⟨this⟩ (VwL.cons (Vw.int rfl) VwL.nil)).1
theorem clip_at {x:B} {H G:List B} {id:Nat} {c:Bool} {L:List Int} {ro:Nat} {K:V→List B→Prop} (hb:L≠[]→id<H.length) (hl:L.length≤140737488355328) (hk:K (lv id true L) (hp x H++G)):CallP FB md ro (.fn 97 []) [lv id c L] (hp x H++G) K :=
 clip_ok (fun hn=>by have:=hb hn;rw [List.length_append,hp_length];omega) hl hk
theorem contains_lw {c:Bool} {L:List Int} {m:Int} (hl:L.length≤140737488355328):Fun FB md 68 [lw c L,.int .i64 m] (.bool (hasB m L)):=by
 cases L with
 | nil=>exact contains_ok (l:=[]) (by simp)
 | cons x r=>exact contains_ok (l:=x :: r) hl
theorem ckF_zero:∀ {l:List (Int × Int)} {k i:Nat},(ckF l i k).2=0→∀ n,i≤n→n<i+k→eF l n=0
 | l,0,i,_,n,h1,h2=>by omega
 | l,k+1,i,h,n,h1,h2=>by
  unfold ckF at h
  by_cases he:eF l i≠0
  ·rw [if_pos he] at h;exact absurd h he
  ·rw [if_neg he] at h
   by_cases hn:n=i
   ·subst hn;exact Classical.not_not.1 he
   ·exact ckF_zero h n (by omega) (by omega)
theorem eF_zero {l:List (Int × Int)} {i:Nat} {p:Int × Int} (hp:l[i]?=some p) (h:eF l i=0):0≤p.1∧p.1≤999∧1≤p.2∧p.2≤200000∧(p.1≠0→p.1 ∉ (l.take i).map (·.1)):=by
 unfold eF at h
 rw [hp] at h
 simp only at h
 split at h
 ·cases h
 ·rename_i h1
  split at h
  ·cases h
  ·rename_i h2
   simp only [outB,Bool.or_eq_true,decide_eq_true_eq,not_or] at h1
   obtain ⟨⟨a,b⟩,c,d⟩:=h1
   refine ⟨by omega,by omega,by omega,by omega,fun hn hm=>h2 ⟨by omega,hm⟩⟩
theorem ck_good {nm:List UInt8} {l:List (Int × Int)} {g:Int} (h:(ckE nm l g).2=0):nmOk nm=true∧0≤g∧g≤9∧l.length≤40∧∀ i p,l[i]?=some p→0≤p.1∧p.1≤999∧1≤p.2∧p.2≤200000∧(p.1≠0→p.1 ∉ (l.take i).map (·.1)):=by
 unfold ckE at h
 split at h
 ·cases h
 ·rename_i h1
  split at h
  ·cases h
  ·rename_i h2
   split at h
   ·cases h
   ·rename_i h3
    simp only [outB,Bool.or_eq_true,decide_eq_true_eq,not_or] at h2
    refine ⟨by simpa using h1,by omega,by omega,by omega,fun i p hp=>eF_zero hp (ckF_zero h i (Nat.zero_le _) ?_)⟩
    rw [Nat.zero_add];exact (List.getElem?_eq_some_iff.1 hp).1
theorem ckd_good {l:List El} (h:ckd l=0):∀ x∈l,x.e=0:=by
 induction l with
 | nil=>simp
 | cons a l ih =>
  unfold ckd at h
  by_cases ha:a.e≠0
  ·rw [if_pos ha] at h;exact absurd h ha
  ·rw [if_neg ha] at h
   intro x hx
   rcases List.mem_cons.1 hx with rfl | hx
   ·exact Classical.not_not.1 ha
   ·exact ih h x hx
theorem known_sub {l:List (Int × Int)} {i:Nat} {m:Int} (h:m∈known (l.take i)):m∈(l.take i).map (·.1):=(List.mem_filter.1 h).1
end Go.Dr.T
namespace Go.Dr.T
def shA (a b:List (Int × Int)) (s:Int) (i j:Nat):Int:=shr s (a.getD i (0,0)) (b.getD j (0,0))
def wR (a b:List (Int × Int)) (s bi bj:Int) (k:Nat) (prev:Nat→Int):Nat→Int
 | 0=>0
 | l+1 =>
  let n:=max (prev (l+1)) (wR a b s bi bj k prev l)
  let v:=shA a b s (a.length - (k+1)) (b.length - (l+1))
  if 0<v∧¬ (bi=((a.length - (k+1):Nat):Int)∧bj=((b.length - (l+1):Nat):Int)) then max n (v+prev l) else n
def wN (a b:List (Int × Int)) (s bi bj:Int):Nat→Nat→Int
 | 0=>fun _=>0
 | k+1=>wR a b s bi bj k (wN a b s bi bj k)
theorem wN_0 {a b:List (Int × Int)} {s bi bj:Int} {l:Nat}:wN a b s bi bj 0 l=0:=rfl
theorem wN_1 {a b:List (Int × Int)} {s bi bj:Int} {k:Nat}:wN a b s bi bj k 0=0:=by cases k <;> rfl
theorem wN_S {a b:List (Int × Int)} {s bi bj:Int} {k l:Nat}:wN a b s bi bj (k+1) (l+1) =
  (let n:=max (wN a b s bi bj k (l+1)) (wN a b s bi bj (k+1) l)
  let v:=shA a b s (a.length - (k+1)) (b.length - (l+1))
  if 0<v∧¬ (bi=((a.length - (k+1):Nat):Int)∧bj=((b.length - (l+1):Nat):Int)) then max n (v+wN a b s bi bj k l) else n):=rfl
def wT (a b:List (Int × Int)) (s bi bj:Int) (i j:Nat):Int:=wN a b s bi bj (a.length - i) (b.length - j)
theorem wT_end1 {a b:List (Int × Int)} {s bi bj:Int} {i j:Nat} (h:a.length≤i):wT a b s bi bj i j=0:=by
 unfold wT;rw [show a.length - i=0 by omega];rfl
theorem wT_end2 {a b:List (Int × Int)} {s bi bj:Int} {i j:Nat} (h:b.length≤j):wT a b s bi bj i j=0:=by
 unfold wT;rw [show b.length - j=0 by omega]
 exact wN_1
theorem wT_step {a b:List (Int × Int)} {s bi bj:Int} {i j:Nat} {x y:Int × Int} (hx:a[i]?=some x) (hy:b[j]?=some y):wT a b s bi bj i j =
  if 0<shr s x y∧¬ (bi=(i:Nat)∧bj=(j:Nat)) then max (max (wT a b s bi bj (i+1) j) (wT a b s bi bj i (j+1))) (shr s x y+wT a b s bi bj (i+1) (j+1)) else max (wT a b s bi bj (i+1) j) (wT a b s bi bj i (j+1)):=by
 have hi:=(List.getElem?_eq_some_iff.1 hx).1
 have hj:=(List.getElem?_eq_some_iff.1 hy).1
 have e1:shA a b s i j=shr s x y:=by unfold shA;rw [List.getD_eq_getElem?_getD,hx,List.getD_eq_getElem?_getD,hy];rfl
 obtain ⟨k,hk⟩:∃ k,a.length - i=k+1:=⟨a.length - i - 1,by omega⟩
 obtain ⟨l,hl⟩:∃ l,b.length - j=l+1:=⟨b.length - j - 1,by omega⟩
 unfold wT
 rw [hk,hl,show a.length - (i+1)=k by omega,show b.length - (j+1)=l by omega]
 rw [wN_S]
 rw [show a.length - (k+1)=i by omega,show b.length - (l+1)=j by omega,e1]
def mixT (g w:Nat→Nat→Int) (n m k l:Nat):Nat→Nat→Int:=fun i j=>if i<n∧j<m∧(k≤i∨i+1=k∧l≤j) then w i j else g i j
theorem mixT_start {g w:Nat→Nat→Int} {n m:Nat}:mixT g w n m n m=g:=by
 funext i j;unfold mixT;rw [if_neg (by omega)]
theorem mixT_row {g w:Nat→Nat→Int} {n m k:Nat}:mixT g w n m (k+1) 0=mixT g w n m k m:=by
 funext i j;unfold mixT
 by_cases h:i<n∧j<m∧k≤i
 ·rw [if_pos (by omega),if_pos (by omega)]
 ·rw [if_neg (by omega),if_neg (by omega)]
theorem mixT_set {g w:Nat→Nat→Int} {n m i j:Nat} (hi:i<n) (hj:j<m):upT (mixT g w n m (i+1) (j+1)) i j (w i j)=mixT g w n m (i+1) j:=by
 funext i' j'; unfold upT mixT
 by_cases h:i' = i∧j' = j
 ·obtain ⟨rfl,rfl⟩:=h
  rw [if_pos ⟨rfl,rfl⟩,if_pos (by omega)]
 ·rw [if_neg h]
  by_cases h2:i' < n∧j' < m∧(i+1≤i' ∨ i' + 1=i+1∧j+1≤j')
  ·rw [if_pos h2,if_pos (by omega)]
  ·rw [if_neg h2,if_neg (by omega)]
theorem mixT_get {a b:List (Int × Int)} {s bi bj:Int} {g:Nat→Nat→Int} {i j i' j' : Nat} (hg:∀ i j,a.length≤i∨b.length≤j→g i j=0) (h:i+1≤i' ∨ i' = i∧j+1≤j') :
  mixT g (wT a b s bi bj) a.length b.length (i+1) (j+1) i' j' = wT a b s bi bj i' j' := by
 unfold mixT
 by_cases h1:i' < a.length∧j' < b.length
 ·rw [if_pos (by omega)]
 ·rw [if_neg (by omega),hg i' j' (by omega)]
  by_cases h2:i' < a.length
  ·rw [wT_end2 (by omega)]
  ·rw [wT_end1 (by omega)]
theorem shr_rng {s:Int} {x y:Int × Int} (hx:1≤x.2∧x.2≤200000) (hy:1≤y.2∧y.2≤200000):0≤shr s x y∧shr s x y≤200000:=by
 obtain ⟨m,n⟩:=x
 obtain ⟨m', n'⟩:=y
 rw [shr_case]
 dsimp only at hx hy
 split
 ·omega
 ·split
  ·omega
  ·split <;> omega
theorem shA_rng {a b:List (Int × Int)} {s:Int} {i j:Nat} (ha:shOk a) (hb:shOk b) (hi:i<a.length) (hj:j<b.length):0≤shA a b s i j∧shA a b s i j≤200000:=by
 unfold shA
 rw [List.getD_eq_getElem?_getD,List.getElem?_eq_getElem hi,List.getD_eq_getElem?_getD,List.getElem?_eq_getElem hj]
 have h1:=ha.2 _ (List.getElem_mem hi)
 have h2:=hb.2 _ (List.getElem_mem hj)
 exact shr_rng ⟨h1.2.2.1,h1.2.2.2⟩ ⟨h2.2.2.1,h2.2.2.2⟩
theorem wN_rng {a b:List (Int × Int)} {s bi bj:Int} (ha:shOk a) (hb:shOk b):∀ (k l:Nat),k≤a.length→l≤b.length→0≤wN a b s bi bj k l∧wN a b s bi bj k l≤200000 * (k:Int)
 | 0,l,_,_=>by rw [wN_0];simp
 | k+1,0,_,_=>by rw [wN_1];omega
 | k+1,l+1,h1,h2=>by
  have i1:=wN_rng ha hb (s:=s) (bi:=bi) (bj:=bj) k (l+1) (by omega) h2
  have i2:=wN_rng ha hb (s:=s) (bi:=bi) (bj:=bj) (k+1) l h1 (by omega)
  have i3:=wN_rng ha hb (s:=s) (bi:=bi) (bj:=bj) k l (by omega) (by omega)
  have i4:=shA_rng (s:=s) ha hb (i:=a.length - (k+1)) (j:=b.length - (l+1)) (by omega) (by omega)
  rw [wN_S]
  generalize wN a b s bi bj k (l+1)=A at *
  generalize wN a b s bi bj (k+1) l=B at *
  generalize wN a b s bi bj k l=C at *
  generalize shA a b s (a.length - (k+1)) (b.length - (l+1))=S at *
  dsimp only
  split <;> omega
termination_by k l=>k+l
theorem wT_rng {a b:List (Int × Int)} {s bi bj:Int} (ha:shOk a) (hb:shOk b) (i j:Nat):0≤wT a b s bi bj i j∧wT a b s bi bj i j≤8000000:=by
 unfold wT
 have:=wN_rng ha hb (s:=s) (bi:=bi) (bj:=bj) (a.length - i) (b.length - j) (by omega) (by omega)
 have:=ha.1
 omega
theorem view_pC {a b:Sh} {s:Int} {f:Nat→Nat→Int} {h:List B} {d:Nat}:mapO (V.view h (d+1)) (pC a b s f)=some (pC a b s f):=by
 rw [pC_eq]
 exact (VwL.cons Vw.sl (VwL.cons Vw.sl (VwL.cons (Vw.int rfl) ⟨views_ints _⟩))).1
set_option maxRecDepth 100000 in
set_option maxHeartbeats 20000000 in
theorem fill_gen {a b:Sh} {s bi bj:Int} {g:Nat→Nat→Int} {h:List B} {p:Nat} {K:V→List B→Prop} (ha:shOk a.l) (hb:shOk b.l) (hs:0≤s∧s≤200000) (hg:∀ i j,a.l.length≤i∨b.l.length≤j→g i j=0) (hc:Cl h) (hp:bget h p=some (pB a b s g))
  (hk:K (.int .i64 (mixT g (wT a.l b.l s bi bj) a.l.length b.l.length 0 b.l.length 0 0)) (bset h p (pB a b s (mixT g (wT a.l b.l s bi bj) a.l.length b.l.length 0 b.l.length)))):CallP FB md 0 (.fn 80 []) [.ref p 1684 0,.agg [.int .i64 bi,.int .i64 bj]] h K:=by
 have hpl:=bget_lt hp
 have hB:∀ f r,bget (bset h p (pB a b s f)++r) p=some (pB a b s f):=fun f r=>bget_app (bget_same hpl)
 have hC:∀ f,Cl (bset h p (pB a b s f)):=fun f=>hc.set (pB_blo _)
 have hL:∀ f,(bset h p (pB a b s f)).length=h.length:=fun f=>bset_len ..
 have hN:∀ f (r:B),bget (bset h p (pB a b s f)++[r]) h.length=some r:=fun f r=>by have:=bget_new (h:=bset h p (pB a b s f)) (g:=[r]) (i:=0);rwa [hL] at this
 have hS:∀ f f' r,bset (bset h p (pB a b s f)++[r]) p (pB a b s f')=bset h p (pB a b s f')++[r]:=fun f f' r=>by rw [bset_app (by rw [hL];exact hpl),bset_two]
 have hV:∀ f r (i j:Int),views (bset h p (pB a b s f)++r) depth [.ref p 1684 0,.int .i64 i,.int .i64 j]=some [.rp (pC a b s f) 0,.int .i64 i,.int .i64 j]:=fun f r i j =>
  (VwL.cons (Vw.ref (d:=63) (hB f r) pC_len (part_all pC_len) ⟨view_pC⟩) (VwL.cons (Vw.int (d:=63) rfl) (VwL.cons (Vw.int (d:=63) rfl) VwL.nil))).1
 have hal:=ha.1
 have hbl0:=hb.1
 have hst0:bset h p (pB a b s g)=h:=bset_same hp
 have hp0:∀ r,bget (h++r) p=some (pB a b s g):=fun r=>bget_app hp
 have hlen:∀ f r,(bset h p (pB a b s f)++[r]).length=(h++[B.blk [.int .i64 bi,.int .i64 bj] false]).length:=fun f r=>by simp only [List.length_append,hL,List.length_cons,List.length_nil]
 refine call_one rfl rfl rfl ?_
 repeat' (first
 | (conv=>whnf)
   first
   | (refine Bnd.i64 ?_ ?_ ?_;(focus omega);(focus omega))
   | refine fLen.mk ?_
   | refine fB.i0 ?_
   | refine fB.i1 ?_
   | refine fB.newj 0 rfl ?_
   | refine Get.newj 0 rfl rfl ?_
   | refine Get.mk _ (hp0 _) ?_
   | refine Req.mk pC_len ?_
   | refine Get.mk _ pC_0 ?_
   | (refine Req.mk ?_ ?_;(focus first | rfl | decide | exact ⟨rfl,rfl⟩ | exact ⟨rfl,by decide⟩ | exact (fun _=>rfl) | exact (fun h=>nomatch h) | (simp;done) | omega | (simp [big];done) | exact le_big (by omega) | exact lt_big (by omega))))
 refine LoopP.by (fun k:Nat=>k≤a.l.length) (fun k=>[(5,.int .i64 ((k:Nat) - 1))]) (fun k=>bset h p (pB a b s (mixT g (wT a.l b.l s bi bj) a.l.length b.l.length k b.l.length))++[.blk [.int .i64 bi,.int .i64 bj] false]) (fun k=>k) a.l.length (Nat.le_refl _) (by rw [mixT_start,hst0];rfl) ?_
 rintro k hk'
 dsimp only
 cases k with
 | zero =>
  repeat' (first
 | (conv=>whnf)
   first
   | refine fBtr1c (hL _) (hC _) ?_
   | refine Br.f ?_
   | refine fLen.mk ?_
   | refine fB.i0 ?_
   | refine fB.mk ?_
   | refine Get.mk _ (hB _ _) ?_
   | refine Req.mk pC_len ?_
   | refine Get.mk _ (pC_t (i:=0) (j:=0) (by omega) (by omega)) ?_
   | (refine Idx.int ?_ ?_ ?_;(focus omega);(focus omega))
   | refine Get.mk _ rfl ?_
   | refine Ends.of ?_)
  exact hk
 | succ i =>
  have e5:((i+1:Nat):Int) - 1=(i:Nat):=by omega
  rw [e5]
  obtain ⟨x,hx⟩:∃ x,a.l[i]?=some x:=⟨_,List.getElem?_eq_getElem (by omega)⟩
  repeat' (first
 | (conv=>whnf)
   first
   | refine Br.t ?_
   | (refine Bnd.i64 ?_ ?_ ?_;(focus omega);(focus omega))
   | refine fLen.mk ?_
   | refine fB.i0 ?_
   | refine fB.mk ?_
   | refine Get.mk _ (hB _ _) ?_
   | refine Req.mk pC_len ?_
   | refine Get.mk _ pC_1 ?_)
  all_goals try (exfalso;omega)
  refine LoopP.by (fun l:Nat=>l≤b.l.length) (fun l=>[(6,.int .i64 ((l:Nat) - 1))]) (fun l=>bset h p (pB a b s (mixT g (wT a.l b.l s bi bj) a.l.length b.l.length (i+1) l))++[.blk [.int .i64 bi,.int .i64 bj] false]) (fun l=>l) b.l.length (Nat.le_refl _) rfl ?_
  rintro l hl'
  dsimp only
  cases l with
  | zero =>
   rw [mixT_row]
   repeat' (first
 | (conv=>whnf)
   first
   | refine Br.f ?_
   | (refine Bnd.i64 ?_ ?_ ?_;(focus omega);(focus omega))
   | refine fLen.mk ?_
   | refine fB.i0 ?_
   | refine fB.mk ?_)
   all_goals try (exfalso;omega)
   refine NextP.mk i (by omega) (by omega) (norm_same (hlen _ _))
  | succ j =>
   have e6:((j+1:Nat):Int) - 1=(j:Nat):=by omega
   rw [e6]
   obtain ⟨y,hy⟩:∃ y,b.l[j]?=some y:=⟨_,List.getElem?_eq_getElem (by omega)⟩
   have hbi:IntKind.i64.wrap ((i:Int)+1)=((i+1:Nat):Int):=by rw [wrap_i64 (by omega) (by omega)];omega
   have hbj:IntKind.i64.wrap ((j:Int)+1)=((j+1:Nat):Int):=by rw [wrap_i64 (by omega) (by omega)];omega
   have hT:=Hid.mk (wT_step (s:=s) (bi:=bi) (bj:=bj) hx hy)
   have hI1:i+1<41:=by omega
   have hJ1:j+1<41:=by omega
   have hI0:i<41:=by omega
   have hJ0:j<41:=by omega
   have hset:=mixT_set (g:=g) (w:=wT a.l b.l s bi bj) (n:=a.l.length) (m:=b.l.length) (i:=i) (j:=j) (by omega) (by omega)
   have g1:=mixT_get (s:=s) (bi:=bi) (bj:=bj) (g:=g) (i:=i) (j:=j) (i' := i+1) (j' := j) hg (.inl (by omega))
   have g2:=mixT_get (s:=s) (bi:=bi) (bj:=bj) (g:=g) (i:=i) (j:=j) (i' := i) (j' := j+1) hg (.inr ⟨rfl,by omega⟩)
   have g3:=mixT_get (s:=s) (bi:=bi) (bj:=bj) (g:=g) (i:=i) (j:=j) (i' := i+1) (j' := j+1) hg (.inl (by omega))
   have r1:=wT_rng (s:=s) (bi:=bi) (bj:=bj) ha hb (i+1) j
   have r2:=wT_rng (s:=s) (bi:=bi) (bj:=bj) ha hb i (j+1)
   have r3:=wT_rng (s:=s) (bi:=bi) (bj:=bj) ha hb (i+1) (j+1)
   have hxm:=ha.2 x (List.mem_of_getElem? hx)
   have hym:=hb.2 y (List.mem_of_getElem? hy)
   have rs:=shr_rng (s:=s) (x:=x) (y:=y) ⟨hxm.2.2.1,hxm.2.2.2⟩ ⟨hym.2.2.1,hym.2.2.2⟩
   have hq:=hlen (mixT g (wT a.l b.l s bi bj) a.l.length b.l.length (i+1) (j+1))
   generalize mixT g (wT a.l b.l s bi bj) a.l.length b.l.length (i+1) (j+1)=f at *
   have c1:=pC_t (a:=a) (b:=b) (s:=s) (f:=f) (i:=i+1) (j:=j) (by omega) (by omega)
   have c2:=pC_t (a:=a) (b:=b) (s:=s) (f:=f) (i:=i) (j:=j+1) (by omega) (by omega)
   have c3:=pC_t (a:=a) (b:=b) (s:=s) (f:=f) (i:=i+1) (j:=j+1) (by omega) (by omega)
   have ov:∀ v,over (pC a b s f) (0+3+i * 41+j * 1) [.int .i64 v]=pC a b s (upT f i j v):=fun v=>by rw [Nat.zero_add,Nat.mul_one];exact pC_st (by omega) (by omega)
   rw [g1] at c1
   rw [g2] at c2
   rw [g3] at c3
   have fx:∀ p q:Nat,0+3+p * 41+q * 1=3+p * 41+q:=fun p q=>by omega
   rw [← fx] at c1 c2 c3
   have hsh:=share_fun (f:=f) ha hb hs hx hy
   have hln:i * 41+j<1681:=by omega
   have hst:∀ v,(pC a b s f).length=1684∧0+3+i * 41+j * 1+1≤(pC a b s f).length:=fun _=>by rw [pC_len];omega
   have hSf:=fun v r=>hS f (upT f i j v) r
   generalize wT a.l b.l s bi bj (i+1) j=A at *
   generalize wT a.l b.l s bi bj i (j+1)=B' at *
   generalize wT a.l b.l s bi bj (i+1) (j+1)=C at *
   generalize shr s x y=S at *
   repeat' (first
 | (conv=>whnf)
   first
   | refine Bnd.eq hbi ?_
   | refine Bnd.eq hbj ?_
   | refine Idx.nat (Nat.le_of_lt_succ hI1) ?_
   | refine Idx.nat (Nat.le_of_lt_succ hJ1) ?_
   | refine Idx.nat (Nat.le_of_lt_succ hI0) ?_
   | refine Idx.nat (Nat.le_of_lt_succ hJ0) ?_
   | refine Br.t ?_
   | refine Br.f ?_
   | (refine Br.decT ?_ ?_;(focus first | assumption | omega))
   | (refine Br.decF ?_ ?_;(focus first | assumption | omega))
   | refine Br.dec (fun _ => ?_) (fun _ => ?_)
   | refine Br.not ?_
   | refine Br.and ?_
   | (refine Bnd.i64 ?_ ?_ ?_;(focus omega);(focus omega))
   | refine fLen.mk ?_
   | refine fB.i0 ?_
   | refine fB.as (hSf _ _) ?_
   | refine fB.mk ?_
   | refine Get.mk _ (hB _ _) ?_
   | refine Get.mk _ (hN _ _) ?_
   | refine Req.mk pC_len ?_
   | refine Get.mk _ c1 ?_
   | refine Get.mk _ c2 ?_
   | refine Get.mk _ c3 ?_
   | refine call_fun rfl (hV _ _ _ _) hsh (.inr rfl) ?_
   | refine fVg' (ov _) ?_
   | refine Bnd.any ?_
   | refine Get.mk _ rfl ?_
   | (refine Req.mk ?_ ?_;(focus first | rfl | decide | exact ⟨rfl,rfl⟩ | exact ⟨rfl,by decide⟩ | exact (fun _=>rfl) | exact (fun h=>nomatch h) | (simp;done) | omega | (simp [big];done) | exact le_big (by omega) | exact lt_big (by omega))))
   all_goals try (exfalso;omega)
   all_goals obtain ⟨hT⟩:=hT
   all_goals refine NextP.mk j (by omega) (by omega) ?_
   all_goals rw [← hset,hT]
   all_goals first
    | (rw [if_pos (by omega)];exact norm_same (by simp only [List.length_append,hL,List.length_cons,List.length_nil]))
    | (rw [if_neg (by omega)];exact norm_same (by simp only [List.length_append,hL,List.length_cons,List.length_nil]))
theorem fill_call {a b:Sh} {s bi bj:Int} {g:Nat→Nat→Int} {q0 q1 q2:B} {K:V→List B→Prop} (ha:shOk a.l) (hb:shOk b.l) (hs:0≤s∧s≤200000) (hg:∀ i j,a.l.length≤i∨b.l.length≤j→g i j=0) (hq:∀ n,4≤n→hbelow n [q0,q1,q2]=true)
  (hk:K (.int .i64 (mixT g (wT a.l b.l s bi bj) a.l.length b.l.length 0 b.l.length 0 0)) [q0,q1,q2,pB a b s (mixT g (wT a.l b.l s bi bj) a.l.length b.l.length 0 b.l.length)]):CallP FB md 0 (.fn 80 []) [.ref 3 1684 0,.agg [.int .i64 bi,.int .i64 bj]] [q0,q1,q2,pB a b s g] K :=
 fill_gen (p:=3) ha hb hs hg (by have:=hbelow_snoc (c:=pB a b s g) (hq 4 (Nat.le_refl _)) (pB_blo 4);exact this) rfl hk
end Go.Dr.T
