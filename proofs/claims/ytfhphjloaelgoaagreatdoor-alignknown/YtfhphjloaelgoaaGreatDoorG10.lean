/- Chapter 06: heaps in general: what norm and trunc keep. -/
import Derived.Test.YtfhphjloaelgoaaGreatDoorG2
import Derived.Test.YtfhphjloaelgoaaGreatDoorDrG
namespace Go.Dr.T
theorem fB.i2 {h g:List B} {K:List B→Prop} (hk:fB g fun r=>K (h++r)):fB (if 2=0 then h else h++g) K:=by rw [if_neg (by decide)];exact fB.tail hk
theorem fB.i1 {h g:List B} {K:List B→Prop} (hk:fB g fun r=>K (h++r)):fB (if 1=0 then h else h++g) K:=by rw [if_neg (by decide)];exact fB.tail hk
theorem fB.i0 {h g:List B} {K:List B→Prop} (hk:K h):fB (if 0=0 then h else g) K:=fB.mk (by rw [if_pos rfl];exact hk)
theorem trunc_two {n:Nat} {tm:List V} {L:List B} {c1 c2:B} (hL:L.length=n) (h0:blos n tm=true) (h1:blos (n+1) tm=true) (h2:hbelow (n+1) (L++[c1])=true) (h3:hbelow n L=true):trunc n tm (L++[c1,c2])=L:=by
 subst hL
 have e1:(L++[c1,c2]).take (L.length+1)=L++[c1]:=by rw [List.take_length_add_append];rfl
 have e2:(L++[c1]).take L.length=L:=by simp
 unfold trunc
 rw [show (L++[c1,c2]).length - L.length=2 by simp]
 unfold strip
 simp only [e1,h1,h2,Bool.and_self,if_true]
 unfold strip
 simp only [Nat.add_zero,e2,h0,h3,Bool.and_self,if_true,strip]
theorem hbelow_snoc {n:Nat} {c:B}:∀ {L:List B},hbelow n L=true→c.blo n=true→hbelow n (L++[c])=true
 | [],_,h=>by simp [hbelow,h]
 | x :: L,h,hc=>by
  simp only [hbelow,Bool.and_eq_true,List.cons_append] at h ⊢
  exact ⟨h.1,hbelow_snoc h.2 hc⟩
theorem fBtr {n:Nat} {k:IntKind} {z:Int} {L G:List B} {c1 c2:B} {K:List B→Prop} (hL:L.length=n) (hG:G=L++[c1,c2]) (h2:hbelow (n+1) (L++[c1])=true) (h3:hbelow n L=true) (hk:K L):fB (trunc n [.int k z] G) K :=
 fB.mk (by subst hG;rw [trunc_two hL rfl rfl h2 h3];exact hk)
theorem fVg' {l l' : List V} {K:List V→Prop} (e:l=l') (h:K l'):fV l K:=fV.mk (e ▸ h)
inductive Hid (p:Prop):Prop where
 | mk:p→Hid p
theorem trunc_one {n:Nat} {tm:List V} {L:List B} {c:B} (hL:L.length=n) (h0:blos n tm=true) (h1:hbelow n L=true):trunc n tm (L++[c])=L:=by
 subst hL
 have e2:(L++[c]).take L.length=L:=by simp
 unfold trunc
 rw [show (L++[c]).length - L.length=1 by simp]
 unfold strip
 simp only [Nat.add_zero,e2,h0,h1,Bool.and_self,if_true,strip]
theorem fBtr1 {n:Nat} {k:IntKind} {z:Int} {L G:List B} {c:B} {K:List B→Prop} (hL:L.length=n) (hG:G=L++[c]) (h:hbelow n L=true) (hk:K L):fB (trunc n [.int k z] G) K :=
 fB.mk (by subst hG;rw [trunc_one hL rfl h];exact hk)
theorem blos_tg {n:Nat}:∀ {tm:List V} {i:Nat},blos n tm=true→(tg tm i).blo n=true
 | [],_,_=>by simp [tg,V.blo]
 | v :: l,0,h=>by simp only [blos,Bool.and_eq_true] at h;exact h.1
 | v :: l,i+1,h=>by simp only [blos,Bool.and_eq_true] at h;exact blos_tg (tm:=l) (i:=i) h.2
theorem strip_keep {n i id:Nat} {tm:List V} {b:B} (hv:∀ k,(tg tm i).blo k=true→id<k):∀ {j:Nat} {h:List B},h.length=n+j→bget h id=some b→bget (strip n tm j h) id=some b
 | 0,h,_,e=>e
 | j+1,h,hl,e=>by
  unfold strip
  split
  ·rename_i hc
   rw [Bool.and_eq_true] at hc
   have hid:=hv _ (blos_tg (i:=i) hc.1)
   exact strip_keep hv (by rw [List.length_take];omega) (by rw [bget_take hid];exact e)
  ·exact e
theorem strip_len {n:Nat} {tm:List V}:∀ {j:Nat} {h:List B},h.length=n+j→n≤(strip n tm j h).length
 | 0,h,hl=>by unfold strip;omega
 | j+1,h,hl=>by
  unfold strip
  split
  ·exact strip_len (by rw [List.length_take];omega)
  ·omega
theorem norm_keep {m:List Bool} {n i id:Nat} {s:St} {b:B} (hn:n≤s.h.length) (hv:∀ k,(tg (masked m s.tm) i).blo k=true→id<k) (e:bget s.h id=some b):bget (norm m n s).h id=some b :=
 strip_keep (i:=i) hv (by omega) e
theorem norm_len {m:List Bool} {n:Nat} {s:St} (hn:n≤s.h.length):n≤(norm m n s).h.length:=strip_len (by omega)
theorem NextP.of {α:Type} {P:α→Prop} {I:α→St} {μ:α→Nat} {a:α} {s:St} (f:List B→α) (h1:P (f s.h)) (h2:μ (f s.h)<μ a) (h3:s=I (f s.h)):NextP P I μ a s:=⟨f s.h,h1,h2,h3⟩
theorem CallP.heap {F:Nat→Option Fc} {md ro f a h h' K} (e:h=h') (hc:CallP F md ro f a h' K):CallP F md ro f a h K:=by subst e;exact hc
theorem bget_lop {hh:List B} {L:B} {n:Nat} (e:hh.length=n):bget (hh++[L]) (n+0)=some L:=by subst e;exact bget_new (i:=0)
theorem bset_lop {hh:List B} {L L' : B} {n:Nat} (e:hh.length=n):bset (hh++[L]) (n+0) L' = hh++[L']:=by subst e;rw [bset_new];rfl
theorem fB.lop {hh g:List B} {L L' : B} {n:Nat} {K:List B→Prop} (e:hh.length=n) (hk:K ((hh++[L'])++g)):fB (bset ((hh++[L])++g) (n+0) L') K:=fB.mk (by rw [bset_app (by rw [List.length_append,e];exact Nat.lt_succ_self n),bset_lop e];exact hk)
theorem fLen.as {h:List B} {n:Nat} {K:Nat→Prop} (e:h.length=n) (hk:K (n+0)):fLen h 0 K:=by subst e;exact fLen.mk hk
theorem bset_two {h:List B} {n:Nat} {a b:B}:bset (bset h n a) n b=bset h n b:=by rw [bset_eq,bset_eq,bset_eq,List.set_set]
def Cl (h:List B):Prop:=hbelow h.length h=true
theorem Bblo_mono {n m:Nat} (h:n≤m):∀ (b:B),b.blo n=true→b.blo m=true
 | .blk c dat,e=>by
  simp only [B.blo,Bool.or_eq_true] at e ⊢
  rcases e with e | e
  ·exact .inl e
  ·exact .inr (blos_mono h _ e)
 | .unborn,_=>rfl
 | .lop _ _ tm _ _ _,e=>blos_mono h tm e
 | .mp ks vs,e=>by simp only [B.blo,Bool.and_eq_true] at e ⊢; exact ⟨blos_mono h _ e.1,blos_mono h _ e.2⟩
 | .mq _ _ ks vs,e=>by simp only [B.blo,Bool.and_eq_true] at e ⊢; exact ⟨blos_mono h _ e.1,blos_mono h _ e.2⟩
 | .it a _ _ _,e=>by simp only [B.blo,decide_eq_true_eq] at e ⊢; omega
 | .ir _ _ _,_=>rfl
theorem hbelow_mono {n m:Nat} (h:n≤m):∀ (l:List B),hbelow n l=true→hbelow m l=true
 | [],_=>rfl
 | b :: l,e=>by simp only [hbelow,Bool.and_eq_true] at e ⊢; exact ⟨Bblo_mono h b e.1,hbelow_mono h l e.2⟩
theorem Cl.app {h:List B} {b:B} (c:Cl h) (e:b.blo h.length=true):Cl (h++[b]):=by
 unfold Cl
 rw [List.length_append]
 exact hbelow_mono (Nat.le_add_right _ _) _ (hbelow_snoc c e)
theorem hbelow_set {m:Nat} {b:B} (e:b.blo m=true):∀ {h:List B} {n:Nat},hbelow m h=true→hbelow m (bset h n b)=true
 | [],n,_=>by cases n <;> rfl
 | a :: l,0,c=>by simp only [bset,hbelow,Bool.and_eq_true] at c ⊢; exact ⟨e,c.2⟩
 | a :: l,n+1,c=>by simp only [bset,hbelow,Bool.and_eq_true] at c ⊢; exact ⟨c.1,hbelow_set e c.2⟩
theorem Cl.set {h:List B} {n:Nat} {b:B} (c:Cl h) (e:b.blo h.length=true):Cl (bset h n b):=by
 unfold Cl;rw [bset_len];exact hbelow_set e c
theorem strip_cl {n:Nat} {tm:List V}:∀ {j:Nat} {h:List B},h.length=n+j→Cl h→Cl (strip n tm j h)
 | 0,h,_,c=>c
 | j+1,h,hl,c=>by
  unfold strip
  split
  ·rename_i hc
   rw [Bool.and_eq_true] at hc
   have hl' : (h.take (n+j)).length=n+j:=by rw [List.length_take];omega
   exact strip_cl hl' (by unfold Cl;rw [hl'];exact hc.2)
  ·exact c
theorem norm_cl {m:List Bool} {n:Nat} {s:St} (hn:n≤s.h.length) (c:Cl s.h):Cl (norm m n s).h:=strip_cl (by omega) c
theorem fB.two {hh:List B} {n:Nat} {L bx b:B} {K:List B→Prop} (hn:n<hh.length) (hk:K ((bset hh n b++[L])++[bx])):fB (bset ((hh++[L])++[bx]) n b) K :=
 fB.mk (by rw [bset_app (by rw [List.length_append];omega),bset_app hn];exact hk)
theorem end_eq {hh:List B} {v:V} {L L' bx:B} {m n:Nat} {K:V→List B→Prop} (hk:K v (hh++[L])) (e:hh.length=n) (hm:m=n+1) (c:Cl hh) (hb:L'.blo n=true):K v (bset (trunc m [] ((hh++[L'])++[bx])) (n+0) L):=by
 have hl:(hh++[L']).length=m:=by rw [List.length_append,e,hm];rfl
 have c2:Cl (hh++[L']):=c.app (by rw [e];exact hb)
 rw [trunc_one hl rfl (by have:=c2;unfold Cl at this;rw [hl] at this;exact this),bset_lop e]
 exact hk
theorem fB.lop1 {hh:List B} {L L' : B} {n:Nat} {K:List B→Prop} (e:hh.length=n) (hk:∀ h3,h3=hh++[L']→K h3):fB (bset (hh++[L]) (n+0) L') K:=fB.mk (by rw [bset_lop e];exact hk _ rfl)
theorem fB.as {l l' : List B} {K:List B→Prop} (e:l=l') (h:K l'):fB l K:=fB.mk (e ▸ h)
theorem fV.as {l l' : List V} {K:List V→Prop} (e:l=l') (h:K l'):fV l K:=fV.mk (e ▸ h)
theorem fB.gen {h:List B} {n:Nat} {b:B} {K:List B→Prop} (hn:n<h.length) (hc:Cl h) (hb:b.blo h.length=true) (hk:∀ h', Cl h' → h'.length=h.length→bget h' n=some b→(∀ m,n≠m→bget h' m=bget h m)→K h'):fB (bset h n b) K :=
 fB.mk (hk _ (hc.set hb) (bset_len ..) (bget_same hn) fun m hm=>bset_other hm)
theorem fBtr1c {n:Nat} {k:IntKind} {z:Int} {L:List B} {c:B} {K:List B→Prop} (hL:L.length=n) (hc:Cl L) (hk:K L):fB (trunc n [.int k z] (L++[c])) K:=by
 subst hL
 exact fBtr1 (L:=L) rfl rfl hc hk
end Go.Dr.T
namespace Go.Dr.T
def tb (f:Nat→Nat→Int):List Int:=(List.range 1681).map fun k=>f (k / 41) (k % 41)
def upT (f:Nat→Nat→Int) (i j:Nat) (v:Int):Nat→Nat→Int:=fun i' j' => if i' = i∧j' = j then v else f i' j'
theorem tb_len (f:Nat→Nat→Int):(tb f).length=1681:=by simp [tb]
theorem tb_get {f:Nat→Nat→Int} {i j:Nat} (hi:i<41) (hj:j<41):(tb f)[i * 41+j]?=some (f i j):=by
 have h1:(i * 41+j) / 41=i:=by omega
 have h2:(i * 41+j) % 41=j:=by omega
 have h3:i * 41+j<1681:=by omega
 simp [tb,h1,h2,h3]
theorem tb_set {f:Nat→Nat→Int} {i j:Nat} {v:Int} (hi:i<41) (hj:j<41):(tb f).set (i * 41+j) v=tb (upT f i j v):=by
 apply List.ext_getElem?
 intro k
 by_cases hk:k<1681
 ·rw [List.getElem?_set,tb_len]
  have e:∀ g:Nat→Nat→Int,(tb g)[k]?=some (g (k / 41) (k % 41)):=fun g=>by simp [tb,hk]
  rw [e,e]
  by_cases h:i * 41+j=k
  ·rw [if_pos h,if_pos (by omega)]
   have h1:k / 41=i:=by omega
   have h2:k % 41=j:=by omega
   simp [upT,h1,h2]
  ·rw [if_neg h]
   have:¬ (k / 41=i∧k % 41=j):=by omega
   simp [upT,this]
 ·rw [List.getElem?_eq_none (by simp [tb_len];omega),List.getElem?_eq_none (by simp [tb_len];omega)]
structure Sh where
 c:Bool
 l:List (Int × Int)
def Sh.v (a:Sh):V:=.sl a.c a.l.length (shC a.l)
@[irreducible] def pC (a b:Sh) (s:Int) (f:Nat→Nat→Int):List V:=a.v :: b.v :: .int .i64 s :: ofInts (tb f)
theorem pC_eq (a b:Sh) (s:Int) (f:Nat→Nat→Int):pC a b s f=a.v :: b.v :: .int .i64 s :: ofInts (tb f):=by unfold pC;rfl
section
variable {a b:Sh} {s:Int} {f:Nat→Nat→Int}
theorem pC_len:(pC a b s f).length=1684:=by rw [pC_eq];simp [ofInts,tb_len]
theorem pC_0:cellAt (pC a b s f) 0=some a.v:=by rw [pC_eq];rfl
theorem pC_1:cellAt (pC a b s f) 1=some b.v:=by rw [pC_eq];rfl
theorem pC_2:cellAt (pC a b s f) 2=some (.int .i64 s):=by rw [pC_eq];rfl
theorem pC_t {i j:Nat} (hi:i<41) (hj:j<41):cellAt (pC a b s f) (3+i * 41+j)=some (.int .i64 (f i j)):=by
 rw [pC_eq,show 3+i * 41+j=(i * 41+j)+1+1+1 by omega]
 simp only [cellAt]
 obtain ⟨y,h1,h2⟩:∃ y,(tb f)[i * 41+j]?=some y∧cellAt (ofInts (tb f)) (i * 41+j)=some (.int .i64 y):=by
  refine ⟨_,tb_get hi hj,?_⟩
  have key:∀ (l:List Int) (n:Nat) (y:Int),l[n]?=some y→cellAt (ofInts l) n=some (.int .i64 y):=by
   intro l
   induction l with
   | nil=>intro n y h;simp at h
   | cons x l ih =>
    intro n y h
    cases n with
    | zero=>simp at h;subst h;rfl
    | succ n=>exact ih n y (by simpa using h)
  exact key _ _ _ (tb_get hi hj)
 rw [tb_get hi hj] at h1
 cases h1;exact h2
theorem pC_st {i j:Nat} {v:Int} (hi:i<41) (hj:j<41):over (pC a b s f) (3+i * 41+j) [.int .i64 v]=pC a b s (upT f i j v):=by
 rw [pC_eq,pC_eq,show 3+i * 41+j=(i * 41+j)+1+1+1 by omega]
 have key:∀ (M:List Int) (n:Nat) (y:Int),over (ofInts M) n [.int .i64 y]=ofInts (M.set n y):=by
  intro M
  induction M with
  | nil=>intro n y;cases n <;> rfl
  | cons m M ih =>
   intro n y
   cases n with
   | zero=>cases M <;> rfl
   | succ n =>
    have:=ih n y
    simp only [ofInts,List.map_cons,List.set_cons_succ,over] at this ⊢
    rw [this]
 simp only [over]
 rw [key,tb_set hi hj]
end
abbrev pB (a b:Sh) (s:Int) (f:Nat→Nat→Int):B:=.blk (pC a b s f) false
def shr (s:Int) (x y:Int × Int):Int :=
 let n:=min x.2 y.2
 if s<max x.2 y.2 - n then 0 else if x.1=0∨y.1=0 then max (n / 2) 1 else if x.1≠y.1 then 0 else n
def shOk (l:List (Int × Int)):Prop:=l.length≤40∧∀ p∈l,0≤p.1∧p.1≤999∧1≤p.2∧p.2≤200000
theorem shr_case {s:Int} {m n m' n' : Int}:shr s (m,n) (m', n')=if s<max n n' - min n n' then 0 else if m=0∨m' = 0 then max (min n n' / 2) 1 else if m≠m' then 0 else min n n' := rfl
theorem mul_zero {m m' : Int}:m * m' = 0 ↔ m=0∨m' = 0:=Int.mul_eq_zero
set_option maxRecDepth 100000 in
set_option maxHeartbeats 20000000 in
theorem share_fun {a b:Sh} {s:Int} {f:Nat→Nat→Int} {i j:Nat} {x y:Int × Int} (ha:shOk a.l) (hb:shOk b.l) (hs:0≤s∧s≤200000) (hx:a.l[i]?=some x) (hy:b.l[j]?=some y) :
  Fun FB md 63 [.rp (pC a b s f) 0,.int .i64 (i:Nat),.int .i64 (j:Nat)] (.int .i64 (shr s x y)):=by
 have hil:=(List.getElem?_eq_some_iff.1 hx).1
 have hjl:=(List.getElem?_eq_some_iff.1 hy).1
 obtain ⟨a1,a2⟩:=ha
 obtain ⟨b1,b2⟩:=hb
 obtain ⟨x1,x2,x3,x4⟩:=a2 x (List.mem_of_getElem? hx)
 obtain ⟨y1,y2,y3,y4⟩:=b2 y (List.mem_of_getElem? hy)
 have hpx:=shC_part hx
 have hpy:=shC_part hy
 obtain ⟨m,n⟩:=x
 obtain ⟨m', n'⟩:=y
 dsimp only at *
 have hmm:0≤m * m' := Int.mul_nonneg x1 y1
 have hmM:m * m' ≤ 999 * 999:=Int.mul_le_mul x2 y2 y1 (by omega)
 have hz:=mul_zero (m:=m) (m' := m')
 have hw:IntKind.i64.wrap ((min n n').tdiv 2)=min n n' / 2:=by rw [Int.tdiv_eq_ediv_of_nonneg (by omega)];exact wrap_i64 (by omega) (by omega)
 refine fun_of rfl rfl ?_
 repeat' (first
 | (conv=>whnf)
   first
   | refine Br.dec (fun _ => ?_) (fun _ => ?_)
   | refine Br.not ?_
   | (refine Bnd.i64 ?_ ?_ ?_;(focus omega);(focus omega))
   | refine Get.mk _ pC_0 ?_
   | refine Get.mk _ pC_1 ?_
   | refine Get.mk _ pC_2 ?_
   | refine Get.mk _ hpx ?_
   | refine Get.mk _ hpy ?_
   | refine Bnd.any ?_
   | (refine Idx.nat ?_ ?_;(focus omega))
   | refine Get.mk _ rfl ?_
   | refine Leaves.of ?_
   | refine Vw.int ?_
   | (refine Req.mk ?_ ?_;(focus first | rfl | decide | exact ⟨rfl,rfl⟩ | exact ⟨rfl,by decide⟩ | exact (fun _=>rfl) | exact (fun h=>nomatch h) | (simp;done) | omega | (simp [big];done) | exact le_big (by omega) | exact lt_big (by omega))))
 all_goals rw [shr_case]
 all_goals first
  | (rw [if_pos (by omega)];done)
  | (rw [if_neg (by omega),if_pos (hz.1 (by assumption)),hw];done)
  | (rw [if_neg (by omega),if_neg (fun h=>absurd (hz.2 h) (by assumption)),if_pos (by assumption)];done)
  | (rw [if_neg (by omega),if_neg (fun h=>absurd (hz.2 h) (by assumption)),if_neg (by assumption)];done)
  | (rw [if_neg (by omega),if_neg (fun h=>absurd (hz.2 h) (by assumption)),if_neg (fun h=>by omega)];done)
theorem blos_int1 (n:Nat):∀ l:List Int,blos n (ofInts l)=true
 | []=>rfl
 | _ :: l=>by have:=blos_int1 n l;simp only [ofInts,List.map_cons,blos,V.blo,Bool.true_and] at this ⊢; exact this
theorem pB_blo {a b:Sh} {s:Int} {f:Nat→Nat→Int} (n:Nat):(pB a b s f).blo n=true:=by
 simp only [pB,B.blo,Bool.false_or]
 rw [pC_eq]
 simp only [blos,V.blo,Sh.v,blos_int1,Bool.and_self]
end Go.Dr.T
