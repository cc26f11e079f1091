/- Chapter 06: arguments as elements and lists of them. -/
import Derived.Test.YtfhphjloaelgoaaGreatDoorG2
import Derived.Test.YtfhphjloaelgoaaGreatDoorDrE
import Derived.Test.YtfhphjloaelgoaaGreatDoorDrG
namespace Go.Dr.T
theorem hasInt {l:List V} (h:(Ty.int .i64).has l):∃ n:Int,l=[.int .i64 n]:=by
 simp only [Ty.has] at h
 obtain ⟨n,rfl,h1,h2⟩:=h
 exact ⟨n,rfl⟩
theorem hasStr {l:List V} (h:Ty.str.has l):∃ s,l=[.str s]:=by
 simpa only [Ty.has] using h
theorem int_val {v:V} (h:(Ty.int .i64).val v):∃ n,v = .int .i64 n:=by
 obtain ⟨n,e⟩:=hasInt (l:=[v]) h
 simp only [List.cons.injEq,and_true] at e
 exact ⟨n,e⟩
theorem two_has {x:List V} (h:(Ty.agg [.int .i64,.int .i64]).has x):∃ a b:Int,x=[.int .i64 a,.int .i64 b]:=by
 simp only [Ty.has,Ty.hasAll] at h
 obtain ⟨a,b,rfl,⟨n,rfl,_⟩,c,d,rfl,⟨m,rfl,_⟩,rfl⟩:=h
 exact ⟨n,m,rfl⟩
theorem pairs_cells:∀ {xs:List (List V)},(∀ x∈xs,x.length=2∧(Ty.agg [.int .i64,.int .i64]).has x)→∃ l:List (Int × Int),xs.flatten=shC l∧xs.length=l.length
 | [],_=>⟨[],rfl,rfl⟩
 | x :: xs,h=>by
  obtain ⟨l,h1,h2⟩:=pairs_cells (xs:=xs) fun y hy=>h y (by simp [hy])
  obtain ⟨_,hx⟩:=h x (by simp)
  obtain ⟨a,b,rfl⟩:=two_has hx
  exact ⟨(a,b) :: l,by simp only [List.flatten_cons,h1];rfl,by simp [h2]⟩
abbrev TyP:Ty:=.slice 2 (.agg [.int .i64,.int .i64])
theorem pairs_has {v:List V} (h:TyP.has v):∃ l:List (Int × Int),v=[.sl false l.length (shC l)]:=by
 rw [TyP,Ty.has] at h
 obtain ⟨xs,rfl,hx⟩:=h
 obtain ⟨l,h1,h2⟩:=pairs_cells (xs:=xs) hx
 exact ⟨l,by rw [h1,h2]⟩
theorem pairs_val {v:V} (h:TyP.val v):∃ l:List (Int × Int),v = .sl false l.length (shC l):=by
 obtain ⟨l,e⟩:=pairs_has (v:=[v]) h
 simp only [List.cons.injEq,and_true] at e
 exact ⟨l,e⟩
abbrev TyEl:Ty:=.agg [.str,TyP,.int .i64]
def elA (x:El):V:=.agg x.v
theorem el_all {l:List V} (h:Ty.hasAll [.str,TyP,.int .i64] l):∃ x:El,l=x.v:=by
 simp only [Ty.hasAll] at h
 obtain ⟨a,b,rfl,ha,c,d,rfl,hc,e,f,rfl,he,rfl⟩:=h
 obtain ⟨s,rfl⟩:=hasStr ha
 obtain ⟨l,rfl⟩:=pairs_has hc
 obtain ⟨n,rfl⟩:=hasInt he
 exact ⟨⟨s,false,l,n⟩,rfl⟩
theorem el_val {v:V} (h:TyEl.val v):∃ x:El,v=elA x:=by
 simp only [Ty.val] at h
 obtain ⟨l,rfl,h⟩:=h
 obtain ⟨x,rfl⟩:=el_all h
 exact ⟨x,rfl⟩
theorem els_cells:∀ {xs:List (List V)},(∀ x∈xs,x.length=3∧TyEl.has x)→∃ l:List El,xs.flatten=elC l∧xs.length=l.length
 | [],_=>⟨[],rfl,rfl⟩
 | x :: xs,h=>by
  obtain ⟨l,h1,h2⟩:=els_cells (xs:=xs) fun y hy=>h y (by simp [hy])
  obtain ⟨_,hx⟩:=h x (by simp)
  obtain ⟨y,rfl⟩:=el_all (by simpa only [Ty.has] using hx)
  exact ⟨y :: l,by simp only [List.flatten_cons,h1];rfl,by simp [h2]⟩
abbrev TyEls:Ty:=.slice 3 TyEl
theorem els_val {v:V} (h:TyEls.val v):∃ l:List El,v=elsV false l:=by
 rw [TyEls] at h
 simp only [Ty.val] at h
 rw [Ty.has] at h
 obtain ⟨xs,e,hx⟩:=h
 simp only [List.cons.injEq,and_true] at e
 subst e
 obtain ⟨l,h1,h2⟩:=els_cells (xs:=xs) hx
 exact ⟨l,by rw [h1,h2]⟩
theorem two_val {v:V} (h:(Ty.agg [TyEl,TyEl]).val v):∃ x y:El,v = .agg (x.v++y.v):=by
 simp only [Ty.val,Ty.hasAll] at h
 obtain ⟨l,rfl,a,b,rfl,ha,c,d,rfl,hc,rfl⟩:=h
 obtain ⟨x,rfl⟩:=el_all (by simpa only [Ty.has] using ha)
 obtain ⟨y,rfl⟩:=el_all (by simpa only [Ty.has] using hc)
 exact ⟨x,y,by rw [List.append_nil]⟩
end Go.Dr.T
namespace Go.Dr.T
theorem fB.i2 {h g:List B} {K:List B→Prop} (hk:fB g fun r=>K (h++r)):fB (if 2=0 then h else h++g) K:=by rw [if_neg (by decide)];exact fB.tail hk
theorem fB.i1 {h g:List B} {K:List B→Prop} (hk:fB g fun r=>K (h++r)):fB (if 1=0 then h else h++g) K:=by rw [if_neg (by decide)];exact fB.tail hk
theorem fB.i0 {h g:List B} {K:List B→Prop} (hk:K h):fB (if 0=0 then h else g) K:=fB.mk (by rw [if_pos rfl];exact hk)
theorem trunc_two {n:Nat} {tm:List V} {L:List B} {c1 c2:B} (hL:L.length=n) (h0:blos n tm=true) (h1:blos (n+1) tm=true) (h2:hbelow (n+1) (L++[c1])=true) (h3:hbelow n L=true):trunc n tm (L++[c1,c2])=L:=by
 subst hL
 have e1:(L++[c1,c2]).take (L.length+1)=L++[c1]:=by rw [List.take_length_add_append];rfl
 have e2:(L++[c1]).take L.length=L:=by simp
 unfold trunc
 rw [show (L++[c1,c2]).length - L.length=2 by simp]
 unfold strip
 simp only [e1,h1,h2,Bool.and_self,if_true]
 unfold strip
 simp only [Nat.add_zero,e2,h0,h3,Bool.and_self,if_true,strip]
theorem hbelow_snoc {n:Nat} {c:B}:∀ {L:List B},hbelow n L=true→c.blo n=true→hbelow n (L++[c])=true
 | [],_,h=>by simp [hbelow,h]
 | x :: L,h,hc=>by
  simp only [hbelow,Bool.and_eq_true,List.cons_append] at h ⊢
  exact ⟨h.1,hbelow_snoc h.2 hc⟩
theorem fBtr {n:Nat} {k:IntKind} {z:Int} {L G:List B} {c1 c2:B} {K:List B→Prop} (hL:L.length=n) (hG:G=L++[c1,c2]) (h2:hbelow (n+1) (L++[c1])=true) (h3:hbelow n L=true) (hk:K L):fB (trunc n [.int k z] G) K :=
 fB.mk (by subst hG;rw [trunc_two hL rfl rfl h2 h3];exact hk)
theorem fVg' {l l' : List V} {K:List V→Prop} (e:l=l') (h:K l'):fV l K:=fV.mk (e ▸ h)
inductive Hid (p:Prop):Prop where
 | mk:p→Hid p
theorem trunc_one {n:Nat} {tm:List V} {L:List B} {c:B} (hL:L.length=n) (h0:blos n tm=true) (h1:hbelow n L=true):trunc n tm (L++[c])=L:=by
 subst hL
 have e2:(L++[c]).take L.length=L:=by simp
 unfold trunc
 rw [show (L++[c]).length - L.length=1 by simp]
 unfold strip
 simp only [Nat.add_zero,e2,h0,h1,Bool.and_self,if_true,strip]
theorem fBtr1 {n:Nat} {k:IntKind} {z:Int} {L G:List B} {c:B} {K:List B→Prop} (hL:L.length=n) (hG:G=L++[c]) (h:hbelow n L=true) (hk:K L):fB (trunc n [.int k z] G) K :=
 fB.mk (by subst hG;rw [trunc_one hL rfl h];exact hk)
theorem blos_tg {n:Nat}:∀ {tm:List V} {i:Nat},blos n tm=true→(tg tm i).blo n=true
 | [],_,_=>by simp [tg,V.blo]
 | v :: l,0,h=>by simp only [blos,Bool.and_eq_true] at h;exact h.1
 | v :: l,i+1,h=>by simp only [blos,Bool.and_eq_true] at h;exact blos_tg (tm:=l) (i:=i) h.2
theorem strip_keep {n i id:Nat} {tm:List V} {b:B} (hv:∀ k,(tg tm i).blo k=true→id<k):∀ {j:Nat} {h:List B},h.length=n+j→bget h id=some b→bget (strip n tm j h) id=some b
 | 0,h,_,e=>e
 | j+1,h,hl,e=>by
  unfold strip
  split
  ·rename_i hc
   rw [Bool.and_eq_true] at hc
   have hid:=hv _ (blos_tg (i:=i) hc.1)
   exact strip_keep hv (by rw [List.length_take];omega) (by rw [bget_take hid];exact e)
  ·exact e
theorem strip_len {n:Nat} {tm:List V}:∀ {j:Nat} {h:List B},h.length=n+j→n≤(strip n tm j h).length
 | 0,h,hl=>by unfold strip;omega
 | j+1,h,hl=>by
  unfold strip
  split
  ·exact strip_len (by rw [List.length_take];omega)
  ·omega
theorem norm_keep {m:List Bool} {n i id:Nat} {s:St} {b:B} (hn:n≤s.h.length) (hv:∀ k,(tg (masked m s.tm) i).blo k=true→id<k) (e:bget s.h id=some b):bget (norm m n s).h id=some b :=
 strip_keep (i:=i) hv (by omega) e
theorem norm_len {m:List Bool} {n:Nat} {s:St} (hn:n≤s.h.length):n≤(norm m n s).h.length:=strip_len (by omega)
theorem NextP.of {α:Type} {P:α→Prop} {I:α→St} {μ:α→Nat} {a:α} {s:St} (f:List B→α) (h1:P (f s.h)) (h2:μ (f s.h)<μ a) (h3:s=I (f s.h)):NextP P I μ a s:=⟨f s.h,h1,h2,h3⟩
theorem CallP.heap {F:Nat→Option Fc} {md ro f a h h' K} (e:h=h') (hc:CallP F md ro f a h' K):CallP F md ro f a h K:=by subst e;exact hc
theorem bget_lop {hh:List B} {L:B} {n:Nat} (e:hh.length=n):bget (hh++[L]) (n+0)=some L:=by subst e;exact bget_new (i:=0)
theorem bset_lop {hh:List B} {L L' : B} {n:Nat} (e:hh.length=n):bset (hh++[L]) (n+0) L' = hh++[L']:=by subst e;rw [bset_new];rfl
theorem fB.lop {hh g:List B} {L L' : B} {n:Nat} {K:List B→Prop} (e:hh.length=n) (hk:K ((hh++[L'])++g)):fB (bset ((hh++[L])++g) (n+0) L') K:=fB.mk (by rw [bset_app (by rw [List.length_append,e];exact Nat.lt_succ_self n),bset_lop e];exact hk)
theorem fLen.as {h:List B} {n:Nat} {K:Nat→Prop} (e:h.length=n) (hk:K (n+0)):fLen h 0 K:=by subst e;exact fLen.mk hk
theorem bset_two {h:List B} {n:Nat} {a b:B}:bset (bset h n a) n b=bset h n b:=by rw [bset_eq,bset_eq,bset_eq,List.set_set]
def Cl (h:List B):Prop:=hbelow h.length h=true
theorem Bblo_mono {n m:Nat} (h:n≤m):∀ (b:B),b.blo n=true→b.blo m=true
 | .blk c dat,e=>by
  simp only [B.blo,Bool.or_eq_true] at e ⊢
  rcases e with e | e
  ·exact .inl e
  ·exact .inr (blos_mono h _ e)
 | .unborn,_=>rfl
 | .lop _ _ tm _ _ _,e=>blos_mono h tm e
 | .mp ks vs,e=>by simp only [B.blo,Bool.and_eq_true] at e ⊢; exact ⟨blos_mono h _ e.1,blos_mono h _ e.2⟩
 | .mq _ _ ks vs,e=>by simp only [B.blo,Bool.and_eq_true] at e ⊢; exact ⟨blos_mono h _ e.1,blos_mono h _ e.2⟩
 | .it a _ _ _,e=>by simp only [B.blo,decide_eq_true_eq] at e ⊢; omega
 | .ir _ _ _,_=>rfl
theorem hbelow_mono {n m:Nat} (h:n≤m):∀ (l:List B),hbelow n l=true→hbelow m l=true
 | [],_=>rfl
 | b :: l,e=>by simp only [hbelow,Bool.and_eq_true] at e ⊢; exact ⟨Bblo_mono h b e.1,hbelow_mono h l e.2⟩
theorem Cl.app {h:List B} {b:B} (c:Cl h) (e:b.blo h.length=true):Cl (h++[b]):=by
 unfold Cl
 rw [List.length_append]
 exact hbelow_mono (Nat.le_add_right _ _) _ (hbelow_snoc c e)
theorem hbelow_set {m:Nat} {b:B} (e:b.blo m=true):∀ {h:List B} {n:Nat},hbelow m h=true→hbelow m (bset h n b)=true
 | [],n,_=>by cases n <;> rfl
 | a :: l,0,c=>by simp only [bset,hbelow,Bool.and_eq_true] at c ⊢; exact ⟨e,c.2⟩
 | a :: l,n+1,c=>by simp only [bset,hbelow,Bool.and_eq_true] at c ⊢; exact ⟨c.1,hbelow_set e c.2⟩
theorem Cl.set {h:List B} {n:Nat} {b:B} (c:Cl h) (e:b.blo h.length=true):Cl (bset h n b):=by
 unfold Cl;rw [bset_len];exact hbelow_set e c
theorem strip_cl {n:Nat} {tm:List V}:∀ {j:Nat} {h:List B},h.length=n+j→Cl h→Cl (strip n tm j h)
 | 0,h,_,c=>c
 | j+1,h,hl,c=>by
  unfold strip
  split
  ·rename_i hc
   rw [Bool.and_eq_true] at hc
   have hl' : (h.take (n+j)).length=n+j:=by rw [List.length_take];omega
   exact strip_cl hl' (by unfold Cl;rw [hl'];exact hc.2)
  ·exact c
theorem norm_cl {m:List Bool} {n:Nat} {s:St} (hn:n≤s.h.length) (c:Cl s.h):Cl (norm m n s).h:=strip_cl (by omega) c
theorem fB.two {hh:List B} {n:Nat} {L bx b:B} {K:List B→Prop} (hn:n<hh.length) (hk:K ((bset hh n b++[L])++[bx])):fB (bset ((hh++[L])++[bx]) n b) K :=
 fB.mk (by rw [bset_app (by rw [List.length_append];omega),bset_app hn];exact hk)
theorem end_eq {hh:List B} {v:V} {L L' bx:B} {m n:Nat} {K:V→List B→Prop} (hk:K v (hh++[L])) (e:hh.length=n) (hm:m=n+1) (c:Cl hh) (hb:L'.blo n=true):K v (bset (trunc m [] ((hh++[L'])++[bx])) (n+0) L):=by
 have hl:(hh++[L']).length=m:=by rw [List.length_append,e,hm];rfl
 have c2:Cl (hh++[L']):=c.app (by rw [e];exact hb)
 rw [trunc_one hl rfl (by have:=c2;unfold Cl at this;rw [hl] at this;exact this),bset_lop e]
 exact hk
theorem fB.lop1 {hh:List B} {L L' : B} {n:Nat} {K:List B→Prop} (e:hh.length=n) (hk:∀ h3,h3=hh++[L']→K h3):fB (bset (hh++[L]) (n+0) L') K:=fB.mk (by rw [bset_lop e];exact hk _ rfl)
theorem fB.as {l l' : List B} {K:List B→Prop} (e:l=l') (h:K l'):fB l K:=fB.mk (e ▸ h)
theorem fV.as {l l' : List V} {K:List V→Prop} (e:l=l') (h:K l'):fV l K:=fV.mk (e ▸ h)
theorem fB.gen {h:List B} {n:Nat} {b:B} {K:List B→Prop} (hn:n<h.length) (hc:Cl h) (hb:b.blo h.length=true) (hk:∀ h', Cl h' → h'.length=h.length→bget h' n=some b→(∀ m,n≠m→bget h' m=bget h m)→K h'):fB (bset h n b) K :=
 fB.mk (hk _ (hc.set hb) (bset_len ..) (bget_same hn) fun m hm=>bset_other hm)
theorem fBtr1c {n:Nat} {k:IntKind} {z:Int} {L:List B} {c:B} {K:List B→Prop} (hL:L.length=n) (hc:Cl L) (hk:K L):fB (trunc n [.int k z] (L++[c])) K:=by
 subst hL
 exact fBtr1 (L:=L) rfl rfl hc hk
end Go.Dr.T
