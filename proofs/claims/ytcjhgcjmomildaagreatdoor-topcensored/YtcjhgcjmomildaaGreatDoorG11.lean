/- TopCensored: what lies in the law's blocks behind k shots. -/
import Derived.Test.YtcjhgcjmomildaaGreatDoorG9
import Derived.Test.YtcjhgcjmomildaaGreatDoorG10
namespace Go.Dr.T
def Lw (h:List B) (l:List (Int × Int)) (v:V):Prop:=(l=[]∧v = .nilsl)∨(l≠[]∧v = .sl true l.length (shC l))∨∃ q,l≠[]∧v = .ms 2 (q+2) (l.length * 2) 0 l.length false∧bget h (q+2)=some (.blk (shC l) true)
theorem Lw.app {h:List B} {l:List (Int × Int)} {v:V} {b:B} (e:Lw h l v):Lw (h++[b]) l v:=by
 rcases e with e | e | ⟨q,e1,e2,e3⟩
 ·exact .inl e
 ·exact .inr (.inl e)
 ·exact .inr (.inr ⟨q,e1,e2,bget_app e3⟩)
theorem Lw.set {h:List B} {l:List (Int × Int)} {v:V} {b:B} {n:Nat} (e:Lw h l v) (hn:n<2∨idOf v≠n∨v = .nilsl):Lw (bset h n b) l v:=by
 rcases e with e | e | ⟨q,e1,e2,e3⟩
 ·exact .inl e
 ·exact .inr (.inl e)
 ·subst e2
  refine .inr (.inr ⟨q,e1,rfl,?_⟩)
  have hne:n≠q+2:=by
   rcases hn with h | h | h
   ·omega
   ·exact fun e=>h e.symm
   ·cases h
  rw [bset_other hne]
  exact e3
theorem Lw.view {h:List B} {l:List (Int × Int)} {v:V} {d:Nat} (e:Lw h l v):∃ c,Vw h (d+2) v (.sl c l.length (shC l)):=by
 rcases e with ⟨rfl,rfl⟩ | ⟨_,rfl⟩ | ⟨q,e1,rfl,e3⟩
 ·exact ⟨true,Vw.nil⟩
 ·exact ⟨true,Vw.sl⟩
 ·exact ⟨false,Vw.ms (d:=d+1) e3 (shC_length _) (part_all (shC_length _)) (views_shC (d:=d) _)⟩
theorem Lw.alive {h:List B} {l:List (Int × Int)} {v:V} (e:Lw h l v):v ≠ .dead:=by
 rcases e with ⟨_,rfl⟩ | ⟨_,rfl⟩ | ⟨q,_,rfl,_⟩ <;> simp
theorem Lw.norm {h:List B} {l:List (Int × Int)} {v:V} {m:List Bool} {n i:Nat} {tm:List V} (hn:n≤h.length) (e:Lw h l v) (hv:tg (masked m tm) i=v):Lw (norm m n ⟨tm,h⟩).h l v:=by
 rcases e with e | e | ⟨q,e1,rfl,e3⟩
 ·exact .inl e
 ·exact .inr (.inl e)
 ·exact .inr (.inr ⟨q,e1,rfl,norm_keep (i:=i) hn (fun k hk=>by rw [hv] at hk;exact of_decide_eq_true hk) e3⟩)
theorem Lw.lt {h:List B} {l:List (Int × Int)} {v:V} (e:Lw h l v) (h0:0<h.length):idOf v<h.length:=by
 rcases e with ⟨_,rfl⟩ | ⟨_,rfl⟩ | ⟨q,_,rfl,e3⟩
 ·exact h0
 ·exact h0
 ·exact bget_lt e3
abbrev intC (l:List Int):List V:=l.map fun n=>.int .i64 n
def vQ (es d n:Nat):Option Nat→V
 | none=>.nilsl
 | some q=>.ms es (q+d) (n * es) 0 n false
abbrev yB (x:El) (v:V):B:=.blk [.str x.nm,v,.int .i64 x.g] false
structure CI (x:El) (b:Int) (back:Bool) (k:Nat) (h:List B) (v:V) (o:Option Nat):Prop where
 cl:Cl h
 b0:bget h 0=some (elB x)
 b1:bget h 1=some (yB x (vQ 2 5 (ksT b k).length o))
 lC:Lw h (cuT b back x.l k) v
 no:o=none→ksT b k=[]
 so:∀ q,o=some q→ksT b k≠[]∧(v = .nilsl∨idOf v<q+2∨q+5<idOf v)∧bget h (q+2)=some (.blk (intC (bT b x.l k)) true)∧bget h (q+3)=some (.blk (intC (aT b x.l k)) true)∧bget h (q+4)=some (.blk (shC (wanT (ksT b k) 0)) true)∧bget h (q+5)=some (.blk (shC (kT b x.l k)) true)
theorem CI.norm {x:El} {b:Int} {back:Bool} {k n:Nat} {h:List B} {v:V} {o:Option Nat} {m:List Bool} {tm:List V} {a a' c c' : Nat} (hn:n≤h.length) (e:CI x b back k h v o)
  (h3:tg (masked m tm) 3 = .ref 0 a a') (h12:tg (masked m tm) 12 = .ref 1 c c') (h13:tg (masked m tm) 13=v)
  (h14:tg (masked m tm) 14=vQ 1 2 (ksT b k).length o) (h15:tg (masked m tm) 15=vQ 1 3 (ksT b k).length o) (h16:tg (masked m tm) 16=vQ 2 4 (ksT b k).length o):CI x b back k (norm m n ⟨tm,h⟩).h v o:=by
 have n1:bget (Dr.norm m n ⟨tm,h⟩).h 1=some (yB x (vQ 2 5 (ksT b k).length o)):=norm_keep (i:=12) hn (fun k hk=>by rw [h12] at hk;exact of_decide_eq_true hk) e.b1
 refine ⟨norm_cl hn e.cl,norm_keep (i:=3) hn (fun k hk=>by rw [h3] at hk;exact of_decide_eq_true hk) e.b0,n1,e.lC.norm hn h13,e.no,fun q hq => ?_⟩
 obtain ⟨s1,s2,s3,s4,s5,s6⟩:=e.so q hq
 subst hq
 refine ⟨s1,s2,norm_keep (i:=14) hn (fun k hk=>by rw [h14] at hk;exact of_decide_eq_true hk) s3,norm_keep (i:=15) hn (fun k hk=>by rw [h15] at hk;exact of_decide_eq_true hk) s4,norm_keep (i:=16) hn (fun k hk=>by rw [h16] at hk;exact of_decide_eq_true hk) s5,norm_with hn e.cl n1 (fun k hk => ?_) s6⟩
 simp only [B.blo,blos,V.blo,vQ,Bool.false_or,Bool.and_true,Bool.true_and] at hk
 exact of_decide_eq_true hk
theorem CI.cut {x:El} {b:Int} {back:Bool} {k:Nat} {h:List B} {v:V} {o:Option Nat} {C:List (Int × Int)} (e:CI x b back k h v o) (hb:bitB b k=false) (hc:cuT b back x.l (k+1)=C) (h0:C≠[]):CI x b back (k+1) (h++[.blk (shC C) true]) (.ms 2 h.length (C.length * 2) 0 C.length false) o:=by
 have hl:=bget_lt e.b1
 obtain ⟨q,hq⟩:∃ q,h.length=q+2:=⟨h.length - 2,by omega⟩
 have hn:bget (h++[.blk (shC C) true]) (q+2)=some (.blk (shC C) true):=by rw [← hq];exact bget_new (i:=0)
 have hk:=ksT_f hb
 refine ⟨e.cl.app rfl,bget_app e.b0,by rw [hk];exact bget_app e.b1,.inr (.inr ⟨q,by rw [hc];exact h0,by rw [hc,hq],by rw [hc];exact hn⟩),by rw [hk];exact e.no,fun q' hq' => ?_⟩
 obtain ⟨s1,s2,s3,s4,s5,s6⟩:=e.so q' hq'
 have:=bget_lt s6
 rw [hk,bT_f hb,aT_f hb,kT_f hb]
 exact ⟨s1,.inr (.inr this),bget_app s3,bget_app s4,bget_app s5,bget_app s6⟩
theorem CI.cutG {x:El} {b:Int} {k q:Nat} {h:List B} {o:Option Nat} {C:List (Int × Int)} {p:Int × Int} (h0:C≠[]) (e:CI x b false k h (.ms 2 (q+2) (C.length * 2) 0 C.length false) o) (hcC:cuT b false x.l k=C) (hb:bitB b k=false) (hc:cuT b false x.l (k+1)=C++[p]):CI x b false (k+1) (bset h (q+2) (.blk (shC (C++[p])) true)) (.ms 2 (q+2) ((C++[p]).length * 2) 0 (C++[p]).length false) o:=by
 have hk:=ksT_f hb
 have hbq:bget h (q+2)=some (.blk (shC C) true):=by
  rcases e.lC with ⟨h1,h2⟩ | ⟨_,h2⟩ | ⟨q', _,h2,h3⟩
  ·cases h2
  ·cases h2
  ·simp only [V.ms.injEq] at h2
   obtain ⟨_,h2,_⟩:=h2
   rw [h2,h3,hcC]
 refine ⟨e.cl.set (b:=.blk _ true) rfl,by rw [bset_other (by omega)];exact e.b0,by rw [bset_other (by omega),hk];exact e.b1,.inr (.inr ⟨q,by rw [hc];simp,by rw [hc],by rw [hc];exact bget_same (bget_lt hbq)⟩),by rw [hk];exact e.no,fun q' hq' => ?_⟩
 obtain ⟨s1,s2,s3,s4,s5,s6⟩:=e.so q' hq'
 have s2' : q+2<q' + 2∨q' + 5<q+2:=by
  rcases s2 with h | h
  ·cases h
  ·exact h
 rw [hk,bT_f hb,aT_f hb,kT_f hb,bset_other (by omega),bset_other (by omega),bset_other (by omega),bset_other (by omega)]
 exact ⟨s1,.inr s2', s3,s4,s5,s6⟩
theorem CI.cutV {x:El} {b:Int} {back:Bool} {k:Nat} {h:List B} {v:V} {o:Option Nat} {C:List (Int × Int)} (e:CI x b back k h v o) (hb:bitB b k=false) (hc:cuT b back x.l (k+1)=C) (h0:C≠[]):CI x b back (k+1) h (.sl true C.length (shC C)) o:=by
 have hk:=ksT_f hb
 refine ⟨e.cl,e.b0,by rw [hk];exact e.b1,.inr (.inl ⟨by rw [hc];exact h0,by rw [hc]⟩),by rw [hk];exact e.no,fun q' hq' => ?_⟩
 obtain ⟨s1,s2,s3,s4,s5,s6⟩:=e.so q' hq'
 rw [hk,bT_f hb,aT_f hb,kT_f hb]
 exact ⟨s1,.inr (.inl (Nat.zero_lt_succ _)),s3,s4,s5,s6⟩
theorem CI.app {x:El} {b:Int} {back:Bool} {k:Nat} {h:List B} {v:V} {o:Option Nat} {B' : B} (e:CI x b back k h v o) (hb:B'.blo h.length=true):CI x b back k (h++[B']) v o :=
 ⟨e.cl.app hb,bget_app e.b0,bget_app e.b1,e.lC.app,e.no,fun q hq=>by
  obtain ⟨s1,s2,s3,s4,s5,s6⟩:=e.so q hq
  exact ⟨s1,s2,bget_app s3,bget_app s4,bget_app s5,bget_app s6⟩⟩
theorem CI.unb {x:El} {b:Int} {back:Bool} {k:Nat} {v:V} {o:Option Nat}:∀ {n:Nat} {h:List B},CI x b back k h v o→CI x b back k (h++unborns n) v o
 | 0,h,e=>by unfold unborns;rw [List.append_nil];exact e
 | n+1,h,e=>by
  have:=(e.app (B' := .unborn) rfl).unb (n:=n)
  rwa [List.append_assoc] at this
theorem CI.keep0 {x:El} {b:Int} {back:Bool} {k:Nat} {h:List B} {v:V} {B1 B2 B3 B4:B} {q:Nat} (hq:h.length=q+2) (e:CI x b back k h v none) (hb:bitB b k=true) (e1:B1 = .blk (intC [atT b x.l k]) true) (e2:B2 = .blk (intC [leT b x.l k]) true) (e3:B3 = .blk (shC [((k:Int),(0:Int))]) true) (e4:B4 = .blk (shC [x.l.getD k (0,0)]) true):CI x b back (k+1) (bset ((((h++[B1])++[B2])++[B3])++[B4]) 1 (yB x (.ms 2 (q+5) (1 * 2) 0 1 false))) v (some q):=by
 subst e1 e2 e3 e4
 have h0:=e.no rfl
 have hk:ksT b (k+1)=[k]:=by rw [ksT_t hb,h0];rfl
 have hB:bT b x.l (k+1)=[atT b x.l k]:=by
  have:=(bT_len (b:=b) (l:=x.l) (k:=k)).1
  rw [h0] at this
  rw [bT_t hb,List.eq_nil_of_length_eq_zero this];rfl
 have hA:aT b x.l (k+1)=[leT b x.l k]:=by
  have:=(bT_len (b:=b) (l:=x.l) (k:=k)).2
  rw [h0] at this
  rw [aT_t hb,List.eq_nil_of_length_eq_zero this];rfl
 have hK:kT b x.l (k+1)=[x.l.getD k (0,0)]:=by rw [kT_t hb];unfold kT;rw [h0];rfl
 have g2:∀ X Y Z W:B,bget ((((h++[X])++[Y])++[Z])++[W]) (q+2)=some X:=fun X Y Z W=>by
  rw [← hq];exact bget_app (bget_app (bget_app (bget_new (i:=0))))
 have g3:∀ X Y Z W:B,bget ((((h++[X])++[Y])++[Z])++[W]) (q+3)=some Y:=fun X Y Z W=>by
  have:(h++[X]).length=q+3:=by rw [List.length_append,hq];rfl
  rw [← this];exact bget_app (bget_app (bget_new (i:=0)))
 have g4:∀ X Y Z W:B,bget ((((h++[X])++[Y])++[Z])++[W]) (q+4)=some Z:=fun X Y Z W=>by
  have:((h++[X])++[Y]).length=q+4:=by rw [List.length_append,List.length_append,hq];rfl
  rw [← this];exact bget_app (bget_new (i:=0))
 have g5:∀ X Y Z W:B,bget ((((h++[X])++[Y])++[Z])++[W]) (q+5)=some W:=fun X Y Z W=>by
  have:(((h++[X])++[Y])++[Z]).length=q+5:=by rw [List.length_append,List.length_append,List.length_append,hq];rfl
  rw [← this];exact bget_new (i:=0)
 have hll:∀ X Y Z W:B,((((h++[X])++[Y])++[Z])++[W]).length=q+6:=fun X Y Z W=>by
  rw [List.length_append,List.length_append,List.length_append,List.length_append,hq];rfl
 have c4:=(((e.cl.app (b:=.blk (intC [atT b x.l k]) true) rfl).app (b:=.blk (intC [leT b x.l k]) true) rfl).app (b:=.blk (shC [((k:Int),(0:Int))]) true) rfl).app (b:=.blk (shC [x.l.getD k (0,0)]) true) rfl
 have hlt:=e.lC.lt (by omega)
 refine ⟨c4.set ?_,?_,?_,?_,fun h=>(by cases h),fun q' hq' => ?_⟩
 ·rw [hll]
  simp only [B.blo,blos,V.blo,Bool.false_or,Bool.and_true,Bool.true_and]
  exact decide_eq_true (by omega)
 ·rw [bset_other (by decide)]
  exact bget_app (bget_app (bget_app (bget_app e.b0)))
 ·rw [bget_same (by rw [hll];omega),hk];rfl
 ·rw [cuT_t hb]
  exact (e.lC.app.app.app.app).set (.inl (by decide))
 ·cases hq'
  rw [hk,hB,hA,hK,bset_other (by omega),bset_other (by omega),bset_other (by omega),bset_other (by omega),g2,g3,g4,g5]
  refine ⟨by simp,?_,rfl,rfl,rfl,rfl⟩
  exact .inr (.inl (by omega))
theorem CI.keep0' {x:El} {b:Int} {back:Bool} {k:Nat} {h H:List B} {v:V} {B1 B2 B3 B4 Y:B} {q n1:Nat} (hH:H=bset (((h++[B1,B2])++[B3])++[B4]) n1 Y) (hn:n1=1) (hq:h.length=q+2) (e:CI x b back k h v none) (hb:bitB b k=true) (e1:B1 = .blk (intC [atT b x.l k]) true) (e2:B2 = .blk (intC [leT b x.l k]) true) (e3:B3 = .blk (shC [((k:Int),(0:Int))]) true) (e4:B4 = .blk (shC [x.l.getD k (0,0)]) true) (eY:Y=yB x (.ms 2 (q+5) (1 * 2) 0 1 false)):CI x b back (k+1) H v (some q):=by
 subst hH hn eY
 have:=CI.keep0 hq e hb e1 e2 e3 e4
 rwa [List.append_assoc h [B1] [B2]] at this
theorem ksT_1 {x:El} {b:Int} {back:Bool} {k:Nat} {h:List B} {v:V} (e:CI x b back k h v none) (hb:bitB b k=true):(ksT b (k+1)).length=1:=by rw [ksT_t hb,e.no rfl];rfl
theorem CI.keepS {x:El} {b:Int} {back:Bool} {k:Nat} {h:List B} {v:V} {q:Nat} (e:CI x b back k h v (some q)) (hb:bitB b k=true):CI x b back (k+1) (bset (bset (bset (bset (bset h (q+2) (.blk (intC (bT b x.l (k+1))) true)) (q+3) (.blk (intC (aT b x.l (k+1))) true)) (q+4) (.blk (shC (wanT (ksT b (k+1)) 0)) true)) (q+5) (.blk (shC (kT b x.l (k+1))) true)) 1 (yB x (vQ 2 5 (ksT b (k+1)).length (some q)))) v (some q):=by
 obtain ⟨s1,s2,s3,s4,s5,s6⟩:=e.so q rfl
 have l6:=bget_lt s6
 have l1:=bget_lt e.b1
 have hset:∀ {h:List B} {n:Nat} {c:List V},Lw h (cuT b back x.l k) v→q+2≤n→n≤q+5→Lw (bset h n (.blk c true)) (cuT b back x.l k) v:=fun hL h1 h2=>hL.set (.inr (by
  rcases s2 with h | h
  ·exact .inr h
  ·exact .inl (by omega)))
 refine ⟨?_,?_,?_,?_,fun h=>(by cases h),fun q' hq' => ?_⟩
 ·refine Cl.set (Cl.set (Cl.set (Cl.set (Cl.set e.cl rfl) rfl) rfl) rfl) ?_
  rw [bset_len,bset_len,bset_len,bset_len]
  simp only [B.blo,blos,V.blo,vQ,Bool.false_or,Bool.and_true,Bool.true_and]
  exact decide_eq_true l6
 ·rw [bset_other (by omega),bset_other (by omega),bset_other (by omega),bset_other (by omega),bset_other (by omega)];exact e.b0
 ·rw [bget_same (by rw [bset_len,bset_len,bset_len,bset_len];exact l1)]
 ·rw [cuT_t hb]
  exact (hset (hset (hset (hset e.lC (by omega) (by omega)) (by omega) (by omega)) (by omega) (by omega)) (by omega) (by omega)).set (.inl (by decide))
 ·cases hq'
  refine ⟨by rw [ksT_t hb];simp,s2,?_,?_,?_,?_⟩
  ·rw [bset_other (by omega),bset_other (by omega),bset_other (by omega),bset_other (by omega),bget_same (by omega)]
  ·rw [bset_other (by omega),bset_other (by omega),bset_other (by omega),bget_same (by rw [bset_len];omega)]
  ·rw [bset_other (by omega),bset_other (by omega),bget_same (by rw [bset_len,bset_len];omega)]
  ·rw [bset_other (by omega),bget_same (by rw [bset_len,bset_len,bset_len];omega)]
theorem CI.keepS' {x:El} {b:Int} {back:Bool} {k:Nat} {h:List B} {v:V} {q n1:Nat} {c2 c3 c4 c5:List V} {Y:B} (e:CI x b back k h v (some q)) (hb:bitB b k=true) (hn:n1=1) (e2:c2=intC (bT b x.l (k+1))) (e3:c3=intC (aT b x.l (k+1))) (e4:c4=shC (wanT (ksT b (k+1)) 0)) (e5:c5=shC (kT b x.l (k+1))) (eY:Y=yB x (vQ 2 5 (ksT b (k+1)).length (some q))):CI x b back (k+1) (((bset (bset (bset (bset (bset h (q+2) (.blk c2 true)) (q+3) (.blk c3 true)) (q+4) (.blk c4 true)) (q+5) (.blk c5 true)) n1 Y++unborns 2)++unborns 1)++unborns 1) v (some q):=by
 subst e2 e3 e4 e5 eY hn
 exact (CI.keepS e hb).unb.unb.unb
end Go.Dr.T
namespace Go.Dr.T
structure KH (σ:Type) where
 k:Nat
 s:σ
 h:List B
theorem norm_h {m:List Bool} {n:Nat} {tm:List V} {h:List B}:(norm m n ⟨tm,h⟩).h=trunc n (masked m tm) h:=rfl
set_option maxRecDepth 100000 in
set_option maxHeartbeats 20000000 in
theorem begins_callH {σ:Type} {Hp:σ × Bool→List B→Prop} {N0 id:Nat} {ok:σ→Nat × Nat→Bool} {nx:σ→Nat × Nat→σ} {a b:Sh} {sl:Int} {f:Nat→Nat→Int} {i j:Nat} {s0:σ} {h0:List B} {K:V→List B→Prop}
  (ha:shOk a.l) (hb:shOk b.l) (hs:0≤sl∧sl≤200000) (hf:∀ k l,0≤f k l∧f k l≤8000000) (hi:i≤a.l.length) (hj:j≤b.l.length)
  (hle:∀ q h,Hp q h→N0≤h.length) (htr:∀ q h n tm,N0≤n→Hp q h→Hp q (trunc n tm h)) (hI:Hp (s0,true) h0)
  (hy:∀ s h (k l:Nat) (K:V→List B→Prop),Hp (s,true) h→i≤k→k<a.l.length→j≤l→l<b.l.length→(∀ h', Hp (nx s (k,l),ok s (k,l)) h' → K (.bool (ok s (k,l))) h')→CallP FB md 0 (.yld id) [.agg [.int .i64 (k:Nat),.int .i64 (l:Nat)]] h K)
  (hk:∀ h', Hp (goR ok nx s0 (bgs (shA a.l b.l sl) f a.l.length b.l.length i j)) h' → K (.tup []) h'):CallP FB md 0 (.fn 47 [.rp [.int .i64 (i:Nat)] 0,.rp [.rp (pC a b sl f) 0] 0,.rp [.int .i64 (j:Nat)] 0]) [.yld id] h0 K:=by
 have hal:=ha.1
 have hbl:=hb.1
 have hJ0:j<41:=by omega
 have hI0:i<41:=by omega
 have fx:∀ p q:Nat,0+3+p * 41+q * 1=3+p * 41+q:=fun p q=>by omega
 have cij:=pC_t (a:=a) (b:=b) (s:=sl) (f:=f) hI0 hJ0
 rw [← fx] at cij
 unfold bgs at hk
 have hfij:=hf i j
 have hl0:=hle _ _ hI
 have hend:∀ q h,Hp q h→q=goR ok nx s0 (bgF (shA a.l b.l sl) f a.l.length b.l.length (f i j) j i)→K (.tup []) (trunc h0.length [.tup []] h):=fun q h hq e=>hk _ (by rw [← e];exact htr q h _ _ hl0 hq)
 refine call_one rfl rfl rfl ?_
 repeat' (first
 | (conv=>whnf)
   first
   | refine fLen.mk ?_
   | refine fB.i0 ?_
   | refine Get.mk _ rfl ?_)
 refine LoopP.by (fun a' : KH σ=>i≤a'.k∧Hp (a'.s,true) a'.h∧goR ok nx s0 (bgF (shA a.l b.l sl) f a.l.length b.l.length (f i j) j i)=goR ok nx a'.s (bgF (shA a.l b.l sl) f a.l.length b.l.length (f i j) j a'.k)) (fun a' => [(5,.int .i64 (a'.k:Nat))]) (fun a' => a'.h) (fun a' => a.l.length - a'.k) ⟨i,s0,h0⟩ ⟨Nat.le_refl _,hI,rfl⟩ rfl ?_
 rintro ⟨k,s,h⟩ ⟨w1,w2,w3⟩
 dsimp only at w1 w2 w3 ⊢
 have hlh:=hle _ _ w2
 by_cases hkn:k<a.l.length
 rotate_left
 ·rw [bgF_end (fun h=>hkn h.1)] at w3
  repeat' (first
 | (conv=>whnf)
   first
   | refine Br.f ?_
   | (refine Br.decF ?_ ?_;(focus first | assumption | omega))
   | refine fLen.mk ?_
   | refine fB.i0 ?_
   | refine fB.mk ?_
   | refine Get.mk _ pC_0 ?_
   | refine Get.mk _ rfl ?_
   | refine Ends.of ?_)
  all_goals first | exact hend _ _ w2 w3.symm | (exfalso;omega)
 have hK0:k<41:=by omega
 have hK1:k+1<41:=by omega
 have ckj:=pC_t (a:=a) (b:=b) (s:=sl) (f:=f) hK0 hJ0
 rw [← fx] at ckj
 by_cases hv:f k j=f i j
 rotate_left
 ·rw [bgF_end (fun h=>hv h.2)] at w3
  repeat' (first
 | (conv=>whnf)
   first
   | refine Idx.nat (Nat.le_of_lt_succ hK0) ?_
   | refine Idx.nat (Nat.le_of_lt_succ hJ0) ?_
   | refine Idx.nat (Nat.le_of_lt_succ hI0) ?_
   | (refine Br.decT ?_ ?_;(focus first | assumption | omega))
   | (refine Br.decF ?_ ?_;(focus first | assumption | omega))
   | refine fLen.mk ?_
   | refine fB.i0 ?_
   | refine fB.mk ?_
   | refine Get.mk _ pC_0 ?_
   | refine Get.mk _ ckj ?_
   | refine Get.mk _ cij ?_
   | refine Get.mk _ rfl ?_
   | refine Ends.of ?_)
  all_goals first | exact hend _ _ w2 w3.symm | (exfalso;omega)
 rw [bgF_step ⟨hkn,hv⟩] at w3
 obtain ⟨x,hx⟩:∃ x,a.l[k]?=some x:=⟨_,List.getElem?_eq_getElem hkn⟩
 repeat' (first
 | (conv=>whnf)
   first
   | refine Idx.nat (Nat.le_of_lt_succ hK0) ?_
   | refine Idx.nat (Nat.le_of_lt_succ hJ0) ?_
   | refine Idx.nat (Nat.le_of_lt_succ hI0) ?_
   | (refine Br.decT ?_ ?_;(focus first | assumption | omega))
   | refine fLen.mk ?_
   | refine fB.i0 ?_
   | refine fB.mk ?_
   | refine Get.mk _ pC_0 ?_
   | refine Get.mk _ ckj ?_
   | refine Get.mk _ cij ?_
   | refine Get.mk _ rfl ?_)
 all_goals try (exfalso;omega)
 refine LoopP.by (fun a' : KH σ=>j≤a'.k∧Hp (a'.s,true) a'.h∧goR ok nx s (bgR (shA a.l b.l sl) f b.l.length (f i j) j k++bgF (shA a.l b.l sl) f a.l.length b.l.length (f i j) j (k+1))=goR ok nx a'.s (bgR (shA a.l b.l sl) f b.l.length (f i j) a'.k k++bgF (shA a.l b.l sl) f a.l.length b.l.length (f i j) j (k+1))) (fun a' => [(6,.int .i64 (a'.k:Nat))]) (fun a' => a'.h) (fun a' => b.l.length - a'.k) ⟨j,s,h⟩ ⟨Nat.le_refl _,w2,rfl⟩ rfl ?_
 rintro ⟨l,s', h1⟩ ⟨v1,v2,v3⟩
 dsimp only at v1 v2 v3 ⊢
 by_cases hlm:l<b.l.length
 rotate_left
 ·rw [bgR_end (m:=b.l.length) (l:=l) (by omega),List.nil_append] at v3
  repeat' (first
 | (conv=>whnf)
   first
   | (refine Br.decF ?_ ?_;(focus first | assumption | omega))
   | (refine Bnd.i64 ?_ ?_ ?_;(focus omega);(focus omega))
   | refine fLen.mk ?_
   | refine fB.i0 ?_
   | refine fB.mk ?_
   | refine Get.mk _ pC_1 ?_
   | refine Get.mk _ rfl ?_)
  all_goals first | (exfalso;omega;done) | exact NextP.of (fun N=>(⟨k+1,s', N⟩:KH σ)) ⟨by dsimp only;omega,htr _ _ _ _ hl0 v2,by dsimp only;rw [w3,v3]⟩ (by dsimp only;omega) rfl
 obtain ⟨y,hy'⟩:∃ y,b.l[l]?=some y:=⟨_,List.getElem?_eq_getElem hlm⟩
 have hL1:l+1<41:=by omega
 have ckl:=pC_t (a:=a) (b:=b) (s:=sl) (f:=f) hK1 hL1
 rw [← fx] at ckl
 have hfkl:=hf (k+1) (l+1)
 have hsh:=share_fun (f:=f) ha hb hs hx hy'
 have hxm:=ha.2 x (List.mem_of_getElem? hx)
 have hym:=hb.2 y (List.mem_of_getElem? hy')
 have rs:=shr_rng (s:=sl) (x:=x) (y:=y) ⟨hxm.2.2.1,hxm.2.2.2⟩ ⟨hym.2.2.1,hym.2.2.2⟩
 have hS:shA a.l b.l sl k l=shr sl x y:=by unfold shA;rw [List.getD_eq_getElem?_getD,hx,List.getD_eq_getElem?_getD,hy'];rfl
 rw [bgR_step hlm,hS] at v3
 have hkw:IntKind.i64.wrap ((k:Int)+1)=((k+1:Nat):Int):=by rw [wrap_i64 (by omega) (by omega)];omega
 have hlw:IntKind.i64.wrap ((l:Int)+1)=((l+1:Nat):Int):=by rw [wrap_i64 (by omega) (by omega)];omega
 generalize shr sl x y=S at *
 by_cases hc:0<S∧S+f (k+1) (l+1)=f i j
 ·rw [if_pos hc,List.cons_append] at v3
  have hy2:=hy s' h1 k l
  repeat' (first
 | (conv=>whnf)
   first
   | refine Bnd.eq hkw ?_
   | refine Bnd.eq hlw ?_
   | refine Idx.nat (Nat.le_of_lt_succ hK1) ?_
   | refine Idx.nat (Nat.le_of_lt_succ hL1) ?_
   | refine Idx.nat (Nat.le_of_lt_succ hJ0) ?_
   | refine Idx.nat (Nat.le_of_lt_succ hI0) ?_
   | (refine Br.decT ?_ ?_;(focus first | assumption | omega))
   | (refine Bnd.i64 ?_ ?_ ?_;(focus omega);(focus omega))
   | refine fLen.mk ?_
   | refine fB.i0 ?_
   | refine fB.mk ?_
   | refine Get.mk _ pC_1 ?_
   | refine Get.mk _ ckl ?_
   | refine Get.mk _ cij ?_
   | refine call_fun rfl rfl hsh (.inl rfl) ?_
   | refine Get.mk _ rfl ?_)
  all_goals try (exfalso;omega;done)
  refine hy2 _ v2 w1 hkn v1 hlm ?_
  intro h2 hh2
  cases hok:ok s' (k,l) with
  | true =>
   rw [hok] at hh2
   rw [goR_t hok] at v3
   repeat' (first
 | (conv=>whnf)
   first
   | refine Bnd.eq hlw ?_
   | refine Br.f ?_
   | (refine Br.decT ?_ ?_;(focus first | assumption | omega))
   | refine fLen.mk ?_
   | refine fB.i0 ?_)
   all_goals first | (exfalso;omega;done) | exact NextP.of (fun N=>(⟨l+1,nx s' (k,l),N⟩:KH σ)) ⟨by dsimp only;omega,htr _ _ _ _ hlh hh2,by dsimp only;rw [v3]⟩ (by dsimp only;omega) rfl
  | false =>
   rw [hok] at hh2
   rw [goR_f hok] at v3
   repeat' (first
 | (conv=>whnf)
   first
   | refine Br.t ?_
   | (refine Br.decT ?_ ?_;(focus first | assumption | omega))
   | refine fB.mk ?_
   | refine Get.mk _ rfl ?_
   | refine Ends.of ?_)
   all_goals first | (exfalso;omega;done) | exact hend _ _ hh2 (by rw [w3,v3])
 ·rw [if_neg hc] at v3
  repeat' (first
 | (conv=>whnf)
   first
   | refine Bnd.eq hkw ?_
   | refine Bnd.eq hlw ?_
   | refine Idx.nat (Nat.le_of_lt_succ hK1) ?_
   | refine Idx.nat (Nat.le_of_lt_succ hL1) ?_
   | refine Idx.nat (Nat.le_of_lt_succ hJ0) ?_
   | refine Idx.nat (Nat.le_of_lt_succ hI0) ?_
   | refine Br.f ?_
   | (refine Br.decT ?_ ?_;(focus first | assumption | omega))
   | (refine Br.decF ?_ ?_;(focus first | assumption | omega))
   | refine Br.dec (fun _ => ?_) (fun _ => ?_)
   | (refine Bnd.i64 ?_ ?_ ?_;(focus omega);(focus omega))
   | refine fLen.mk ?_
   | refine fB.i0 ?_
   | refine fB.mk ?_
   | refine Get.mk _ pC_1 ?_
   | refine Get.mk _ ckl ?_
   | refine Get.mk _ cij ?_
   | refine call_fun rfl rfl hsh (.inl rfl) ?_
   | refine Get.mk _ rfl ?_)
  all_goals first | (exfalso;omega;done) | exact NextP.of (fun N=>(⟨l+1,s', N⟩:KH σ)) ⟨by dsimp only;omega,htr _ _ _ _ hlh v2,by dsimp only;rw [v3]⟩ (by dsimp only;omega) rfl
end Go.Dr.T
