/- Chapter 06: breadth first over numbers, as the document has it: plain. -/
import Derived.Test.YtfhphjloaelgoaaGreatDoorR06Y6
import Derived.Test.YtfhphjloaelgoaaGreatDoorG12
namespace Go.Dr.T
def lastN:List Nat→Nat
 | []=>0
 | [a]=>a
 | _ :: b :: l=>lastN (b :: l)
theorem lastN_snoc {m:Nat}:∀ {l:List Nat},lastN (l++[m])=m
 | []=>rfl
 | [_]=>rfl
 | _ :: b :: l=>by simpa only [List.cons_append,lastN] using lastN_snoc (m:=m) (l:=b :: l)
theorem lastM_nI:∀ l:List Nat,lastM (nI l)=(lastN l:Nat)
 | []=>rfl
 | [_]=>rfl
 | a :: b :: l=>by
  have:=lastM_nI (b :: l)
  simpa only [nI,List.map_cons,lastM,lastN] using this
theorem lastN_get:∀ {l:List Nat},l≠[]→l[l.length - 1]?=some (lastN l)
 | [a],_=>rfl
 | a :: b :: l,_=>by
  have:=lastN_get (l:=b :: l) (by simp)
  simp only [List.length_cons,Nat.add_sub_cancel] at this ⊢
  rw [List.getElem?_cons_succ]
  exact this
def frT (T:Nat→Nat→Bool) (f q:Nat) (sn:Nat→Bool) (m:Nat):List Nat:=(List.range' 1 (m - 1)).filter fun k=>decide (f<k) && (T q k && !sn k)
def snT (T:Nat→Nat→Bool) (f q:Nat) (sn:Nat→Bool) (m:Nat):Nat→Bool:=fun k=>sn k || decide (k∈frT T f q sn m)
theorem frT_mem {T:Nat→Nat→Bool} {f q:Nat} {sn:Nat→Bool} {m k:Nat}:k∈frT T f q sn m ↔ 1≤k∧k<m∧f<k∧T q k=true∧sn k=false:=by
 unfold frT
 rw [List.mem_filter,List.mem_range'_1]
 simp only [Bool.and_eq_true,decide_eq_true_eq,Bool.not_eq_true']
 constructor
 ·rintro ⟨⟨h1,h2⟩,h3,h4⟩
  exact ⟨h1,by omega,h3,h4⟩
 ·rintro ⟨h1,h2,h3,h4⟩
  exact ⟨⟨h1,by omega⟩,h3,h4⟩
theorem frT_start {T:Nat→Nat→Bool} {f q:Nat} {sn:Nat→Bool}:frT T f q sn (f+1)=[]:=by
 apply List.eq_nil_iff_forall_not_mem.2
 intro k hk
 have:=frT_mem.1 hk
 omega
theorem frT_step {T:Nat→Nat→Bool} {f q:Nat} {sn:Nat→Bool} {m:Nat} (h:f<m):frT T f q sn (m+1)=frT T f q sn m++(if T q m=true∧sn m=false then [m] else []):=by
 obtain ⟨d,rfl⟩:∃ d,m=d+1:=⟨m - 1,by omega⟩
 unfold frT
 rw [show d+1+1 - 1=d+1 by omega,show d+1 - 1=d by omega,List.range'_concat,List.filter_append,show 1+1 * d=d+1 by omega]
 congr 1
 rw [List.filter_cons,List.filter_nil]
 by_cases hx:T q (d+1)=true∧sn (d+1)=false
 ·rw [if_pos hx,if_pos (by simp [h,hx.1,hx.2])]
 ·rw [if_neg hx,if_neg (by simpa [h] using hx)]
theorem snT_start {T:Nat→Nat→Bool} {f q:Nat} {sn:Nat→Bool}:snT T f q sn (f+1)=sn:=by
 funext k
 unfold snT
 rw [frT_start];simp
theorem snT_at {T:Nat→Nat→Bool} {f q:Nat} {sn:Nat→Bool} {m:Nat}:snT T f q sn m m=sn m:=by
 unfold snT
 rw [decide_eq_false (fun h=>by have:=frT_mem.1 h;omega),Bool.or_false]
theorem snT_skip {T:Nat→Nat→Bool} {f q:Nat} {sn:Nat→Bool} {m:Nat} (h:f<m) (hx:¬ (T q m=true∧sn m=false)):frT T f q sn (m+1)=frT T f q sn m∧snT T f q sn (m+1)=snT T f q sn m:=by
 have e:frT T f q sn (m+1)=frT T f q sn m:=by rw [frT_step h,if_neg hx,List.append_nil]
 exact ⟨e,by unfold snT;rw [e]⟩
theorem snT_push {T:Nat→Nat→Bool} {f q:Nat} {sn:Nat→Bool} {m:Nat} (h:f<m) (hx:T q m=true∧sn m=false):frT T f q sn (m+1)=frT T f q sn m++[m]∧snT T f q sn (m+1)=upB (snT T f q sn m) m true:=by
 have e:frT T f q sn (m+1)=frT T f q sn m++[m]:=by rw [frT_step h,if_pos hx]
 refine ⟨e,?_⟩
 funext k
 unfold snT upB
 rw [e]
 by_cases hk:k=m
 ·subst hk;simp
 ·rw [if_neg hk]
  congr 1
  rw [decide_eq_decide,List.mem_append,List.mem_singleton]
  constructor
  ·rintro (h | h)
   ·exact h
   ·exact absurd h hk
  ·exact .inl
def pgoN (T:Nat→Nat→Bool) (f:Nat):Nat→List (List Nat)→(Nat→Bool)→Option (Option (List Nat))
 | 0,_,_=>none
 | _+1,[],_=>some none
 | n+1,p :: ps,sn=>if T (lastN p) f=true then some (some p) else pgoN T f n (ps++(frT T f (lastN p) sn 1000).map fun k=>p++[k]) (snT T f (lastN p) sn 1000)
theorem nI_snoc (l:List Nat) (k:Nat):nI (l++[k])=nI l++[(k:Int)]:=by simp [nI]
theorem mks_nI:mks=nI (List.range' 1 999):=by
 have key:∀ n,mks.ofR n=nI (List.range' 1 n):=by
  intro n
  induction n with
  | zero=>rfl
  | succ n ih=>rw [mks.ofR,ih,List.range'_concat,nI_snoc,show 1+1 * n=n+1 by omega]
 exact key 999
theorem pgo_N {D:List PE} (w:Wg D) {T:Nat→Nat→Bool} (hT:∀ i j:Nat,i<1000→j<1000→(T i j=true ↔ (j:Int)∈pM D (i:Int))) {f:Nat} (hf:f<1000):∀ {n:Nat} {Q:List (List Nat)} {sn:Nat→Bool} {si:List Int},
  (∀ p∈Q,lastN p<1000)→(∀ k:Nat,k<1000→(sn k=true ↔ (k:Int)∈si))→pgo (gS D) (f:Int) (f:Int) (f:Int) n (Q.map nI) si=(pgoN T f n Q sn).map fun r=>r.map nI
 | 0,Q,sn,si,hq,hs=>rfl
 | n+1,[],sn,si,hq,hs=>rfl
 | n+1,p :: ps,sn,si,hq,hs=>by
  have hp:=hq p (by simp)
  have ht:(f:Int)∈gS D (lastM (nI p)) ↔ T (lastN p) f=true:=by rw [lastM_nI,gS_mem,hT _ _ hp hf]
  have hfr:fresh (gS D) (f:Int) (f:Int) si (lastM (nI p))=nI (frT T f (lastN p) sn 1000):=by
   unfold fresh frT
   rw [lastM_nI,gS,isort_mks (w.ln _) (w.rl _),List.filter_filter,mks_nI]
   unfold nI
   rw [List.filter_map]
   congr 1
   apply List.filter_congr
   intro k hk
   rw [List.mem_range'_1] at hk
   have h1:=hT (lastN p) k hp (by omega)
   have h2:=hs k (by omega)
   simp only [Function.comp]
   rw [Bool.eq_iff_iff]
   simp only [Bool.and_eq_true,decide_eq_true_eq,Bool.not_eq_true']
   constructor
   ·rintro ⟨⟨g1,g2,g3⟩,g4⟩
    refine ⟨by omega,h1.2 g4,?_⟩
    cases hk2:sn k with
    | false=>rfl
    | true=>exact absurd (h2.1 hk2) g1
   ·rintro ⟨g1,g2,g3⟩
    exact ⟨⟨(fun h=>by rw [h2.2 h] at g3;cases g3),by omega,by omega⟩,h1.1 g2⟩
  rw [List.map_cons,pgo,pgoN]
  by_cases h:T (lastN p) f=true
  ·rw [if_pos (ht.2 h),if_pos h];rfl
  ·rw [if_neg (fun hh=>h (ht.1 hh)),if_neg h,hfr]
   have hmap:ps.map nI++(nI (frT T f (lastN p) sn 1000)).map (fun k=>nI p++[k])=(ps++(frT T f (lastN p) sn 1000).map fun k=>p++[k]).map nI:=by
    rw [List.map_append,List.map_map]
    congr 1
    unfold nI
    rw [List.map_map]
    apply List.map_congr_left
    intro k _
    simp [nI]
   rw [hmap]
   refine pgo_N w hT hf (fun x hx => ?_) (fun k hk => ?_)
   ·rcases List.mem_append.1 hx with hx | hx
    ·exact hq x (by simp [hx])
    ·obtain ⟨k,hk,rfl⟩:=List.mem_map.1 hx
     rw [lastN_snoc]
     exact (frT_mem.1 hk).2.1
   ·unfold snT
    rw [Bool.or_eq_true,decide_eq_true_eq,List.mem_append,hs k hk]
    have:(k:Int)∈nI (frT T f (lastN p) sn 1000) ↔ k∈frT T f (lastN p) sn 1000:=by
     unfold nI
     rw [List.mem_map]
     constructor
     ·rintro ⟨j,hj,e⟩
      have:j=k:=by omega
      exact this ▸ hj
     ·exact fun h=>⟨k,h,rfl⟩
    rw [this]
theorem way_N {D:List PE} (w:Wg D) {T:Nat→Nat→Bool} (hT:∀ i j:Nat,i<1000→j<1000→(T i j=true ↔ (j:Int)∈pM D (i:Int))) {f:Nat} (hf:f<1000):∃ r,pgoN T f 1002 [[f]] (fun _=>false)=some r∧wayP D f f f=r.map nI:=by
 have h1:=(w.way (a:=f) (t:=f) (ab:=f)).1
 have h2:=pgo_N w hT hf (n:=1002) (Q:=[[f]]) (sn:=fun _=>false) (si:=[]) (fun p hp=>by rw [List.mem_singleton] at hp;subst hp;exact hf) (fun k _=>by simp)
 have e:[[f]].map nI=[[(f:Int)]]:=rfl
 rw [e,h1] at h2
 cases hr:pgoN T f 1002 [[f]] (fun _=>false) with
 | none=>rw [hr] at h2;cases h2
 | some r =>
  rw [hr,Option.map_some,Option.some.injEq] at h2
  exact ⟨r,rfl,h2⟩
end Go.Dr.T
namespace Go.Dr.T
def RcI (h:List B) (c:V) (p:List Nat):Prop:=∃ r,2≤p.length∧1≤r∧c = .ms 1 r p.length 0 p.length false∧bget h r=some (.blk (ofInts (nI p)) true)
def RwI (h:List B) (C:List V) (L:List (List Nat)):Prop:=C.length=L.length∧∀ (i:Nat) (p:List Nat),L[i]?=some p→∃ c,C[i]?=some c∧RcI h c p
theorem RwI.mono {h h' : List B} {C:List V} {L:List (List Nat)} (e:RwI h C L) (hh:∀ r n b,V.ms 1 r n 0 n false∈C→1≤r→bget h r=some (.blk b true)→bget h' r=some (.blk b true)):RwI h' C L:=by
 refine ⟨e.1,fun i p hp => ?_⟩
 obtain ⟨c,h1,h2⟩:=e.2 i p hp
 refine ⟨c,h1,?_⟩
 obtain ⟨r,e1,e2,e3,e4⟩:=h2
 exact ⟨r,e1,e2,e3,hh r _ _ (e3 ▸ List.mem_of_getElem? h1) e2 e4⟩
theorem RwI.snoc {h:List B} {C:List V} {L:List (List Nat)} {c:V} {p:List Nat} (e:RwI h C L) (ec:RcI h c p):RwI h (C++[c]) (L++[p]):=by
 refine ⟨by simp [e.1],fun i x hx => ?_⟩
 by_cases hi:i<L.length
 ·rw [List.getElem?_append_left hi] at hx
  obtain ⟨d,h1,h2⟩:=e.2 i x hx
  exact ⟨d,by rw [List.getElem?_append_left (by rw [e.1];exact hi)];exact h1,h2⟩
 ·rw [List.getElem?_append_right (by omega)] at hx
  cases hd:i - L.length with
  | zero =>
   rw [hd,List.getElem?_cons_zero,Option.some.injEq] at hx
   subst hx
   exact ⟨c,by rw [List.getElem?_append_right (by rw [e.1];omega),e.1,hd,List.getElem?_cons_zero],ec⟩
  | succ d=>rw [hd,List.getElem?_cons_succ,List.getElem?_nil] at hx;cases hx
def LaI (h:List B) (nq:Nat) (L:List (List Nat)) (v:V):Prop :=
 (L=[]∧v = .nilsl)∨∃ q C,L≠[]∧nq<q∧v = .ms 1 q L.length 0 L.length false∧bget h q=some (.blk C false)∧RwI h C L
def NwI (h:List B) (nq:Nat) (NC:List V) (NP:List (List Nat)) (nv:V):Prop :=
 (∃ f:Nat,NP=[[f]]∧nq=0∧nv = .sl true 1 [.sl true 1 [.int .i64 (f:Nat)]])∨∃ c,1≤nq∧nv = .ms 1 nq NP.length 0 NP.length c∧bget h nq=some (.blk NC false)∧RwI h NC NP
structure RH (sn:Nat→Bool) (NP:List (List Nat)) (nq:Nat) (NC:List V) (nv:V) (AP:List (List Nat)) (av:V) (h:List B):Prop where
 cl:Cl h
 b0:bget h 0=some (.blk (boC 1000 sn) true)
 nw:NwI h nq NC NP nv
 la:LaI h nq AP av
theorem NwI.mono {h h' : List B} {nq:Nat} {NC:List V} {NP:List (List Nat)} {nv:V} (e:NwI h nq NC NP nv) (hq:1≤nq→bget h nq=some (.blk NC false)→bget h' nq=some (.blk NC false)) (hh:1≤nq→bget h nq=some (.blk NC false)→RwI h NC NP→RwI h' NC NP):NwI h' nq NC NP nv:=by
 rcases e with e | ⟨c,e1,e2,e3,e4⟩
 ·exact .inl e
 ·exact .inr ⟨c,e1,e2,hq e1 e3,hh e1 e3 e4⟩
theorem LaI.alive {h:List B} {nq:Nat} {L:List (List Nat)} {v:V} (e:LaI h nq L v):v ≠ .dead:=by
 rcases e with ⟨_,rfl⟩ | ⟨q,C,_,_,rfl,_⟩ <;> simp
theorem rw_norm {m:List Bool} {n q:Nat} {tm:List V} {h:List B} {C:List V} {L:List (List Nat)} (hn:n≤h.length) (cl:Cl h) (hq:bget (Dr.norm m n ⟨tm,h⟩).h q=some (.blk C false)) (hr:RwI h C L):RwI (Dr.norm m n ⟨tm,h⟩).h C L:=hr.mono fun r n' b hc _ hb=>norm_with hn cl hq (fun k hk=>by
  have hk' : blos k C=true:=by simpa [B.blo] using hk
  exact of_decide_eq_true (blos_mem hk' hc)) hb
theorem nw_norm {m:List Bool} {n nq:Nat} {tm:List V} {h:List B} {NC:List V} {NP:List (List Nat)} {nv:V} (hn:n≤h.length) (cl:Cl h) (e:NwI h nq NC NP nv) (h6:tg (masked m tm) 6=nv):NwI (Dr.norm m n ⟨tm,h⟩).h nq NC NP nv:=by
 rcases e with e | ⟨c,e1,e2,e3,e4⟩
 ·exact .inl e
 ·have hq:bget (Dr.norm m n ⟨tm,h⟩).h nq=some (.blk NC false):=norm_keep (i:=6) hn (fun k hk=>by rw [h6,e2] at hk;exact of_decide_eq_true hk) e3
  exact .inr ⟨c,e1,e2,hq,rw_norm hn cl hq e4⟩
theorem RH.norm {sn:Nat→Bool} {NP AP:List (List Nat)} {nq:Nat} {NC:List V} {nv av:V} {h:List B} {m:List Bool} {n:Nat} {tm:List V} {a a' b:Nat} {cc:Bool} (hn:n≤h.length) (e:RH sn NP nq NC nv AP av h) (h5:tg (masked m tm) 5 = .ms 1 0 a a' b cc) (h6:tg (masked m tm) 6=nv) (h7:tg (masked m tm) 7=av):RH sn NP nq NC nv AP av (Dr.norm m n ⟨tm,h⟩).h:=by
 refine ⟨norm_cl hn e.cl,norm_keep (i:=5) hn (fun k hk=>by rw [h5] at hk;exact of_decide_eq_true hk) e.b0,nw_norm hn e.cl e.nw h6,?_⟩
 rcases e.la with ⟨e1,e2⟩ | ⟨q,C,e1,e2,e3,e4,e5⟩
 ·exact .inl ⟨e1,e2⟩
 ·have hq:bget (Dr.norm m n ⟨tm,h⟩).h q=some (.blk C false):=norm_keep (i:=7) hn (fun k hk=>by rw [h7,e3] at hk;exact of_decide_eq_true hk) e4
  exact .inr ⟨q,C,e1,e2,e3,hq,rw_norm hn e.cl hq e5⟩
theorem RH.norm0 {sn:Nat→Bool} {NP:List (List Nat)} {nq:Nat} {NC:List V} {nv:V} {h:List B} {m:List Bool} {n:Nat} {tm:List V} {a a' b:Nat} {cc:Bool} (hn:n≤h.length) (e:RH sn NP nq NC nv [] .nilsl h) (h5:tg (masked m tm) 5 = .ms 1 0 a a' b cc) (h6:tg (masked m tm) 6=nv):RH sn NP nq NC nv [] .nilsl (Dr.norm m n ⟨tm,h⟩).h :=
 ⟨norm_cl hn e.cl,norm_keep (i:=5) hn (fun k hk=>by rw [h5] at hk;exact of_decide_eq_true hk) e.b0,nw_norm hn e.cl e.nw h6,.inl ⟨rfl,rfl⟩⟩
theorem RH.seen {sn sn' : Nat→Bool} {NP AP:List (List Nat)} {nq:Nat} {NC:List V} {nv av:V} {h:List B} (e:RH sn NP nq NC nv AP av h):RH sn' NP nq NC nv AP av (bset h 0 (.blk (boC 1000 sn') true)):=by
 have hk:∀ {r b},1≤r→bget h r=some b→bget (bset h 0 (.blk (boC 1000 sn') true)) r=some b:=fun {r b} h1 h2=>by rw [bset_other (by omega)];exact h2
 refine ⟨e.cl.set boC_blo,bget_same (bget_lt e.b0),e.nw.mono (fun h1 h2=>hk h1 h2) fun _ _ hr=>hr.mono fun r n b _ h1 h2=>hk h1 h2,?_⟩
 rcases e.la with ⟨e1,e2⟩ | ⟨q,C,e1,e2,e3,e4,e5⟩
 ·exact .inl ⟨e1,e2⟩
 ·exact .inr ⟨q,C,e1,e2,e3,hk (by omega) e4,e5.mono fun r n b _ h1 h2=>hk h1 h2⟩
theorem blos_snoc {n:Nat} {c:V} (hc:c.blo n=true):∀ {C:List V},blos n C=true→blos n (C++[c])=true
 | [],_=>by show (c.blo _ && true)=true;rw [hc];rfl
 | v :: C,h=>by
  rw [List.cons_append]
  unfold blos at h ⊢
  rw [Bool.and_eq_true] at h ⊢
  exact ⟨h.1,blos_snoc hc h.2⟩
theorem RH.new {sn:Nat→Bool} {NP:List (List Nat)} {nq g n:Nat} {NC cs:List V} {nv:V} {h:List B} {p:List Nat} (e:RH sn NP nq NC nv [] .nilsl h) (hql:nq<h.length) (hc:cs=ofInts (nI p)) (hp:2≤p.length) (hg:g=p.length) (hn:n=p.length) :
  RH sn NP nq NC nv ([]++[p]) (.ms 1 (h.length+0+3) 1 0 1 false) (h++[.blk cs true,.unborn,.blk [.ms 1 (h.length+0+0) g 0 n false] false,.blk [.ms 1 (h.length+0+0) g 0 n false] false]):=by
 subst hc hg hn
 have hb:∀ m,h.length<m→blos m [V.ms 1 (h.length+0+0) p.length 0 p.length false]=true:=fun m hm=>by
  show (decide (h.length+0+0<m) && true)=true
  simp;omega
 refine ⟨cl_asc e.cl ⟨rfl,rfl,?_,?_,trivial⟩,bget_app e.b0,e.nw.mono (fun _ h2=>bget_app h2) fun _ _ hr=>hr.mono fun r n b _ _ h2=>bget_app h2,.inr ⟨h.length+3,[V.ms 1 (h.length+0+0) p.length 0 p.length false],by simp,by omega,rfl,bget_new (i:=3),?_⟩⟩
 ·show (false || blos _ _)=true
  rw [hb _ (by omega)];rfl
 ·show (false || blos _ _)=true
  rw [hb _ (by omega)];rfl
 ·exact RwI.snoc (C:=[]) (L:=[]) ⟨rfl,fun i p hp=>by simp at hp⟩ ⟨h.length,hp,by omega,rfl,bget_new (i:=0)⟩
theorem RH.grow {sn:Nat→Bool} {NP AP:List (List Nat)} {nq q g n g2 n2:Nat} {NC cs C:List V} {nv av:V} {h:List B} {p:List Nat} (e:RH sn NP nq NC nv AP av h) (hq:nq<q) (hv:bget h q=some (.blk C false)) (hr:RwI h C AP) (hc:cs=ofInts (nI p)) (hp:2≤p.length) (hg:g=p.length) (hn:n=p.length) (hg2:g2=AP.length+1) (hn2:n2=AP.length+1) :
  RH sn NP nq NC nv (AP++[p]) (.ms 1 q g2 0 n2 false) (bset (h++[.blk cs true,.unborn,.blk [.ms 1 (h.length+0+0) g 0 n false] false,.unborn]) q (.blk (C++[.ms 1 (h.length+0+0) g 0 n false]) false)):=by
 subst hc hg hn hg2 hn2
 have hql:=bget_lt hv
 have hb:∀ m,h.length<m→(V.ms 1 (h.length+0+0) p.length 0 p.length false).blo m=true:=fun m hm=>by
  show decide (h.length+0+0<m)=true
  simp;omega
 have hcl:=cl_asc e.cl (A:=[.blk (ofInts (nI p)) true,.unborn,.blk [.ms 1 (h.length+0+0) p.length 0 p.length false] false,.unborn]) ⟨rfl,rfl,by show (false || (_ && true))=true;rw [hb _ (by omega)];rfl,rfl,trivial⟩
 have hlen:(h++[B.blk (ofInts (nI p)) true,.unborn,.blk [.ms 1 (h.length+0+0) p.length 0 p.length false] false,.unborn]).length=h.length+4:=by rw [List.length_append];rfl
 have hk:∀ {r b},r≠q→bget h r=some b→bget (bset (h++[B.blk (ofInts (nI p)) true,.unborn,.blk [.ms 1 (h.length+0+0) p.length 0 p.length false] false,.unborn]) q (.blk (C++[.ms 1 (h.length+0+0) p.length 0 p.length false]) false)) r=some b:=fun {r b} h1 h2=>by
  rw [bset_other (fun e=>h1 e.symm)];exact bget_app h2
 have hkr:∀ {r b},bget h r=some (.blk b true)→bget (bset (h++[B.blk (ofInts (nI p)) true,.unborn,.blk [.ms 1 (h.length+0+0) p.length 0 p.length false] false,.unborn]) q (.blk (C++[.ms 1 (h.length+0+0) p.length 0 p.length false]) false)) r=some (.blk b true):=fun {r b} h2=>hk (fun e=>by subst e;rw [hv] at h2;cases h2) h2
 refine ⟨hcl.set ?_,hk (by omega) e.b0,e.nw.mono (fun _ h2=>hk (by omega) h2) fun _ _ hr=>hr.mono fun r n b _ _ h2=>hkr h2,.inr ⟨q,C++[.ms 1 (h.length+0+0) p.length 0 p.length false],by simp,hq,by simp,bget_same (by omega),RwI.snoc (hr.mono fun r n b _ _ h2=>hkr h2) ⟨h.length,hp,by omega,rfl,?_⟩⟩⟩
 ·show (false || blos _ _)=true
  rw [hlen]
  have h5:=blo_of_hbelow e.cl (mem_bget hv)
  have h6:blos h.length C=true:=by simpa [B.blo] using h5
  rw [blos_snoc (hb _ (by omega)) (blos_mono (by omega) _ h6)];rfl
 ·rw [bset_other (by omega)]
  exact bget_new (i:=0)
def wayNV:Option (List Nat)→V
 | none=>.sl true 0 []
 | some p=>.sl (decide (p.length=1)) p.length (ofInts (nI p))
theorem RcI.view {h:List B} {c:V} {p:List Nat} {d:Nat} (e:RcI h c p):Vw h (d+2) c (wayNV (some p)):=by
 obtain ⟨r,e1,e2,rfl,e4⟩:=e
 show Vw h (d+2) _ (.sl (decide (p.length=1)) p.length (ofInts (nI p)))
 rw [decide_eq_false (by omega)]
 exact Vw.ms (d:=d+1) e4 (ofnI_len p) (part_all (by rw [ofnI_len,Nat.mul_one])) ⟨views_ints _⟩
end Go.Dr.T
