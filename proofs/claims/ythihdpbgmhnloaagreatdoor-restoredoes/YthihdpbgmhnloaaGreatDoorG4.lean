/- Chapter 08: Voted as a known function, whose list lies in a block of its own; the table with it. -/
import Derived.Test.YthihdpbgmhnloaaGreatDoorR08Vc
import Derived.Test.YthihdpbgmhnloaaGreatDoorDrF
namespace Go.Dr.T
def vtOf:List V→Option (List Vt)
 | []=>some []
 | .str w :: .int .i64 s :: .bool b :: r=>(vtOf r).map (⟨w,s,b⟩ :: ·)
 | _=>none
theorem vtOf_C:∀ l,vtOf (vtC l)=some l
 | []=>rfl
 | v :: l=>by simp only [vtC,vtOf,vtOf_C l];rfl
theorem vtOf_eq:∀ {cs:List V} {l:List Vt},vtOf cs=some l→cs=vtC l
 | [],l,h=>by cases h;rfl
 | [_],l,h=>by cases ‹V› <;> simp [vtOf] at h
 | [_,_],l,h=>by
  unfold vtOf at h
  split at h
  ·rename_i e;cases e
  ·rename_i e;cases e
  ·cases h
 | a :: b :: c :: r,l,h=>by
  unfold vtOf at h
  split at h
  ·rename_i e;cases e
  ·rename_i w s b r' e
   cases e
   obtain ⟨l', h1,rfl⟩:=map_some h
   rw [vtOf_eq h1]
   rfl
  ·cases h
def voV (A:List Int) (e:Int):V:=.tup [if A=[] then .sl true 0 [] else .ms 1 0 A.length 0 A.length false,.int .i64 e]
def voH (A:List Int):List B:=if A=[] then [] else [.blk (ofInts A) true]
def votG (_:Nat) (as:List V) (h:List B):Option (V × List B) :=
 match h with
 | []=>match as with
  | [.int .i64 n,.sl _ m cs,.int .i64 need]=>match vtOf cs with
   | some l=>if l.length=m then some (voV (votA n l need) (votE n l need),voH (votA n l need)) else none
   | none=>none
  | _=>none
 | _=>none
theorem votG_eq {ro:Nat} {n need:Int} {c:Bool} {l:List Vt}:votG ro [.int .i64 n,.sl c l.length (vtC l),.int .i64 need] []=some (voV (votA n l need) (votE n l need),voH (votA n l need)):=by
 simp only [votG,vtOf_C,if_true]
theorem votG_some {ro:Nat} {as:List V} {h h' : List B} {v:V} (e:votG ro as h=some (v,h')):h=[]∧∃ n need c l,as=[.int .i64 n,.sl c l.length (vtC l),.int .i64 need]∧v=voV (votA n l need) (votE n l need)∧h' = voH (votA n l need):=by
 unfold votG at e
 split at e
 ·split at e
  ·rename_i n c m cs need
   split at e
   ·rename_i l hl
    split at e
    ·rename_i hm
     simp only [Option.some.injEq,Prod.mk.injEq] at e
     exact ⟨rfl,n,need,c,l,by rw [vtOf_eq hl,hm],e.1.symm,e.2.symm⟩
    ·cases e
   ·cases e
  ·cases e
 ·cases e
theorem RL_ints {k k2:K}:∀ {l:List Int} {xs:List Value},RL k (ofInts l) xs→RL k2 (ofInts l) xs
 | [],xs,h=>by simp only [ofInts,List.map_nil,RL] at h ⊢; exact h
 | a :: l,xs,h=>by
  simp only [ofInts,List.map_cons,RL] at h ⊢
  obtain ⟨x,r,rfl,h1,h2⟩:=h
  refine ⟨x,r,rfl,?_,?_⟩
  ·simp only [R] at h1 ⊢; exact h1
  ·have:=RL_ints (k:=k) (k2:=k2) (l:=l) (xs:=r) (by simpa only [ofInts] using h2)
   simpa only [ofInts] using this
theorem ofI_drop (l:List Int) (n:Nat):(ofInts l).drop n=ofInts (l.drop n):=by simp [ofInts,List.map_drop]
theorem kn_vot {P:Program} [GT P] (hF:TableOk P FB) {fn:Func} (hf:P.funcs[27]?=some fn) (hfc:cFunc P fn=some c27):KnOk P 27 3 votG:=by
 intro ro k as xs v h' gk ha hlen hgk Q hQ
 obtain ⟨hh,n,need,c,l,rfl,rfl,rfl⟩:=votG_some hgk
 have hw:=voted_walk (c:=c) (n:=n) (need:=need) (l:=l) c27 rfl
 generalize votA n l need=A at *
 generalize votE n l need=e at *
 have hl0:k.h.length=0:=by rw [hh];rfl
 refine call_wpm (ro:=0) hF hf hfc gk ha hlen (Q:=VEnds c27.res A e) (by rw [hh];exact hw) ?_
 rintro x s ⟨h1,h2⟩
 rcases h2 with ⟨hA,h2⟩ | ⟨hA,id,h2,h3⟩
 ·refine ⟨h1,_,h2,fun y k1 hk1 g1 e1 hy => ?_⟩
  have hv:V.view k1.h depth (.tup [.nilsl,.int .i64 e])=some (.tup [.sl true 0 [],.int .i64 e]):=rfl
  obtain ⟨q1,q2,q3⟩:=back_none gk hh g1 e1 hv hy
  have:=hQ y { k with w:=k1.w } (by rw [voH,if_pos hA];exact hh) q1 (q2 ro) (by rw [voV,if_pos hA];exact q3)
  exact this
 ·refine ⟨h1,_,h2,fun y k1 hk1 g1 e1 hy => ?_⟩
  have hb:bget k1.h id=some (.blk (ofInts A) true):=by rw [hk1];exact h3
  obtain ⟨b1,b2,b3,b4,ys,rest,T,b5,b6⟩:=g1.blk id _ _ hb
  let k2:K:={ n0:=k1.n0,A:=k1.A,h:=[.blk (ofInts A) true],β:=fun _=>k1.β id,w:=k1.w }
  have hg0:∀ i b,bget k2.h i=some b→i=0∧b = .blk (ofInts A) true:=fun i b h=>by
   cases i with
   | zero=>exact ⟨rfl,(Option.some.inj h).symm⟩
   | succ i=>cases h
  have hlv:∀ i,live k2.h i→i=0:=fun i ⟨b,hb,_⟩=>(hg0 i b hb).1
  have g2:Good P k2:=by
   refine ⟨g1.size,fun i c dat h => ?_,fun i r p tm ps a b h => ?_,fun i j hi hj _ => ?_,fun i b h ho => ?_,g1.tab⟩
   ·obtain ⟨_,e⟩:=hg0 i _ h
    cases e
    refine ⟨b1,b2,b3,b4,ys,rest,T,b5,?_⟩
    rw [ofI_drop] at b6 ⊢
    exact RL_ints b6
   ·cases (hg0 i _ h).2
   ·rw [hlv i hi,hlv j hj]
   ·obtain ⟨_,e⟩:=hg0 i _ h
    subst e
    cases ho
  have hok:∀ b,k1.ok b→k2.ok b:=fun b hb0=>by
   rcases hb0 with h | ⟨h,hn⟩
   ·exact .inl h
   ·refine .inr ⟨h,fun ⟨i,hi,he⟩=>hn ⟨id,live_blk hb,he⟩⟩
  have e2:Ev ro k.h.length k k2:=by
   refine ⟨e1.n0,e1.A,e1.low,fun b hb0 hlt => ?_,fun i hi => ?_,fun i hi => ?_,fun i _ hi => ?_,fun i _ hi => ?_,fun i hi => ?_⟩
   ·have:=e1.prot b hb0 hlt
    exact ⟨hok b this.1,this.2⟩
   all_goals (rw [hl0] at hi;exact absurd hi (Nat.not_lt_zero i))
  have hr:R k2 (voV A e) y:=by
   rw [voV,if_neg hA]
   simp only [R,RL] at hy ⊢
   obtain ⟨vs,rfl,x1,r1,rfl,hm,x2,r2,rfl,hx2,hx3⟩:=hy
   refine ⟨_,rfl,x1,_,rfl,?_,x2,r2,rfl,hx2,hx3⟩
   obtain ⟨b,o', cap,c,dat,rfl,c1,c2,c3,c4,c5⟩:=hm
   rw [hb] at c1
   cases c1
   exact ⟨b,o', cap,ofInts A,true,rfl,rfl,c2,c3,c4,c5⟩
  have:=hQ y k2 (by rw [voH,if_neg hA]) g2 e2 hr
  exact this
def FB1:Nat→Option Fc
 | 27=>some (knFc 3 27 votG)
 | n=>FB n
theorem sub1:Sub' FB FB1:=by
 intro f fc h
 unfold FB1
 split
 ·cases h
 ·exact h
def liV (A:List Int):V:=.sl (decide (A=[])) A.length (ofInts A)
theorem voV_view (A:List Int) (e:Int):VwF (voH A) depth (voV A e) (.tup [liV A,.int .i64 e]):=by
 unfold voH voV liV
 cases A with
 | nil =>
  rw [if_pos rfl,if_pos rfl]
  exact VwF.tup (d:=63) (VwLF.cons ⟨rfl,rfl⟩ (VwLF.cons (VwF.int rfl) VwLF.nil))
 | cons x l =>
  rw [if_neg (by simp),if_neg (by simp)]
  have hl:(ofInts (x :: l)).length=(x :: l).length:=by simp [ofInts]
  have hi:∀ {d:Nat} (L:List Int),VwLF [B.blk (ofInts (x :: l)) true] (d+1) (ofInts L) (ofInts L):=fun {d} L=>by
   induction L with
   | nil=>exact VwLF.nil
   | cons y L ih=>exact VwLF.cons (VwF.int rfl) ih
  have hv:VwF [B.blk (ofInts (x :: l)) true] 63 (.ms 1 0 (x :: l).length 0 (x :: l).length false) (.sl false (x :: l).length (ofInts (x :: l))):=VwF.ms (d:=62) rfl hl (part_all (by rw [hl,Nat.mul_one])) (hi _)
  exact VwF.tup (d:=63) (VwLF.cons hv (VwLF.cons (VwF.int rfl) VwLF.nil))
theorem voted_funF {c:Bool} {n need:Int} {l:List Vt}:FunF FB1 md 27 [.int .i64 n,.sl c l.length (vtC l),.int .i64 need] (.tup [liV (votA n l need),.int .i64 (votE n l need)]):=by
 have hv:=voV_view (votA n l need) (votE n l need)
 refine ⟨knFc 3 27 votG,rfl,rfl,1,.ret,⟨[voV (votA n l need) (votE n l need)],voH (votA n l need)⟩,voV (votA n l need) (votE n l need),fun m hm => ?_,.inr rfl,rfl,hv.1,hv.2⟩
 cases m with
 | zero=>omega
 | succ m =>
  show run FB1 md (m+1) 0 (.kn 3 27) _=_
  have hF:FB1 27=some (knFc 3 27 votG):=rfl
  simp only [run,hF]
  show (match some votG with
   | none=>none
   | some g=>match g 0 (([V.int .i64 n,.sl c l.length (vtC l),.int .i64 need]++deads ((knFc 3 27 votG).ntm - (knFc 3 27 votG).np)).take 3) [] with
    | none=>none
    | some (v,h)=>some (X.ret,(⟨[v],h⟩:St)))=_
  have e:([V.int .i64 n,.sl c l.length (vtC l),.int .i64 need]++deads ((knFc 3 27 votG).ntm - (knFc 3 27 votG).np)).take 3=[.int .i64 n,.sl c l.length (vtC l),.int .i64 need]:=rfl
  rw [e]
  simp only [votG_eq]
theorem FunF.fun {F:Nat→Option Fc} {md:Nat→Nat} {f:Nat} {as:List V} {v:V} (h:FunF F md f as v):Fun F md f as v:=by
 obtain ⟨fc,h1,h2,n,x,st,v0,h3,h4,h5,h6,_⟩:=h
 exact ⟨fc,h1,h2,n,x,st,v0,h3,h4,h5,h6⟩
end Go.Dr.T
namespace Go.Dr.T
def toE (v:Vt):En:=((v.who,v.step),v.yes)
def ltr (s:Int) (w:List UInt8) (u:Vt):Bool:=decide (u.step=s) && decide (u.who=w)
def isL (s:Int) (v:Vt) (r:List Vt):Bool:=decide (v.step=s) && r.all fun u => !ltr s v.who u
def L2 (s:Int):List Vt→List Vt
 | []=>[]
 | v :: r=>if isL s v r=true then v :: L2 s r else L2 s r
theorem L2_snoc (s:Int) (v:Vt):∀ l:List Vt,L2 s (l++[v])=if v.step=s then (L2 s l).filter (fun u => !decide (u.who=v.who))++[v] else L2 s l
 | []=>by
  simp only [List.nil_append,L2,isL,List.all_nil,Bool.and_true,decide_eq_true_eq,List.filter_nil]
 | u :: r=>by
  have ih:=L2_snoc s v r
  have hc:isL s u (r++[v])=(isL s u r && !ltr s u.who v):=by
   unfold isL
   rw [List.all_append]
   simp [Bool.and_assoc]
  simp only [List.cons_append,L2,hc]
  by_cases hs:v.step=s
  ·rw [if_pos hs] at ih ⊢
   rw [ih]
   unfold ltr
   rw [decide_eq_true hs,Bool.true_and]
   by_cases hw:v.who=u.who
   ·rw [decide_eq_true hw,Bool.not_true,Bool.and_false,if_neg (by decide)]
    split
    ·rw [List.filter_cons,if_neg (by simp [hw])]
    ·rfl
   ·rw [decide_eq_false hw,Bool.not_false,Bool.and_true]
    split
    ·rw [List.filter_cons,if_pos (by simp [Ne.symm hw,show ¬ u.who=v.who from fun e=>hw e.symm])]
     rfl
    ·rfl
  ·rw [if_neg hs] at ih ⊢
   unfold ltr
   rw [decide_eq_false hs,Bool.false_and,Bool.not_false,Bool.and_true,ih]
theorem updE_keys {k:List UInt8 × Int} {b:Bool}:∀ {E:List En},(updE k b E).map (·.1)=if k∈E.map (·.1) then E.map (·.1) else E.map (·.1)++[k]
 | []=>by simp [updE]
 | e :: r=>by
  unfold updE
  split
  ·rename_i h
   subst h
   simp
  ·rename_i h
   have ih:=updE_keys (k:=k) (b:=b) (E:=r)
   simp only [List.map_cons,List.mem_cons,h,false_or,ih]
   split <;> rfl
theorem updE_nd {k:List UInt8 × Int} {b:Bool} {E:List En} (h:(E.map (·.1)).Nodup):((updE k b E).map (·.1)).Nodup:=by
 rw [updE_keys]
 split
 ·exact h
 ·rename_i hk
  rw [List.nodup_append]
  exact ⟨h,by simp,fun a ha c hc=>by rw [List.mem_singleton] at hc;subst hc;rintro rfl;exact hk ha⟩
theorem updE_perm {k:List UInt8 × Int} {b:Bool}:∀ {E:List En},(E.map (·.1)).Nodup→(updE k b E).Perm (E.filter (fun e => !decide (e.1=k))++[(k,b)])
 | [],_=>.refl _
 | e :: r,h=>by
  rw [List.map_cons,List.nodup_cons] at h
  unfold updE
  split
  ·rename_i hk
   subst hk
   have hr:r.filter (fun x => !decide (x.1=e.1))=r:=by
    rw [List.filter_eq_self]
    intro x hx
    rw [decide_eq_false (fun q=>h.1 (by rw [← q];exact List.mem_map.2 ⟨x,hx,rfl⟩))]
    rfl
   rw [List.filter_cons,if_neg (by simp),hr]
   exact (List.perm_append_singleton (e.1,b) r).symm
  ·rename_i hk
   rw [List.filter_cons,if_pos (by simp [show ¬ e.1=k from fun q=>hk q.symm]),List.cons_append]
   exact (updE_perm h.2).cons e
theorem las_perm {l:List Vt} (s:Int):∀ i,i≤l.length→((lasE (l.take i)).map (·.1)).Nodup∧((lasE (l.take i)).filter fun e=>decide (e.1.2=s)).Perm ((L2 s (l.take i)).map toE)
 | 0,_=>⟨by simp [lasE],by simp [lasE,L2]⟩
 | i+1,h=>by
  obtain ⟨h1,h2⟩:=las_perm (l:=l) s i (by omega)
  obtain ⟨v,hv⟩:∃ v,l[i]?=some v:=⟨_,List.getElem?_eq_getElem (by omega)⟩
  have htk:l.take (i+1)=l.take i++[v]:=by rw [List.take_add_one,hv];rfl
  rw [htk,lasE_snoc,L2_snoc]
  refine ⟨updE_nd h1,((updE_perm (k:=(v.who,v.step)) (b:=v.yes) h1).filter _).trans ?_⟩
  generalize lasE (l.take i)=E at *
  rw [List.filter_append,List.filter_filter]
  by_cases hs:v.step=s
  ·rw [if_pos hs,List.map_append]
   refine List.Perm.append ?_ ?_
   ·have e1:(E.filter fun e=>decide (e.1.2=s) && !decide (e.1=(v.who,v.step)))=(E.filter fun e=>decide (e.1.2=s)).filter fun e => !decide (e.1.1=v.who):=by
     rw [List.filter_filter]
     refine List.filter_congr fun e _ => ?_
     subst hs
     by_cases h5:e.1.2=v.step
     ·have:decide (e.1=(v.who,v.step))=decide (e.1.1=v.who):=by
       rw [Bool.eq_iff_iff,decide_eq_true_eq,decide_eq_true_eq]
       exact ⟨fun q=>by rw [q],fun q=>Prod.ext q h5⟩
      rw [this,Bool.and_comm]
     ·simp [h5]
    rw [e1]
    refine (h2.filter _).trans ?_
    rw [List.filter_map]
    exact .refl _
   ·rw [List.filter_cons,if_pos (by simpa using hs)]
    exact .refl _
  ·rw [if_neg hs]
   have e1:(E.filter fun e=>decide (e.1.2=s) && !decide (e.1=(v.who,v.step)))=E.filter fun e=>decide (e.1.2=s):=by
    refine List.filter_congr fun e _ => ?_
    by_cases h5:e.1.2=s
    ·rw [decide_eq_true h5,Bool.true_and,decide_eq_false (fun q=>hs (by rw [← h5,q]))]
     rfl
    ·rw [decide_eq_false h5];rfl
   rw [e1,List.filter_cons,if_neg (by simpa using hs),List.filter_nil,List.append_nil]
   exact h2
def cY (T:List Vt):Nat:=(T.filter fun v=>v.yes).length
def cN (T:List Vt):Nat:=(T.filter fun v => !v.yes).length
theorem yes_is (l:List Vt) (s:Nat):yesN (lasE l) s=cY (L2 (s:Int) l)∧(noN (lasE l) s=true ↔ cN (L2 (s:Int) l)≠0):=by
 have h:=(las_perm (l:=l) (s:Int) l.length (Nat.le_refl _)).2
 rw [List.take_length] at h
 constructor
 ·unfold yesN cY
  rw [← List.filter_filter,(h.filter _).length_eq,List.filter_map,List.length_map]
  rfl
 ·unfold noN cN
  rw [List.any_eq_true]
  have h2:=h.filter fun e => !e.2
  have h3:=h2.length_eq
  rw [List.filter_map,List.length_map,List.filter_filter] at h3
  rw [show ((fun e:En => !e.2) ∘ toE)=fun v:Vt => !v.yes from rfl] at h3
  rw [← h3]
  constructor
  ·rintro ⟨e,he,hq⟩ h0
   have:=List.eq_nil_of_length_eq_zero h0
   have hm:e∈(lasE l).filter fun a => !a.2 && decide (a.1.2=(s:Int)):=List.mem_filter.2 ⟨he,hq⟩
   rw [this] at hm
   exact absurd hm (by simp)
  ·intro h0
   obtain ⟨e,he⟩:=List.exists_mem_of_length_pos (Nat.pos_of_ne_zero h0)
   obtain ⟨h4,h5⟩:=List.mem_filter.1 he
   exact ⟨e,h4,h5⟩
theorem L2_len (s:Int):∀ l:List Vt,(L2 s l).length≤l.length
 | []=>Nat.le_refl _
 | v :: r=>by
  have:=L2_len s r
  unfold L2
  split <;> simp only [List.length_cons] <;> omega
end Go.Dr.T
