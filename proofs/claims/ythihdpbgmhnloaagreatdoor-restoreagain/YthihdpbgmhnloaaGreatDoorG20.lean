/- Chapter 08: Voted as a known function, whose list lies in a block of its own; the table with it. -/
import Derived.Test.YthihdpbgmhnloaaGreatDoorR08Vc
import Derived.Test.YthihdpbgmhnloaaGreatDoorDrF
import Derived.Test.YthihdpbgmhnloaaGreatDoorG16
import Derived.Test.YthihdpbgmhnloaaGreatDoorG18
import Derived.Test.YthihdpbgmhnloaaGreatDoorG2
import Derived.Test.YthihdpbgmhnloaaGreatDoorDrE
import Derived.Test.YthihdpbgmhnloaaGreatDoorR08Fb
namespace Go.Dr.T
def vtOf:List V→Option (List Vt)
 | []=>some []
 | .str w :: .int .i64 s :: .bool b :: r=>(vtOf r).map (⟨w,s,b⟩ :: ·)
 | _=>none
theorem vtOf_C:∀ l,vtOf (vtC l)=some l
 | []=>rfl
 | v :: l=>by simp only [vtC,vtOf,vtOf_C l];rfl
theorem vtOf_eq:∀ {cs:List V} {l:List Vt},vtOf cs=some l→cs=vtC l
 | [],l,h=>by cases h;rfl
 | [_],l,h=>by cases ‹V› <;> simp [vtOf] at h
 | [_,_],l,h=>by
  unfold vtOf at h
  split at h
  ·rename_i e;cases e
  ·rename_i e;cases e
  ·cases h
 | a :: b :: c :: r,l,h=>by
  unfold vtOf at h
  split at h
  ·rename_i e;cases e
  ·rename_i w s b r' e
   cases e
   obtain ⟨l', h1,rfl⟩:=map_some h
   rw [vtOf_eq h1]
   rfl
  ·cases h
def voV (A:List Int) (e:Int):V:=.tup [if A=[] then .sl true 0 [] else .ms 1 0 A.length 0 A.length false,.int .i64 e]
def voH (A:List Int):List B:=if A=[] then [] else [.blk (ofInts A) true]
def votG (_:Nat) (as:List V) (h:List B):Option (V × List B) :=
 match h with
 | []=>match as with
  | [.int .i64 n,.sl _ m cs,.int .i64 need]=>match vtOf cs with
   | some l=>if l.length=m then some (voV (votA n l need) (votE n l need),voH (votA n l need)) else none
   | none=>none
  | _=>none
 | _=>none
theorem votG_eq {ro:Nat} {n need:Int} {c:Bool} {l:List Vt}:votG ro [.int .i64 n,.sl c l.length (vtC l),.int .i64 need] []=some (voV (votA n l need) (votE n l need),voH (votA n l need)):=by
 simp only [votG,vtOf_C,if_true]
theorem votG_some {ro:Nat} {as:List V} {h h' : List B} {v:V} (e:votG ro as h=some (v,h')):h=[]∧∃ n need c l,as=[.int .i64 n,.sl c l.length (vtC l),.int .i64 need]∧v=voV (votA n l need) (votE n l need)∧h' = voH (votA n l need):=by
 unfold votG at e
 split at e
 ·split at e
  ·rename_i n c m cs need
   split at e
   ·rename_i l hl
    split at e
    ·rename_i hm
     simp only [Option.some.injEq,Prod.mk.injEq] at e
     exact ⟨rfl,n,need,c,l,by rw [vtOf_eq hl,hm],e.1.symm,e.2.symm⟩
    ·cases e
   ·cases e
  ·cases e
 ·cases e
theorem RL_ints {k k2:K}:∀ {l:List Int} {xs:List Value},RL k (ofInts l) xs→RL k2 (ofInts l) xs
 | [],xs,h=>by simp only [ofInts,List.map_nil,RL] at h ⊢; exact h
 | a :: l,xs,h=>by
  simp only [ofInts,List.map_cons,RL] at h ⊢
  obtain ⟨x,r,rfl,h1,h2⟩:=h
  refine ⟨x,r,rfl,?_,?_⟩
  ·simp only [R] at h1 ⊢; exact h1
  ·have:=RL_ints (k:=k) (k2:=k2) (l:=l) (xs:=r) (by simpa only [ofInts] using h2)
   simpa only [ofInts] using this
theorem ofI_drop (l:List Int) (n:Nat):(ofInts l).drop n=ofInts (l.drop n):=by simp [ofInts,List.map_drop]
theorem kn_vot {P:Program} [GT P] (hF:TableOk P FB) {fn:Func} (hf:P.funcs[27]?=some fn) (hfc:cFunc P fn=some c27):KnOk P 27 3 votG:=by
 intro ro k as xs v h' gk ha hlen hgk Q hQ
 obtain ⟨hh,n,need,c,l,rfl,rfl,rfl⟩:=votG_some hgk
 have hw:=voted_walk (c:=c) (n:=n) (need:=need) (l:=l) c27 rfl
 generalize votA n l need=A at *
 generalize votE n l need=e at *
 have hl0:k.h.length=0:=by rw [hh];rfl
 refine call_wpm (ro:=0) hF hf hfc gk ha hlen (Q:=VEnds c27.res A e) (by rw [hh];exact hw) ?_
 rintro x s ⟨h1,h2⟩
 rcases h2 with ⟨hA,h2⟩ | ⟨hA,id,h2,h3⟩
 ·refine ⟨h1,_,h2,fun y k1 hk1 g1 e1 hy => ?_⟩
  have hv:V.view k1.h depth (.tup [.nilsl,.int .i64 e])=some (.tup [.sl true 0 [],.int .i64 e]):=rfl
  obtain ⟨q1,q2,q3⟩:=back_none gk hh g1 e1 hv hy
  have:=hQ y { k with w:=k1.w } (by rw [voH,if_pos hA];exact hh) q1 (q2 ro) (by rw [voV,if_pos hA];exact q3)
  exact this
 ·refine ⟨h1,_,h2,fun y k1 hk1 g1 e1 hy => ?_⟩
  have hb:bget k1.h id=some (.blk (ofInts A) true):=by rw [hk1];exact h3
  obtain ⟨b1,b2,b3,b4,ys,rest,T,b5,b6⟩:=g1.blk id _ _ hb
  let k2:K:={ n0:=k1.n0,A:=k1.A,h:=[.blk (ofInts A) true],β:=fun _=>k1.β id,w:=k1.w }
  have hg0:∀ i b,bget k2.h i=some b→i=0∧b = .blk (ofInts A) true:=fun i b h=>by
   cases i with
   | zero=>exact ⟨rfl,(Option.some.inj h).symm⟩
   | succ i=>cases h
  have hlv:∀ i,live k2.h i→i=0:=fun i ⟨b,hb,_⟩=>(hg0 i b hb).1
  have g2:Good P k2:=by
   refine ⟨g1.size,fun i c dat h => ?_,fun i r p tm ps a b h => ?_,fun i j hi hj _ => ?_,fun i b h ho => ?_,g1.tab⟩
   ·obtain ⟨_,e⟩:=hg0 i _ h
    cases e
    refine ⟨b1,b2,b3,b4,ys,rest,T,b5,?_⟩
    rw [ofI_drop] at b6 ⊢
    exact RL_ints b6
   ·cases (hg0 i _ h).2
   ·rw [hlv i hi,hlv j hj]
   ·obtain ⟨_,e⟩:=hg0 i _ h
    subst e
    cases ho
  have hok:∀ b,k1.ok b→k2.ok b:=fun b hb0=>by
   rcases hb0 with h | ⟨h,hn⟩
   ·exact .inl h
   ·refine .inr ⟨h,fun ⟨i,hi,he⟩=>hn ⟨id,live_blk hb,he⟩⟩
  have e2:Ev ro k.h.length k k2:=by
   refine ⟨e1.n0,e1.A,e1.low,fun b hb0 hlt => ?_,fun i hi => ?_,fun i hi => ?_,fun i _ hi => ?_,fun i _ hi => ?_,fun i hi => ?_⟩
   ·have:=e1.prot b hb0 hlt
    exact ⟨hok b this.1,this.2⟩
   all_goals (rw [hl0] at hi;exact absurd hi (Nat.not_lt_zero i))
  have hr:R k2 (voV A e) y:=by
   rw [voV,if_neg hA]
   simp only [R,RL] at hy ⊢
   obtain ⟨vs,rfl,x1,r1,rfl,hm,x2,r2,rfl,hx2,hx3⟩:=hy
   refine ⟨_,rfl,x1,_,rfl,?_,x2,r2,rfl,hx2,hx3⟩
   obtain ⟨b,o', cap,c,dat,rfl,c1,c2,c3,c4,c5⟩:=hm
   rw [hb] at c1
   cases c1
   exact ⟨b,o', cap,ofInts A,true,rfl,rfl,c2,c3,c4,c5⟩
  have:=hQ y k2 (by rw [voH,if_neg hA]) g2 e2 hr
  exact this
def FB1:Nat→Option Fc
 | 27=>some (knFc 3 27 votG)
 | n=>FB n
theorem sub1:Sub' FB FB1:=by
 intro f fc h
 unfold FB1
 split
 ·cases h
 ·exact h
def liV (A:List Int):V:=.sl (decide (A=[])) A.length (ofInts A)
theorem voV_view (A:List Int) (e:Int):VwF (voH A) depth (voV A e) (.tup [liV A,.int .i64 e]):=by
 unfold voH voV liV
 cases A with
 | nil =>
  rw [if_pos rfl,if_pos rfl]
  exact VwF.tup (d:=63) (VwLF.cons ⟨rfl,rfl⟩ (VwLF.cons (VwF.int rfl) VwLF.nil))
 | cons x l =>
  rw [if_neg (by simp),if_neg (by simp)]
  have hl:(ofInts (x :: l)).length=(x :: l).length:=by simp [ofInts]
  have hi:∀ {d:Nat} (L:List Int),VwLF [B.blk (ofInts (x :: l)) true] (d+1) (ofInts L) (ofInts L):=fun {d} L=>by
   induction L with
   | nil=>exact VwLF.nil
   | cons y L ih=>exact VwLF.cons (VwF.int rfl) ih
  have hv:VwF [B.blk (ofInts (x :: l)) true] 63 (.ms 1 0 (x :: l).length 0 (x :: l).length false) (.sl false (x :: l).length (ofInts (x :: l))):=VwF.ms (d:=62) rfl hl (part_all (by rw [hl,Nat.mul_one])) (hi _)
  exact VwF.tup (d:=63) (VwLF.cons hv (VwLF.cons (VwF.int rfl) VwLF.nil))
theorem voted_funF {c:Bool} {n need:Int} {l:List Vt}:FunF FB1 md 27 [.int .i64 n,.sl c l.length (vtC l),.int .i64 need] (.tup [liV (votA n l need),.int .i64 (votE n l need)]):=by
 have hv:=voV_view (votA n l need) (votE n l need)
 refine ⟨knFc 3 27 votG,rfl,rfl,1,.ret,⟨[voV (votA n l need) (votE n l need)],voH (votA n l need)⟩,voV (votA n l need) (votE n l need),fun m hm => ?_,.inr rfl,rfl,hv.1,hv.2⟩
 cases m with
 | zero=>omega
 | succ m =>
  show run FB1 md (m+1) 0 (.kn 3 27) _=_
  have hF:FB1 27=some (knFc 3 27 votG):=rfl
  simp only [run,hF]
  show (match some votG with
   | none=>none
   | some g=>match g 0 (([V.int .i64 n,.sl c l.length (vtC l),.int .i64 need]++deads ((knFc 3 27 votG).ntm - (knFc 3 27 votG).np)).take 3) [] with
    | none=>none
    | some (v,h)=>some (X.ret,(⟨[v],h⟩:St)))=_
  have e:([V.int .i64 n,.sl c l.length (vtC l),.int .i64 need]++deads ((knFc 3 27 votG).ntm - (knFc 3 27 votG).np)).take 3=[.int .i64 n,.sl c l.length (vtC l),.int .i64 need]:=rfl
  rw [e]
  simp only [votG_eq]
theorem FunF.fun {F:Nat→Option Fc} {md:Nat→Nat} {f:Nat} {as:List V} {v:V} (h:FunF F md f as v):Fun F md f as v:=by
 obtain ⟨fc,h1,h2,n,x,st,v0,h3,h4,h5,h6,_⟩:=h
 exact ⟨fc,h1,h2,n,x,st,v0,h3,h4,h5,h6⟩
end Go.Dr.T
namespace Go.Dr.T
def kwn (l:List V) (v:V) (as:List V):Option V:=match veqs as l with
 | true=>some v
 | false=>none
theorem kwn_eq {l:List V} {v w:V} {as:List V} (h:kwn l v as=some w):as=l∧w=v:=by
 unfold kwn at h
 split at h <;> cases h
 rename_i e
 exact ⟨veqs_eq e,rfl⟩
def filC:List V:=[.int .i64 3,.int .i64 2,.sl true 6 (ofBytes [10,20,30,40,50,60]),.int .i64 3,.int .i64 2,.sl true 6 (ofBytes [10,20,30,40,90,60])]
def filV:V:=.sl true 2 filC
def stL:List V:=[.int .i64 6,.int .i64 0,.int .i64 0,.sl true 1 (ofInts [0,0,1,0]),.int .i64 200,.int .i64 0,.int .i64 0,.sl true 0 []]
def chC:List (Int × Int × Int × Int)→List V
 | []=>[]
 | (a,b,c,d) :: l=>.int .i64 a :: .int .i64 b :: .int .u8 c :: .int .u8 d :: chC l
def liC:List V:=chC [(0,2,30,230),(0,3,40,240),(0,4,50,250),(0,5,60,255)]
def stsC:List V:=[.int .i64 1,.int .i64 0,.int .i64 1,.nilsl,.int .i64 1,.int .i64 0,.int .i64 7,.nilsl,.int .i64 6,.int .i64 1,.int .i64 1,.nilsl,.int .i64 5,.int .i64 0,.int .i64 0,.nilsl]
def vts:List Vt:=[⟨[97,110,110],0,true⟩,⟨[98,111,98],0,true⟩,⟨[97,110,110],1,true⟩,⟨[99,108,101,111],1,true⟩,⟨[98,111,98],1,false⟩,⟨[98,111,98],1,true⟩]
def S0 (_:Nat):Option (List V→Option V):=none
theorem known0:Known FB1 md S0:=by
 intro fn g hg
 cases hg
theorem film_doc:Fun FB1 md 37 [] filV:=fun_is known0 (n:=100) (by decide +kernel)
theorem lift_doc:Fun FB1 md 41 [] (.tup [.agg stL,.sl true 4 liC]):=fun_is known0 (n:=100) (by decide +kernel)
theorem steps_doc:Fun FB1 md 38 [] (.sl true 2 stsC):=fun_is known0 (n:=100) (by decide +kernel)
theorem votes_doc:Fun FB1 md 39 [] (.sl true 6 (vtC vts)):=fun_is known0 (n:=100) (by decide +kernel)
def txt:List UInt8:=[76,79,71,32,49,10,83,84,69,80,32,52,10,48,32,50,32,51,48,32,50,51,48,10,48,32,51,32,52,48,32,50,52,48,10,48,32,52,32,53,48,32,50,53,48,10,48,32,53,32,54,48,32,50,53,53,10,69,78,68,32,54,10]
theorem text_doc:Fun FB1 md 40 [] (.str txt):=fun_is known0 (n:=100) (by decide +kernel)
def filR:V:=.sl false 2 [.int .i64 3,.int .i64 2,.sl false 6 (ofBytes [10,20,230,240,250,255]),.int .i64 3,.int .i64 2,.sl false 6 (ofBytes [10,20,30,40,90,60])]
theorem do_doc:Fun FB1 md 16 [filV,.agg stL] (.tup [filR,.sl false 4 liC,.int .i64 0]):=fun_is known0 (n:=300) (by decide +kernel)
theorem trace_doc:Fun FB1 md 24 [filV,.sl true 2 stsC,.int .i64 0,.int .i64 5] (.tup [.agg [.int .i64 0,.int .i64 4],.sl false 1 (ofInts [0]),.int .i64 0]):=fun_is known0 (n:=300) (by decide +kernel)
theorem undo_doc:Fun FB1 md 29 [filV,.sl true 2 [.nilsl,.sl true 4 liC]] (.tup [.sl true 0 [],.int .i64 1,.int .i64 181]):=fun_is known0 (n:=300) (by decide +kernel)
theorem write_doc:Fun FB1 md 33 [.sl true 1 [.sl true 4 liC]] (.tup [.str txt,.int .i64 0]):=fun_is known0 (n:=300) (by decide +kernel)
theorem vot_doc:votA 2 (vts.take 5) 2=[0]∧votE 2 (vts.take 5) 2=0:=⟨by decide +kernel,by decide +kernel⟩
theorem voted_doc:Fun FB1 md 27 [.int .i64 2,.sl false 5 (vtC (vts.take 5)),.int .i64 2] (.tup [.sl false 1 (ofInts [0]),.int .i64 0]):=by
 have:=FunF.fun (voted_funF (c:=false) (n:=2) (need:=2) (l:=vts.take 5))
 rw [vot_doc.1,vot_doc.2] at this
 exact this
def S1 (n:Nat):Option (List V→Option V) :=
 match n with
 | 16=>some (kwn [filV,.agg stL] (.tup [filR,.sl false 4 liC,.int .i64 0]))
 | 24=>some (kwn [filV,.sl true 2 stsC,.int .i64 0,.int .i64 5] (.tup [.agg [.int .i64 0,.int .i64 4],.sl false 1 (ofInts [0]),.int .i64 0]))
 | 27=>some (kwn [.int .i64 2,.sl false 5 (vtC (vts.take 5)),.int .i64 2] (.tup [.sl false 1 (ofInts [0]),.int .i64 0]))
 | 29=>some (kwn [filV,.sl true 2 [.nilsl,.sl true 4 liC]] (.tup [.sl true 0 [],.int .i64 1,.int .i64 181]))
 | 33=>some (kwn [.sl true 1 [.sl true 4 liC]] (.tup [.str txt,.int .i64 0]))
 | _=>none
theorem known1:Known FB1 md S1:=by
 intro fn g hg as v h
 unfold S1 at hg
 split at hg
 all_goals (try (cases hg;done))
 all_goals
  cases hg
  obtain ⟨rfl,rfl⟩:=kwn_eq h
 ·exact do_doc
 ·exact trace_doc
 ·exact voted_doc
 ·exact undo_doc
 ·exact write_doc
theorem awake:Fun FB1 md 23 [] (.bool true):=fun_is known1 (n:=300) (by decide +kernel)
end Go.Dr.T
namespace Go.Dr.T
theorem tabF {f:Nat} {l:List V} {v:V} (h:Fun FB md f l v):Fun FB1 md f l v:=h.tab sub1
theorem mixP_get {NU:Nat→UInt8} {p:List UInt8} {m:Nat} (h:m<p.length):(mixP NU p p.length).getD m 0=NU m:=by
 unfold mixP
 rw [List.drop_length,List.append_nil,List.getD_eq_getElem?_getD,List.getElem?_map,List.getElem?_range h]
 rfl
end Go.Dr.T
namespace Go.Dr.T
theorem redo_run {c d:Bool} {l:List Fm} {W H:Nat} {ss:List Sp} (o:FOk l W H) (hs:ss.length≤20):∃ B:List Fm,FSm B (rnF W H (czF l) ss)∧Fun FB md 32 [.sl c l.length (fmC l),.sl d ss.length (lgC (rnC W H (czF l) ss))] (.tup [.sl false l.length (fmC B),.int .i64 0,.int .i64 0]):=by
 have oz:=czF_ok o
 have hL:(rnC W H (czF l) ss).length=ss.length:=rnC_len
 have hu:=rd_all (ss:=ss) oz ss.length (Nat.le_refl _)
 rw [List.take_length,pxL_cz] at hu
 have h:=redo_any (c:=c) (d:=d) (l:=l) (L:=rnC W H (czF l) ss) (W:=W) (H:=H) o (by omega) (fun x hx=>by
  have:=rnC_cok (ss:=ss) oz x hx
  rw [czF_len] at this
  exact this) o.fl (fun _=>rfl) (fun i hi hpre hno=>absurd (hu.2 i (by omega)) hno)
 refine ⟨mkF l (rdT (pxL l) (rnC W H (czF l) ss) (rnC W H (czF l) ss).length),mkF_same o (rnF_ok oz) (by rw [rnF_len,czF_len]) ?_,?_⟩
 ·rw [hL]
  exact hu.1
 ·have h2:=h.any
  rw [hL] at h2 ⊢
  exact h2
set_option maxRecDepth 100000 in
set_option maxHeartbeats 20000000 in
theorem law_again {c d:Bool} {l:List Fm} {ss:List Sp} {a:Nat} (ha:a≤255):Fun FB1 md 11 [.sl c l.length (fmC l),.sl d ss.length (spC ss),.int .u8 (a:Nat)] (.bool true):=by
 have k9:=awake
 by_cases he:(csE l ss).2=0
 rotate_left
 ·have k1:=tabF (run_bad (c:=c) (d:=d) he)
  generalize (csE l ss).2=e at *
  refine fun_of rfl rfl ?_
  repeat' (first
 | (conv=>whnf)
   first
   | (refine Br.decF ?_ ?_;(focus first | assumption | omega))
   | refine Br.not ?_
   | refine call_fun rfl rfl k1 (.inl rfl) ?_
   | refine call_fun rfl rfl k9 (.inl rfl) ?_
   | refine Get.mk _ rfl ?_
   | refine Leaves.of ?_
   | refine Vw.bool ?_)
  all_goals first | rfl | (exfalso;omega;done)
 obtain ⟨W,H,o,h20,p⟩:=csE_zero he
 have hn12:=o.n12
 have k1:=tabF (run_ok (c:=c) (d:=d) o h20 p he)
 have oz:=czF_ok o
 have hL:(rnC W H (czF l) ss).length=ss.length:=rnC_len
 unfold lgL at k1
 rw [hL] at k1
 obtain ⟨B,hB,hBu⟩:=redo_run (c:=c) (d:=decide (rnC W H (czF l) ss=[])) o h20
 have k2:=tabF hBu
 have hBl:B.length=l.length:=hB.len.trans (by rw [rnF_len,czF_len])
 have k3:=tabF (films_same (c:=false) (d:=false) (A:=B) (B:=rnF W H (czF l) ss) (by omega) hB)
 rw [hBl,rnF_len,czF_len] at k3
 have hmod:(a:Int).tmod ((ss.length:Int)+1)=((a % (ss.length+1):Nat):Int):=by rw [show (ss.length:Int)+1=((ss.length+1:Nat):Int) by omega,Int.ofNat_tmod]
 have hk:a % (ss.length+1)≤ss.length:=by have:=Nat.mod_lt a (show 0<ss.length+1 by omega);omega
 generalize a % (ss.length+1)=k at *
 have hpk:=spC_part0 (ss:=ss) hk
 have hpl:=lgC_partT (L:=rnC W H (czF l) ss) (k:=k) (by omega)
 rw [rnC_take] at hpl
 have het:=csE_of (F:=l) (tt:=ss.take k) he o o rfl (fun s hs=>List.mem_of_mem_take hs) (by rw [List.length_take];omega)
 have k4:=tabF (run_ok (c:=c) (d:=d && decide (k=ss.length)) (ss:=ss.take k) o (by rw [List.length_take];omega) (fun s hs=>p s (List.mem_of_mem_take hs)) het)
 have hLk:(rnC W H (czF l) (ss.take k)).length=k:=by rw [rnC_len,List.length_take];omega
 unfold lgL at k4
 rw [List.length_take,Nat.min_eq_left hk,hLk] at k4
 have k5:=tabF (logs_same (c:=decide (rnC W H (czF l) (ss.take k)=[])) (d:=decide (rnC W H (czF l) ss=[]) && decide (k=ss.length)) (A:=rnC W H (czF l) (ss.take k)) (by omega) fun x hx=>by have:=rnC_all (ss:=ss.take k) oz x hx;omega)
 rw [hLk] at k5
 have hn1:(ss.length:Int)+1≠0:=by omega
 refine fun_of rfl rfl ?_
 repeat' (first
 | (conv=>whnf)
   first
   | refine Bnd.eq hmod ?_
   | refine Br.f ?_
   | (refine Br.decT ?_ ?_;(focus first | assumption | omega))
   | refine Br.not ?_
   | (refine Bnd.i64 ?_ ?_ ?_;(focus omega);(focus omega))
   | refine Req.mk hn1 ?_
   | refine Idx.nat hk ?_
   | refine Get.mk _ hpk ?_
   | refine Get.mk _ hpl ?_
   | refine call_fun rfl rfl k1 (.inl rfl) ?_
   | refine call_fun rfl rfl k2 (.inl rfl) ?_
   | refine call_fun rfl rfl k3 (.inl rfl) ?_
   | refine call_fun rfl rfl k4 (.inl rfl) ?_
   | refine call_fun rfl rfl k5 (.inl rfl) ?_
   | refine Get.mk _ rfl ?_)
 all_goals try (exfalso;omega;done)
 refine LoopP.by (fun i:Nat=>k≤i∧i≤ss.length) (fun i=>[(13,.sl false l.length (fmC (rnF W H (czF l) (ss.take i)))),(15,.int .i64 (i:Nat))]) (fun _=>[]) (fun i=>ss.length - i) k ⟨Nat.le_refl _,hk⟩ rfl ?_
 rintro i ⟨w1,w2⟩
 dsimp only
 clear k1 k2 k3 k4 k5
 by_cases hi:i<ss.length
 rotate_left
 ·obtain rfl:i=ss.length:=by omega
  rw [List.take_length]
  have k6:=tabF (films_same (c:=false) (d:=false) (A:=rnF W H (czF l) ss) (B:=rnF W H (czF l) ss) (by rw [rnF_len,czF_len];omega) FSm.refl)
  rw [rnF_len,czF_len] at k6
  repeat' (first
 | (conv=>whnf)
   first
   | refine Br.t ?_
   | (refine Br.decF ?_ ?_;(focus first | assumption | omega))
   | refine call_fun rfl rfl k6 (.inl rfl) ?_
   | refine call_fun rfl rfl k9 (.inl rfl) ?_
   | refine Get.mk _ rfl ?_
   | refine Leaves.of ?_
   | refine Vw.bool ?_)
  all_goals first | rfl | (exfalso;omega;done)
 obtain ⟨s,hs⟩:∃ s,ss[i]?=some s:=⟨_,List.getElem?_eq_getElem hi⟩
 have hp:=spC_part hs
 have hsm:=List.mem_of_getElem? hs
 have of:=rnF_ok (ss:=ss.take i) oz
 have hfl:(rnF W H (czF l) (ss.take i)).length=l.length:=by rw [rnF_len,czF_len]
 have hde:doE (rnF W H (czF l) (ss.take i)) s=0:=csE_of (tt:=[s]) he of o hfl (fun t ht=>by rw [List.mem_singleton] at ht;subst ht;exact hsm) (by simp)
 have k6:=tabF (Do_ok (c:=false) of (by rw [hfl];exact p s hsm) hde)
 rw [hfl] at k6
 have hcg:=lgC_at (rnC_get (W:=W) (H:=H) (l:=czF l) hs)
 have k7:=tabF (changes_same (c:=decide (doC (rnF W H (czF l) (ss.take i)) W H s=[])) (d:=decide (doC (rnF W H (czF l) (ss.take i)) W H s=[])) (A:=doC (rnF W H (czF l) (ss.take i)) W H s) (by have:=doC_len (s:=s) of;omega))
 have hnx:=rnF_take (W:=W) (H:=H) (l:=czF l) hs
 unfold cgL at hcg k6
 rw [← hnx] at k6
 have hiw:IntKind.i64.wrap ((i:Int)+1)=((i+1:Nat):Int):=by rw [wrap_i64 (by omega) (by omega)];omega
 have hil:i≤ss.length - 1:=by omega
 have h0l:0<ss.length:=by omega
 repeat' (first
 | (conv=>whnf)
   first
   | refine Bnd.eq hiw ?_
   | refine Br.f ?_
   | (refine Br.decT ?_ ?_;(focus first | assumption | omega))
   | refine Get.mk _ hp ?_
   | refine Get.mk _ hcg ?_
   | refine Idx.nat hil ?_
   | refine Req.mk h0l ?_
   | refine call_fun rfl rfl k6 (.inl rfl) ?_
   | refine call_fun rfl rfl k7 (.inl rfl) ?_
   | refine Get.mk _ rfl ?_)
 all_goals first | (exfalso;omega;done) | exact NextP.mk (i+1) ⟨by omega,hi⟩ (by omega) rfl
end Go.Dr.T
namespace Go.Dr.T
theorem hasInt {l:List V} (h:(Ty.int .i64).has l):∃ n:Int,l=[.int .i64 n]:=by
 simp only [Ty.has] at h
 obtain ⟨n,rfl,h1,h2⟩:=h
 exact ⟨n,rfl⟩
theorem hasStr {l:List V} (h:Ty.str.has l):∃ s,l=[.str s]:=by
 simpa only [Ty.has] using h
theorem hasBool {l:List V} (h:Ty.bool.has l):∃ b,l=[.bool b]:=by
 simpa only [Ty.has] using h
theorem int_val {v:V} (h:(Ty.int .i64).val v):∃ n,v = .int .i64 n:=by
 obtain ⟨n,e⟩:=hasInt (l:=[v]) h
 simp only [List.cons.injEq,and_true] at e
 exact ⟨n,e⟩
abbrev TyVt:Ty:=.agg [.str,.int .i64,.bool]
theorem vt_all {l:List V} (h:Ty.hasAll [.str,.int .i64,.bool] l):∃ x:Vt,l=[.str x.who,.int .i64 x.step,.bool x.yes]:=by
 simp only [Ty.hasAll] at h
 obtain ⟨a,b,rfl,ha,c,d,rfl,hc,e,f,rfl,he,rfl⟩:=h
 obtain ⟨s,rfl⟩:=hasStr ha
 obtain ⟨n,rfl⟩:=hasInt hc
 obtain ⟨y,rfl⟩:=hasBool he
 exact ⟨⟨s,n,y⟩,rfl⟩
theorem vts_cells:∀ {xs:List (List V)},(∀ x∈xs,x.length=3∧TyVt.has x)→∃ l:List Vt,xs.flatten=vtC l∧xs.length=l.length
 | [],_=>⟨[],rfl,rfl⟩
 | x :: xs,h=>by
  obtain ⟨l,h1,h2⟩:=vts_cells (xs:=xs) fun y hy=>h y (by simp [hy])
  obtain ⟨_,hx⟩:=h x (by simp)
  obtain ⟨y,rfl⟩:=vt_all (by simpa only [Ty.has] using hx)
  exact ⟨y :: l,by simp only [List.flatten_cons,h1];rfl,by simp [h2]⟩
abbrev TyVts:Ty:=.slice 3 TyVt
theorem vts_val {v:V} (h:TyVts.val v):∃ l:List Vt,v = .sl false l.length (vtC l):=by
 rw [TyVts] at h
 simp only [Ty.val] at h
 rw [Ty.has] at h
 obtain ⟨xs,e,hx⟩:=h
 simp only [List.cons.injEq,and_true] at e
 subst e
 obtain ⟨l,h1,h2⟩:=vts_cells (xs:=xs) hx
 exact ⟨l,by rw [h1,h2]⟩
theorem vts_has {l:List V} (h:TyVts.has l):∃ m:List Vt,l=[.sl false m.length (vtC m)]:=by
 rw [TyVts,Ty.has] at h
 obtain ⟨xs,e,hx⟩:=h
 obtain ⟨m,h1,h2⟩:=vts_cells (xs:=xs) hx
 exact ⟨m,by rw [e,h1,h2]⟩
theorem vt_val {v:V} (h:TyVt.val v):∃ x:Vt,v = .agg [.str x.who,.int .i64 x.step,.bool x.yes]:=by
 simp only [TyVt,Ty.val] at h
 obtain ⟨l,rfl,h⟩:=h
 obtain ⟨x,rfl⟩:=vt_all h
 exact ⟨x,rfl⟩
abbrev TyBal:Ty:=.agg [.int .i64,TyVts,.int .i64]
theorem bal_val {v:V} (h:TyBal.val v):∃ (n need:Int) (m:List Vt),v = .agg [.int .i64 n,.sl false m.length (vtC m),.int .i64 need]:=by
 simp only [TyBal,Ty.val] at h
 obtain ⟨l,rfl,h⟩:=h
 simp only [Ty.hasAll] at h
 obtain ⟨a,b,rfl,ha,c,d,rfl,hc,e,f,rfl,he,rfl⟩:=h
 obtain ⟨n,rfl⟩:=hasInt ha
 obtain ⟨m,rfl⟩:=vts_has hc
 obtain ⟨y,rfl⟩:=hasInt he
 exact ⟨n,y,m,rfl⟩
theorem u8_val {v:V} (h:(Ty.int .u8).val v):∃ n:Int,v = .int .u8 n∧0≤n∧n≤255:=by
 simp only [Ty.val,Ty.has] at h
 obtain ⟨n,e,h1,h2⟩:=h
 simp only [List.cons.injEq,and_true] at e
 exact ⟨n,e,h1,h2⟩
end Go.Dr.T
namespace Go.Dr.T
theorem bytes_cells:∀ {xs:List (List V)},(∀ x∈xs,x.length=1∧(Ty.int .u8).has x)→∃ l:List UInt8,xs.flatten=ofBytes l∧xs.length=l.length
 | [],_=>⟨[],rfl,rfl⟩
 | x :: xs,h=>by
  obtain ⟨l,h1,h2⟩:=bytes_cells (xs:=xs) fun y hy=>h y (by simp [hy])
  obtain ⟨_,hx⟩:=h x (by simp)
  simp only [Ty.has] at hx
  obtain ⟨n,rfl,h3,h4⟩:=hx
  simp only [IntKind.min,IntKind.max,IntKind.signed,IntKind.bits,Bool.false_eq_true,if_false] at h3 h4
  have h4' : n≤255:=by simpa using h4
  refine ⟨UInt8.ofNat n.toNat :: l,?_,by simp [h2]⟩
  have e:((UInt8.ofNat n.toNat).toNat:Int)=n:=by
   rw [UInt8.toNat_ofNat_of_lt' (by show n.toNat<256;omega)];omega
  simp only [List.flatten_cons,h1,ofBytes,e];rfl
theorem hasBytes {l:List V} (h:(Ty.slice 1 (.int .u8)).has l):∃ p:List UInt8,l=[.sl false p.length (ofBytes p)]:=by
 rw [Ty.has] at h
 obtain ⟨xs,rfl,hx⟩:=h
 obtain ⟨p,h1,h2⟩:=bytes_cells hx
 exact ⟨p,by rw [h1,h2]⟩
abbrev TyFm:Ty:=.agg [.int .i64,.int .i64,.slice 1 (.int .u8)]
theorem fm_all {l:List V} (h:Ty.hasAll [.int .i64,.int .i64,.slice 1 (.int .u8)] l):∃ f:Fm,l=[.int .i64 f.w,.int .i64 f.h,.sl f.c f.p.length (ofBytes f.p)]:=by
 simp only [Ty.hasAll] at h
 obtain ⟨a,b,rfl,ha,c,d,rfl,hc,e,f,rfl,he,rfl⟩:=h
 obtain ⟨w,rfl⟩:=hasInt ha
 obtain ⟨h,rfl⟩:=hasInt hc
 obtain ⟨p,rfl⟩:=hasBytes he
 exact ⟨⟨false,w,h,p⟩,rfl⟩
theorem fms_cells:∀ {xs:List (List V)},(∀ x∈xs,x.length=3∧TyFm.has x)→∃ l:List Fm,xs.flatten=fmC l∧xs.length=l.length
 | [],_=>⟨[],rfl,rfl⟩
 | x :: xs,h=>by
  obtain ⟨l,h1,h2⟩:=fms_cells (xs:=xs) fun y hy=>h y (by simp [hy])
  obtain ⟨_,hx⟩:=h x (by simp)
  obtain ⟨y,rfl⟩:=fm_all (by simpa only [Ty.has] using hx)
  exact ⟨y :: l,by simp only [List.flatten_cons,h1];rfl,by simp [h2]⟩
abbrev TyFms:Ty:=.slice 3 TyFm
theorem fms_val {v:V} (h:TyFms.val v):∃ l:List Fm,v = .sl false l.length (fmC l):=by
 rw [TyFms] at h
 simp only [Ty.val] at h
 rw [Ty.has] at h
 obtain ⟨xs,e,hx⟩:=h
 simp only [List.cons.injEq,and_true] at e
 subst e
 obtain ⟨l,h1,h2⟩:=fms_cells (xs:=xs) hx
 exact ⟨l,by rw [h1,h2]⟩
abbrev TyBx:Ty:=.agg [.int .i64,.int .i64,.int .i64,.int .i64]
theorem bx_all {l:List V} (h:Ty.hasAll [.int .i64,.int .i64,.int .i64,.int .i64] l):∃ x:Bx,l=bxV x:=by
 simp only [Ty.hasAll] at h
 obtain ⟨a,b,rfl,ha,c,d,rfl,hc,e,f,rfl,he,g,i,rfl,hg,rfl⟩:=h
 obtain ⟨w,rfl⟩:=hasInt ha
 obtain ⟨h,rfl⟩:=hasInt hc
 obtain ⟨p,rfl⟩:=hasInt he
 obtain ⟨q,rfl⟩:=hasInt hg
 exact ⟨⟨w,h,p,q⟩,rfl⟩
theorem bxs_cells:∀ {xs:List (List V)},(∀ x∈xs,x.length=4∧TyBx.has x)→∃ l:List Bx,xs.flatten=bxC l∧xs.length=l.length
 | [],_=>⟨[],rfl,rfl⟩
 | x :: xs,h=>by
  obtain ⟨l,h1,h2⟩:=bxs_cells (xs:=xs) fun y hy=>h y (by simp [hy])
  obtain ⟨_,hx⟩:=h x (by simp)
  obtain ⟨y,rfl⟩:=bx_all (by simpa only [Ty.has] using hx)
  exact ⟨y :: l,by simp only [List.flatten_cons,h1];rfl,by simp [h2]⟩
theorem hasBxs {l:List V} (h:(Ty.slice 4 TyBx).has l):∃ p:List Bx,l=[.sl false p.length (bxC p)]:=by
 rw [Ty.has] at h
 obtain ⟨xs,rfl,hx⟩:=h
 obtain ⟨p,h1,h2⟩:=bxs_cells hx
 exact ⟨p,by rw [h1,h2]⟩
abbrev TySp:Ty:=.agg [.int .i64,.int .i64,.int .i64,.slice 4 TyBx,.int .i64,.int .i64,.int .i64,.slice 1 (.int .u8)]
theorem sp_all {l:List V} (h:Ty.hasAll [.int .i64,.int .i64,.int .i64,.slice 4 TyBx,.int .i64,.int .i64,.int .i64,.slice 1 (.int .u8)] l):∃ s:Sp,l=spV s:=by
 simp only [Ty.hasAll] at h
 obtain ⟨a1,b1,rfl,h1,a2,b2,rfl,h2,a3,b3,rfl,h3,a4,b4,rfl,h4,a5,b5,rfl,h5,a6,b6,rfl,h6,a7,b7,rfl,h7,a8,b8,rfl,h8,rfl⟩:=h
 obtain ⟨n1,rfl⟩:=hasInt h1
 obtain ⟨n2,rfl⟩:=hasInt h2
 obtain ⟨n3,rfl⟩:=hasInt h3
 obtain ⟨n4,rfl⟩:=hasBxs h4
 obtain ⟨n5,rfl⟩:=hasInt h5
 obtain ⟨n6,rfl⟩:=hasInt h6
 obtain ⟨n7,rfl⟩:=hasInt h7
 obtain ⟨n8,rfl⟩:=hasBytes h8
 exact ⟨⟨n1,n2,n3,false,n4,n5,n6,n7,false,n8⟩,rfl⟩
theorem sp_val {v:V} (h:TySp.val v):∃ s:Sp,v = .agg (spV s):=by
 rw [TySp] at h
 simp only [Ty.val] at h
 obtain ⟨l,rfl,h⟩:=h
 obtain ⟨s,rfl⟩:=sp_all h
 exact ⟨s,rfl⟩
end Go.Dr.T
