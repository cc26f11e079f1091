/- Chapter 08: Awake: the calls of which the document says what they return. -/
import Derived.Test.YthihdpbgmhnloaaGreatDoorG4
import Derived.Test.YthihdpbgmhnloaaGreatDoorR08Vf
import Derived.Test.YthihdpbgmhnloaaGreatDoorG0
import Derived.Test.YthihdpbgmhnloaaGreatDoorDrE
import Derived.Lib.LaidTab
import Derived.Shelf.Strings.SlTrimAscii
import Derived.Shelf.Strings.Count
import Derived.Shelf.Strings.Search3
import Derived.Shelf.Strings.OnBuilder
import Derived.Shelf.Strconv.Itoa3
namespace Go.Dr.T
def kwn (l:List V) (v:V) (as:List V):Option V:=match veqs as l with
 | true=>some v
 | false=>none
theorem kwn_eq {l:List V} {v w:V} {as:List V} (h:kwn l v as=some w):as=l∧w=v:=by
 unfold kwn at h
 split at h <;> cases h
 rename_i e
 exact ⟨veqs_eq e,rfl⟩
def filC:List V:=[.int .i64 3,.int .i64 2,.sl true 6 (ofBytes [10,20,30,40,50,60]),.int .i64 3,.int .i64 2,.sl true 6 (ofBytes [10,20,30,40,90,60])]
def filV:V:=.sl true 2 filC
def stL:List V:=[.int .i64 6,.int .i64 0,.int .i64 0,.sl true 1 (ofInts [0,0,1,0]),.int .i64 200,.int .i64 0,.int .i64 0,.sl true 0 []]
def chC:List (Int × Int × Int × Int)→List V
 | []=>[]
 | (a,b,c,d) :: l=>.int .i64 a :: .int .i64 b :: .int .u8 c :: .int .u8 d :: chC l
def liC:List V:=chC [(0,2,30,230),(0,3,40,240),(0,4,50,250),(0,5,60,255)]
def stsC:List V:=[.int .i64 1,.int .i64 0,.int .i64 1,.nilsl,.int .i64 1,.int .i64 0,.int .i64 7,.nilsl,.int .i64 6,.int .i64 1,.int .i64 1,.nilsl,.int .i64 5,.int .i64 0,.int .i64 0,.nilsl]
def vts:List Vt:=[⟨[97,110,110],0,true⟩,⟨[98,111,98],0,true⟩,⟨[97,110,110],1,true⟩,⟨[99,108,101,111],1,true⟩,⟨[98,111,98],1,false⟩,⟨[98,111,98],1,true⟩]
def S0 (_:Nat):Option (List V→Option V):=none
theorem known0:Known FB1 md S0:=by
 intro fn g hg
 cases hg
theorem film_doc:Fun FB1 md 37 [] filV:=fun_is known0 (n:=100) (by decide +kernel)
theorem lift_doc:Fun FB1 md 41 [] (.tup [.agg stL,.sl true 4 liC]):=fun_is known0 (n:=100) (by decide +kernel)
theorem steps_doc:Fun FB1 md 38 [] (.sl true 2 stsC):=fun_is known0 (n:=100) (by decide +kernel)
theorem votes_doc:Fun FB1 md 39 [] (.sl true 6 (vtC vts)):=fun_is known0 (n:=100) (by decide +kernel)
def txt:List UInt8:=[76,79,71,32,49,10,83,84,69,80,32,52,10,48,32,50,32,51,48,32,50,51,48,10,48,32,51,32,52,48,32,50,52,48,10,48,32,52,32,53,48,32,50,53,48,10,48,32,53,32,54,48,32,50,53,53,10,69,78,68,32,54,10]
theorem text_doc:Fun FB1 md 40 [] (.str txt):=fun_is known0 (n:=100) (by decide +kernel)
def filR:V:=.sl false 2 [.int .i64 3,.int .i64 2,.sl false 6 (ofBytes [10,20,230,240,250,255]),.int .i64 3,.int .i64 2,.sl false 6 (ofBytes [10,20,30,40,90,60])]
theorem do_doc:Fun FB1 md 16 [filV,.agg stL] (.tup [filR,.sl false 4 liC,.int .i64 0]):=fun_is known0 (n:=300) (by decide +kernel)
theorem trace_doc:Fun FB1 md 24 [filV,.sl true 2 stsC,.int .i64 0,.int .i64 5] (.tup [.agg [.int .i64 0,.int .i64 4],.sl false 1 (ofInts [0]),.int .i64 0]):=fun_is known0 (n:=300) (by decide +kernel)
theorem undo_doc:Fun FB1 md 29 [filV,.sl true 2 [.nilsl,.sl true 4 liC]] (.tup [.sl true 0 [],.int .i64 1,.int .i64 181]):=fun_is known0 (n:=300) (by decide +kernel)
theorem write_doc:Fun FB1 md 33 [.sl true 1 [.sl true 4 liC]] (.tup [.str txt,.int .i64 0]):=fun_is known0 (n:=300) (by decide +kernel)
theorem vot_doc:votA 2 (vts.take 5) 2=[0]∧votE 2 (vts.take 5) 2=0:=⟨by decide +kernel,by decide +kernel⟩
theorem voted_doc:Fun FB1 md 27 [.int .i64 2,.sl false 5 (vtC (vts.take 5)),.int .i64 2] (.tup [.sl false 1 (ofInts [0]),.int .i64 0]):=by
 have:=FunF.fun (voted_funF (c:=false) (n:=2) (need:=2) (l:=vts.take 5))
 rw [vot_doc.1,vot_doc.2] at this
 exact this
def S1 (n:Nat):Option (List V→Option V) :=
 match n with
 | 16=>some (kwn [filV,.agg stL] (.tup [filR,.sl false 4 liC,.int .i64 0]))
 | 24=>some (kwn [filV,.sl true 2 stsC,.int .i64 0,.int .i64 5] (.tup [.agg [.int .i64 0,.int .i64 4],.sl false 1 (ofInts [0]),.int .i64 0]))
 | 27=>some (kwn [.int .i64 2,.sl false 5 (vtC (vts.take 5)),.int .i64 2] (.tup [.sl false 1 (ofInts [0]),.int .i64 0]))
 | 29=>some (kwn [filV,.sl true 2 [.nilsl,.sl true 4 liC]] (.tup [.sl true 0 [],.int .i64 1,.int .i64 181]))
 | 33=>some (kwn [.sl true 1 [.sl true 4 liC]] (.tup [.str txt,.int .i64 0]))
 | _=>none
theorem known1:Known FB1 md S1:=by
 intro fn g hg as v h
 unfold S1 at hg
 split at hg
 all_goals (try (cases hg;done))
 all_goals
  cases hg
  obtain ⟨rfl,rfl⟩:=kwn_eq h
 ·exact do_doc
 ·exact trace_doc
 ·exact voted_doc
 ·exact undo_doc
 ·exact write_doc
theorem awake:Fun FB1 md 23 [] (.bool true):=fun_is known1 (n:=300) (by decide +kernel)
end Go.Dr.T
namespace Go.Dr.T
theorem ints_at {A:List Int} {i:Nat} {x:Int} (h:A[i]?=some x):cellAt (ofInts A) (i * 1)=some (.int .i64 x):=by
 rw [cellAt_eq,Nat.mul_one,ofInts,List.getElem?_map,h];rfl
theorem ofI_len (A:List Int):(ofInts A).length=A.length:=by simp [ofInts]
set_option maxRecDepth 100000 in
set_option maxHeartbeats 20000000 in
theorem ints_same {c d:Bool} {A:List Int} (hA:A.length≤1000000):Fun FB md 26 [.sl c A.length (ofInts A),.sl d A.length (ofInts A)] (.bool true):=by
 refine fun_of rfl rfl ?_
 repeat' (first
 | (conv=>whnf)
   first
   | (refine Br.decT ?_ ?_;(focus first | assumption | omega))
   | refine Br.not ?_)
 all_goals try (exfalso;omega;done)
 refine LoopP.by (fun i:Nat=>i≤A.length) (fun i=>[(5,.int .i64 (i:Nat))]) (fun _=>[]) (fun i=>A.length - i) 0 (Nat.zero_le _) rfl ?_
 rintro i hi'
 dsimp only
 by_cases hi:i<A.length
 rotate_left
 ·repeat' (first
 | (conv=>whnf)
   first
   | (refine Br.decF ?_ ?_;(focus first | assumption | omega))
   | refine Get.mk _ rfl ?_
   | refine Leaves.of ?_
   | refine Vw.bool ?_)
  all_goals first | rfl | (exfalso;omega)
 obtain ⟨x,hx⟩:∃ x,A[i]?=some x:=⟨_,List.getElem?_eq_getElem hi⟩
 have h1:=ints_at hx
 have hiw:IntKind.i64.wrap ((i:Int)+1)=((i+1:Nat):Int):=by rw [wrap_i64 (by omega) (by omega)];omega
 repeat' (first
 | (conv=>whnf)
   first
   | refine Bnd.eq hiw ?_
   | (refine Br.decT ?_ ?_;(focus first | assumption | omega))
   | refine Br.not ?_
   | refine Get.mk _ h1 ?_
   | (refine Idx.nat ?_ ?_;(focus omega))
   | (refine Req.mk ?_ ?_;(focus first | rfl | decide | exact ⟨rfl,rfl⟩ | exact ⟨rfl,by decide⟩ | exact (fun _=>rfl) | exact (fun h=>nomatch h) | (simp;done) | omega | (simp [big];done) | exact le_big (by omega) | exact lt_big (by omega))))
 all_goals first | (exfalso;omega;done) | exact NextP.mk (i+1) hi (by omega) rfl
theorem votA_len {n need:Int} {l:List Vt}:(votA n l need).length≤20:=by
 unfold votA
 split
 ·simp
 ·rename_i h
  have h1:votE n l need=0:=by
   by_cases e:votE n l need=0
   ·exact e
   ·exact absurd e h
  have hr:¬ (outB n 0 20=true∨outB need 1 200=true):=fun hr=>by
   unfold votE at h1;rw [if_pos hr] at h1;exact absurd h1 (by decide)
  have hn:n≤20:=by
   by_cases q:n≤20
   ·exact q
   ·exact absurd (.inl (by simp only [outB,Bool.or_eq_true,decide_eq_true_eq];omega)) hr
  have:=acc_len (lasE l) need n.toNat
  omega
set_option maxRecDepth 100000 in
set_option maxHeartbeats 20000000 in
theorem law_votes {c:Bool} {n need:Int} {l:List Vt}:Fun FB1 md 5 [.int .i64 n,.sl c l.length (vtC l),.int .i64 need] (.bool true):=by
 have h1:=FunF.fun (voted_funF (c:=c) (n:=n) (need:=need) (l:=l))
 have h2:=(votedR_ok (c:=c) (n:=n) (need:=need) (l:=l)).tab sub1
 have h3:=(ints_same (c:=decide (votA n l need=[])) (d:=decide (votA n l need=[])) (A:=votA n l need) (by have:=votA_len (n:=n) (need:=need) (l:=l);omega)).tab sub1
 have h4:=awake
 unfold liV at h1 h2
 generalize votA n l need=A at *
 generalize votE n l need=e at *
 refine fun_of rfl rfl ?_
 repeat' (first
 | (conv=>whnf)
   first
   | refine Br.t ?_
   | (refine Br.decT ?_ ?_;(focus first | assumption | omega))
   | refine call_fun rfl rfl h1 (.inl rfl) ?_
   | refine call_fun rfl rfl h2 (.inl rfl) ?_
   | refine call_fun rfl rfl h3 (.inl rfl) ?_
   | refine call_fun rfl rfl h4 (.inl rfl) ?_
   | refine Get.mk _ rfl ?_
   | refine Leaves.of ?_
   | refine Vw.bool ?_)
 all_goals first | rfl | (exfalso;omega;done)
end Go.Dr.T
namespace Go.Dr.T
theorem tab_mono {P:Program} {name:String} {kk:IntKind} {zs:List Int} {g:Nat} (hg:P.globalNamed name=some g) {w w' : World} (h:Go.RowKit.Below (g+1) w w') (t:Lib.TabIs P w name kk zs):Lib.TabIs P w' name kk zs:=by
 unfold Lib.TabIs World.var? at t ⊢
 rw [hg] at t ⊢
 simp only [Option.bind_some] at t ⊢
 rw [h.block g (Nat.lt_succ_self g)]
 exact t
theorem tab_size {P:Program} {name:String} {kk:IntKind} {zs:List Int} {g:Nat} (hg:P.globalNamed name=some g) {w:World} (t:Lib.TabIs P w name kk zs):g+1≤w.heap.size:=by
 unfold Lib.TabIs World.var? at t
 rw [hg] at t
 simp only [Option.bind_some] at t
 split at t
 ·rename_i h
  exact (Array.getElem?_eq_some_iff.1 h).1
 ·cases t
theorem tab_in {P:Program} {W:World} {name:String} {kk:IntKind} {zs:List Int} {g t e n:Nat}
  (hg:P.globalNamed name=some g) (hty:(P.globals[g]?).map (·.type)=some t) (ht:P.underlying t=some (.array n e)) (he:P.underlying e=some (.int kk)) (hce:P.cellsOf e=1) (hct:P.cellsOf t=n) :
  ∀ {l:List (String × DataW Unit)} {ps:List MemPlace},DataW.LaidVars P W l ps→(name,Lib.tabData kk zs)∈l→Lib.TabIs P W name kk zs
 | [],_,_,hm=>by cases hm
 | (n', d) :: l,ps,h,hm=>by
  obtain ⟨g', t', cs,fuel,p,q,hg', ht', hvar,hd,hr,_⟩:=h
  rcases List.mem_cons.1 hm with e0 | hm
  ·cases e0
   obtain rfl:=Option.some.inj (hg.symm.trans hg')
   obtain rfl:=Option.some.inj (hty.symm.trans ht')
   unfold Lib.TabIs
   rw [hvar, ← Lib.cells_of_tab ht he hce hct hd]
  ·exact tab_in hg hty ht he hce hct hr hm
end Go.Dr.T
namespace Go.Dr
open Go.RowKit (Below)
open Go.Shelf Go.Proofs
variable {P:Program} [GT P] {k:K}
theorem kn_shelf {f np:Nat} {gp:List V→Option V}
  (hc:∀ (ls:List V) (v:V) (k:K) (xs:List Value),Good P k→gp ls=some v→RL k ls xs→∃ y,(∀ k' : K,R k' v y)∧Calls P f ⟨xs⟩ k.w (fun e w' => e = .returned y∧Below k.w.heap.size k.w w')):KnOk P f np (plainKn gp):=by
 intro ro k ls xs v h' g ha hlen hg Q hQ
 unfold plainKn at hg
 split at hg
 ·rename_i hh
  obtain ⟨v1,hv1,e⟩:=map_some hg
  simp only [Prod.mk.injEq] at e
  obtain ⟨e1,e2⟩:=e
  subst e1
  obtain ⟨y,hy,hcc⟩:=hc ls _ k xs g hv1 ha
  refine hcc.mono ?_
  rintro e w' ⟨rfl,hb⟩
  obtain ⟨g1,e1⟩:=g.world (hb.mono g.size) hb.block ro k.h.length
  exact hQ y { k with w:=w' } (hh.trans e2.symm) g1 e1 (hy _)
 ·cases hg
theorem RL.two {a b:V} {xs:List Value} (h:RL k [a,b] xs):∃ x y,xs=[x,y]∧R k a x∧R k b y:=by
 simp only [RL] at h
 obtain ⟨x,r,rfl,h1,y,r', rfl,h2,rfl⟩:=h
 exact ⟨x,y,rfl,h1,h2⟩
theorem kn_count {ρ:Ren} (L:Lays.n138 P ρ):KnOk P (ρ.f 138) 2 (plainKn cntG):=by
 refine kn_shelf fun ls v k xs _ hg ha => ?_
 unfold cntG at hg
 split at hg <;> (try (cases hg;done))
 cases hg
 obtain ⟨x,y,rfl,h1,h2⟩:=RL.two ha
 simp only [R] at h1 h2
 subst h1;subst h2
 refine ⟨_,fun k' => by simp only [R];rfl,(Any.strings_Count_one L _ _ _).mono ?_⟩
 rintro e w' ⟨rfl,rfl⟩
 exact ⟨rfl,.refl _ _⟩
theorem kn_index {ρ:Ren} (L:Lays.n143 P ρ):KnOk P (ρ.f 143) 2 (plainKn idxG):=by
 refine kn_shelf fun ls v k xs _ hg ha => ?_
 unfold idxG at hg
 split at hg <;> (try (cases hg;done))
 cases hg
 obtain ⟨x,y,rfl,h1,h2⟩:=RL.two ha
 simp only [R] at h1 h2
 subst h1;subst h2
 refine ⟨_,fun k' => by simp only [R];rfl,(Any.strings_Index_one L _ _ _).mono ?_⟩
 rintro e w' ⟨rfl,rfl⟩
 exact ⟨rfl,.refl _ _⟩
theorem kn_trim {ρ:Ren} (L:Lays.n160 P ρ) (h116:(P.info? (ρ.t 116)).map (fun i=>(i.zero,i.size))=some (some (.agg (Array.replicate 256 (.bool false))),256)):KnOk P (ρ.f 160) 2 (plainKn trmG):=by
 refine kn_shelf fun ls v k xs _ hg ha => ?_
 unfold trmG at hg
 split at hg <;> (try (cases hg;done))
 rename_i s c
 split at hg <;> (try (cases hg;done))
 rename_i hcond
 cases hg
 obtain ⟨x,y,rfl,h1,h2⟩:=RL.two ha
 simp only [R] at h1 h2
 subst h1;subst h2
 refine ⟨_,fun k' => by simp only [R];rfl,(Any.strings_Trim_laid L h116 ⟨s.toArray⟩ ⟨c.toArray⟩ _ (by simpa [ByteArray.size] using hcond.1) (by simpa [ByteArray.size] using hcond.2.1) (ascii_of_all (by simpa using hcond.2.2))).mono ?_⟩
 rintro e w' ⟨rfl,h⟩
 exact ⟨rfl,h⟩
theorem kn_itoa {ρ : Ren} (L : LaysM.n171 P ρ) (hT : ∀ w, GT.ok P w → Lib.TabIs P w "internal/strconv.uint64pow10" .u64 Lib.pow10Tab) : KnOk P (ρ.f 171) 1 (plainKn T.decG) := by
 refine kn_shelf fun ls v k xs gk hg ha => ?_
 unfold T.decG at hg
 split at hg <;> (try (cases hg;done))
 rename_i n
 split at hg <;> (try (cases hg;done))
 rename_i hcond
 cases hg
 simp only [RL] at ha
 obtain ⟨x,r,rfl,h1,rfl⟩:=ha
 simp only [R] at h1
 subst h1
 refine ⟨_,fun k' => by simp only [R];rfl,(Any.strconv_Itoa L n hcond.1 hcond.2 k.w (hT _ gk.tab.2)).mono ?_⟩
 rintro e w' ⟨rfl,d,os,rfl⟩
 exact ⟨rfl,⟨rfl,rfl,rfl,by simp [Go.Sort.grow,World.drewN],fun b hb=>Array.getElem?_append_left hb⟩⟩
theorem strs_vals {k:K}:∀ {cs:List V} {l:List (List UInt8)} {xs:List Value},T.strsOf cs=some l→RL k cs xs→xs=(l.map fun s=>(⟨s.toArray⟩:ByteArray)).map Value.string
 | [],l,xs,h,hx=>by
  simp only [T.strsOf,Option.some.injEq] at h
  subst h
  simpa [RL] using hx
 | v :: cs,l,xs,h,hx=>by
  simp only [RL] at hx
  obtain ⟨x,r,rfl,h1,h2⟩:=hx
  cases v with
  | str s =>
   simp only [T.strsOf] at h
   obtain ⟨l', h3,rfl⟩:=map_some h
   simp only [R] at h1
   rw [h1,strs_vals h3 h2]
   rfl
  | _=>simp [T.strsOf] at h
theorem cells_get {w:World} {b:Nat}:∀ {vs:List Value} {off:Nat},cellsAt w b off vs→∀ {j:Nat} {x:Value},vs[j]?=some x→w.cell? ⟨b,off+j,none⟩=some x
 | v :: vs,off,h,0,x,hx=>by
  simp only [List.getElem?_cons_zero,Option.some.injEq] at hx
  subst hx
  exact h.1
 | v :: vs,off,h,j+1,x,hx=>by
  have:=cells_get h.2 (j:=j) (by simpa using hx)
  rwa [show off+1+j=off+(j+1) by omega] at this
theorem kn_join {ρ:Ren} (L:Lays.n156 P ρ) (X:Builder.Extra P ρ):KnOk P (ρ.f 156) 2 (plainKn T.joiG):=by
 refine kn_shelf fun ls v k xs gk hg ha => ?_
 unfold T.joiG at hg
 split at hg <;> (try (cases hg;done))
 rename_i c n cs sep
 split at hg <;> (try (cases hg;done))
 rename_i l hl
 split at hg <;> (try (cases hg;done))
 rename_i hcond
 obtain ⟨rfl,hn,hlen⟩:=hcond
 cases hg
 obtain ⟨x,y,rfl,h1,h2⟩:=RL.two ha
 simp only [R] at h1 h2
 subst h2
 refine ⟨.string ⟨(Lib.join l sep).toArray⟩,fun k' => by simp only [R],?_⟩
 have none0:∀ a c,l=[]→Calls P (ρ.f 156) ⟨[.slice a 0 c,.string ⟨sep.toArray⟩]⟩ k.w (fun e w' => e = .returned (.string ⟨(Lib.join l sep).toArray⟩)∧Below k.w.heap.size k.w w'):=fun a c e=>by
  subst e
  refine (Any.strings_Join_none L X a c ⟨sep.toArray⟩ k.w).mono ?_
  rintro e w' ⟨rfl,rfl⟩
  exact ⟨rfl,.refl _ _⟩
 rcases h1 with ⟨a,rfl,h3,_⟩ | ⟨b,off,cap,vs,rfl,hok,hcl,hRL,_,hcap,_⟩
 ·have:l=[]:=List.eq_nil_of_length_eq_zero h3
  subst this
  exact none0 a 0 rfl
 ·have hvs:=strs_vals hl hRL
  by_cases h0:l=[]
  ·subst h0
   exact none0 _ cap rfl
  ·have hb:b<k.w.heap.size:=by
    rcases hok with h | h
    ·rw [h] at hvs
     have:=congrArg List.length hvs
     simp at this
     exact absurd (List.eq_nil_of_length_eq_zero this.symm) h0
    ·exact h.2
   have hmm:(l.map fun s=>(⟨s.toArray⟩:ByteArray)).map (fun x=>x.data.toList)=l:=by
    rw [List.map_map]
    conv=>rhs;rw [← List.map_id l]
    exact List.map_congr_left fun s _=>rfl
   have:=Any.strings_Join L X b off cap (l.map fun s=>(⟨s.toArray⟩:ByteArray)) ⟨sep.toArray⟩ k.w (fun j x hx=>cells_get hcl (by rw [hvs,List.getElem?_map,hx];rfl)) hb (by simpa using hn) (by simpa using hcap) (by rw [hmm];exact hlen)
   rw [hmm,List.length_map] at this
   exact this
end Go.Dr
