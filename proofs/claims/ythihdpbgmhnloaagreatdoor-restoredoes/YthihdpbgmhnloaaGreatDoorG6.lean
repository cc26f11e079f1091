/- Chapter 08: Awake: the calls of which the document says what they return. -/
import Derived.Test.YthihdpbgmhnloaaGreatDoorG4
import Derived.Test.YthihdpbgmhnloaaGreatDoorR08Vf
namespace Go.Dr.T
def kwn (l:List V) (v:V) (as:List V):Option V:=match veqs as l with
 | true=>some v
 | false=>none
theorem kwn_eq {l:List V} {v w:V} {as:List V} (h:kwn l v as=some w):as=l∧w=v:=by
 unfold kwn at h
 split at h <;> cases h
 rename_i e
 exact ⟨veqs_eq e,rfl⟩
def filC:List V:=[.int .i64 3,.int .i64 2,.sl true 6 (ofBytes [10,20,30,40,50,60]),.int .i64 3,.int .i64 2,.sl true 6 (ofBytes [10,20,30,40,90,60])]
def filV:V:=.sl true 2 filC
def stL:List V:=[.int .i64 6,.int .i64 0,.int .i64 0,.sl true 1 (ofInts [0,0,1,0]),.int .i64 200,.int .i64 0,.int .i64 0,.sl true 0 []]
def chC:List (Int × Int × Int × Int)→List V
 | []=>[]
 | (a,b,c,d) :: l=>.int .i64 a :: .int .i64 b :: .int .u8 c :: .int .u8 d :: chC l
def liC:List V:=chC [(0,2,30,230),(0,3,40,240),(0,4,50,250),(0,5,60,255)]
def stsC:List V:=[.int .i64 1,.int .i64 0,.int .i64 1,.nilsl,.int .i64 1,.int .i64 0,.int .i64 7,.nilsl,.int .i64 6,.int .i64 1,.int .i64 1,.nilsl,.int .i64 5,.int .i64 0,.int .i64 0,.nilsl]
def vts:List Vt:=[⟨[97,110,110],0,true⟩,⟨[98,111,98],0,true⟩,⟨[97,110,110],1,true⟩,⟨[99,108,101,111],1,true⟩,⟨[98,111,98],1,false⟩,⟨[98,111,98],1,true⟩]
def S0 (_:Nat):Option (List V→Option V):=none
theorem known0:Known FB1 md S0:=by
 intro fn g hg
 cases hg
theorem film_doc:Fun FB1 md 37 [] filV:=fun_is known0 (n:=100) (by decide +kernel)
theorem lift_doc:Fun FB1 md 41 [] (.tup [.agg stL,.sl true 4 liC]):=fun_is known0 (n:=100) (by decide +kernel)
theorem steps_doc:Fun FB1 md 38 [] (.sl true 2 stsC):=fun_is known0 (n:=100) (by decide +kernel)
theorem votes_doc:Fun FB1 md 39 [] (.sl true 6 (vtC vts)):=fun_is known0 (n:=100) (by decide +kernel)
def txt:List UInt8:=[76,79,71,32,49,10,83,84,69,80,32,52,10,48,32,50,32,51,48,32,50,51,48,10,48,32,51,32,52,48,32,50,52,48,10,48,32,52,32,53,48,32,50,53,48,10,48,32,53,32,54,48,32,50,53,53,10,69,78,68,32,54,10]
theorem text_doc:Fun FB1 md 40 [] (.str txt):=fun_is known0 (n:=100) (by decide +kernel)
def filR:V:=.sl false 2 [.int .i64 3,.int .i64 2,.sl false 6 (ofBytes [10,20,230,240,250,255]),.int .i64 3,.int .i64 2,.sl false 6 (ofBytes [10,20,30,40,90,60])]
theorem do_doc:Fun FB1 md 16 [filV,.agg stL] (.tup [filR,.sl false 4 liC,.int .i64 0]):=fun_is known0 (n:=300) (by decide +kernel)
theorem trace_doc:Fun FB1 md 24 [filV,.sl true 2 stsC,.int .i64 0,.int .i64 5] (.tup [.agg [.int .i64 0,.int .i64 4],.sl false 1 (ofInts [0]),.int .i64 0]):=fun_is known0 (n:=300) (by decide +kernel)
theorem undo_doc:Fun FB1 md 29 [filV,.sl true 2 [.nilsl,.sl true 4 liC]] (.tup [.sl true 0 [],.int .i64 1,.int .i64 181]):=fun_is known0 (n:=300) (by decide +kernel)
theorem write_doc:Fun FB1 md 33 [.sl true 1 [.sl true 4 liC]] (.tup [.str txt,.int .i64 0]):=fun_is known0 (n:=300) (by decide +kernel)
theorem vot_doc:votA 2 (vts.take 5) 2=[0]∧votE 2 (vts.take 5) 2=0:=⟨by decide +kernel,by decide +kernel⟩
theorem voted_doc:Fun FB1 md 27 [.int .i64 2,.sl false 5 (vtC (vts.take 5)),.int .i64 2] (.tup [.sl false 1 (ofInts [0]),.int .i64 0]):=by
 have:=FunF.fun (voted_funF (c:=false) (n:=2) (need:=2) (l:=vts.take 5))
 rw [vot_doc.1,vot_doc.2] at this
 exact this
def S1 (n:Nat):Option (List V→Option V) :=
 match n with
 | 16=>some (kwn [filV,.agg stL] (.tup [filR,.sl false 4 liC,.int .i64 0]))
 | 24=>some (kwn [filV,.sl true 2 stsC,.int .i64 0,.int .i64 5] (.tup [.agg [.int .i64 0,.int .i64 4],.sl false 1 (ofInts [0]),.int .i64 0]))
 | 27=>some (kwn [.int .i64 2,.sl false 5 (vtC (vts.take 5)),.int .i64 2] (.tup [.sl false 1 (ofInts [0]),.int .i64 0]))
 | 29=>some (kwn [filV,.sl true 2 [.nilsl,.sl true 4 liC]] (.tup [.sl true 0 [],.int .i64 1,.int .i64 181]))
 | 33=>some (kwn [.sl true 1 [.sl true 4 liC]] (.tup [.str txt,.int .i64 0]))
 | _=>none
theorem known1:Known FB1 md S1:=by
 intro fn g hg as v h
 unfold S1 at hg
 split at hg
 all_goals (try (cases hg;done))
 all_goals
  cases hg
  obtain ⟨rfl,rfl⟩:=kwn_eq h
 ·exact do_doc
 ·exact trace_doc
 ·exact voted_doc
 ·exact undo_doc
 ·exact write_doc
theorem awake:Fun FB1 md 23 [] (.bool true):=fun_is known1 (n:=300) (by decide +kernel)
end Go.Dr.T
namespace Go.Dr.T
theorem ints_at {A:List Int} {i:Nat} {x:Int} (h:A[i]?=some x):cellAt (ofInts A) (i * 1)=some (.int .i64 x):=by
 rw [cellAt_eq,Nat.mul_one,ofInts,List.getElem?_map,h];rfl
theorem ofI_len (A:List Int):(ofInts A).length=A.length:=by simp [ofInts]
set_option maxRecDepth 100000 in
set_option maxHeartbeats 20000000 in
theorem ints_same {c d:Bool} {A:List Int} (hA:A.length≤1000000):Fun FB md 26 [.sl c A.length (ofInts A),.sl d A.length (ofInts A)] (.bool true):=by
 refine fun_of rfl rfl ?_
 repeat' (first
 | (conv=>whnf)
   first
   | (refine Br.decT ?_ ?_;(focus first | assumption | omega))
   | refine Br.not ?_)
 all_goals try (exfalso;omega;done)
 refine LoopP.by (fun i:Nat=>i≤A.length) (fun i=>[(5,.int .i64 (i:Nat))]) (fun _=>[]) (fun i=>A.length - i) 0 (Nat.zero_le _) rfl ?_
 rintro i hi'
 dsimp only
 by_cases hi:i<A.length
 rotate_left
 ·repeat' (first
 | (conv=>whnf)
   first
   | (refine Br.decF ?_ ?_;(focus first | assumption | omega))
   | refine Get.mk _ rfl ?_
   | refine Leaves.of ?_
   | refine Vw.bool ?_)
  all_goals first | rfl | (exfalso;omega)
 obtain ⟨x,hx⟩:∃ x,A[i]?=some x:=⟨_,List.getElem?_eq_getElem hi⟩
 have h1:=ints_at hx
 have hiw:IntKind.i64.wrap ((i:Int)+1)=((i+1:Nat):Int):=by rw [wrap_i64 (by omega) (by omega)];omega
 repeat' (first
 | (conv=>whnf)
   first
   | refine Bnd.eq hiw ?_
   | (refine Br.decT ?_ ?_;(focus first | assumption | omega))
   | refine Br.not ?_
   | refine Get.mk _ h1 ?_
   | (refine Idx.nat ?_ ?_;(focus omega))
   | (refine Req.mk ?_ ?_;(focus first | rfl | decide | exact ⟨rfl,rfl⟩ | exact ⟨rfl,by decide⟩ | exact (fun _=>rfl) | exact (fun h=>nomatch h) | (simp;done) | omega | (simp [big];done) | exact le_big (by omega) | exact lt_big (by omega))))
 all_goals first | (exfalso;omega;done) | exact NextP.mk (i+1) hi (by omega) rfl
theorem votA_len {n need:Int} {l:List Vt}:(votA n l need).length≤20:=by
 unfold votA
 split
 ·simp
 ·rename_i h
  have h1:votE n l need=0:=by
   by_cases e:votE n l need=0
   ·exact e
   ·exact absurd e h
  have hr:¬ (outB n 0 20=true∨outB need 1 200=true):=fun hr=>by
   unfold votE at h1;rw [if_pos hr] at h1;exact absurd h1 (by decide)
  have hn:n≤20:=by
   by_cases q:n≤20
   ·exact q
   ·exact absurd (.inl (by simp only [outB,Bool.or_eq_true,decide_eq_true_eq];omega)) hr
  have:=acc_len (lasE l) need n.toNat
  omega
set_option maxRecDepth 100000 in
set_option maxHeartbeats 20000000 in
theorem law_votes {c:Bool} {n need:Int} {l:List Vt}:Fun FB1 md 5 [.int .i64 n,.sl c l.length (vtC l),.int .i64 need] (.bool true):=by
 have h1:=FunF.fun (voted_funF (c:=c) (n:=n) (need:=need) (l:=l))
 have h2:=(votedR_ok (c:=c) (n:=n) (need:=need) (l:=l)).tab sub1
 have h3:=(ints_same (c:=decide (votA n l need=[])) (d:=decide (votA n l need=[])) (A:=votA n l need) (by have:=votA_len (n:=n) (need:=need) (l:=l);omega)).tab sub1
 have h4:=awake
 unfold liV at h1 h2
 generalize votA n l need=A at *
 generalize votE n l need=e at *
 refine fun_of rfl rfl ?_
 repeat' (first
 | (conv=>whnf)
   first
   | refine Br.t ?_
   | (refine Br.decT ?_ ?_;(focus first | assumption | omega))
   | refine call_fun rfl rfl h1 (.inl rfl) ?_
   | refine call_fun rfl rfl h2 (.inl rfl) ?_
   | refine call_fun rfl rfl h3 (.inl rfl) ?_
   | refine call_fun rfl rfl h4 (.inl rfl) ?_
   | refine Get.mk _ rfl ?_
   | refine Leaves.of ?_
   | refine Vw.bool ?_)
 all_goals first | rfl | (exfalso;omega;done)
end Go.Dr.T
