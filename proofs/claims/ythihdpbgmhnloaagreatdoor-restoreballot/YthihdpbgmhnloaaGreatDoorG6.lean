/- Chapter 08: Awake: the calls of which the document says what they return. -/
import Derived.Test.YthihdpbgmhnloaaGreatDoorG4
import Derived.Test.YthihdpbgmhnloaaGreatDoorR08Vf
namespace Go.Dr.T
def kwn (l:List V) (v:V) (as:List V):Option V:=match veqs as l with
 | true=>some v
 | false=>none
theorem kwn_eq {l:List V} {v w:V} {as:List V} (h:kwn l v as=some w):as=l∧w=v:=by
 unfold kwn at h
 split at h <;> cases h
 rename_i e
 exact ⟨veqs_eq e,rfl⟩
def filC:List V:=[.int .i64 3,.int .i64 2,.sl true 6 (ofBytes [10,20,30,40,50,60]),.int .i64 3,.int .i64 2,.sl true 6 (ofBytes [10,20,30,40,90,60])]
def filV:V:=.sl true 2 filC
def stL:List V:=[.int .i64 6,.int .i64 0,.int .i64 0,.sl true 1 (ofInts [0,0,1,0]),.int .i64 200,.int .i64 0,.int .i64 0,.sl true 0 []]
def chC:List (Int × Int × Int × Int)→List V
 | []=>[]
 | (a,b,c,d) :: l=>.int .i64 a :: .int .i64 b :: .int .u8 c :: .int .u8 d :: chC l
def liC:List V:=chC [(0,2,30,230),(0,3,40,240),(0,4,50,250),(0,5,60,255)]
def stsC:List V:=[.int .i64 1,.int .i64 0,.int .i64 1,.nilsl,.int .i64 1,.int .i64 0,.int .i64 7,.nilsl,.int .i64 6,.int .i64 1,.int .i64 1,.nilsl,.int .i64 5,.int .i64 0,.int .i64 0,.nilsl]
def vts:List Vt:=[⟨[97,110,110],0,true⟩,⟨[98,111,98],0,true⟩,⟨[97,110,110],1,true⟩,⟨[99,108,101,111],1,true⟩,⟨[98,111,98],1,false⟩,⟨[98,111,98],1,true⟩]
def S0 (_:Nat):Option (List V→Option V):=none
theorem known0:Known FB1 md S0:=by
 intro fn g hg
 cases hg
theorem film_doc:Fun FB1 md 37 [] filV:=fun_is known0 (n:=100) (by decide +kernel)
theorem lift_doc:Fun FB1 md 41 [] (.tup [.agg stL,.sl true 4 liC]):=fun_is known0 (n:=100) (by decide +kernel)
theorem steps_doc:Fun FB1 md 38 [] (.sl true 2 stsC):=fun_is known0 (n:=100) (by decide +kernel)
theorem votes_doc:Fun FB1 md 39 [] (.sl true 6 (vtC vts)):=fun_is known0 (n:=100) (by decide +kernel)
def txt:List UInt8:=[76,79,71,32,49,10,83,84,69,80,32,52,10,48,32,50,32,51,48,32,50,51,48,10,48,32,51,32,52,48,32,50,52,48,10,48,32,52,32,53,48,32,50,53,48,10,48,32,53,32,54,48,32,50,53,53,10,69,78,68,32,54,10]
theorem text_doc:Fun FB1 md 40 [] (.str txt):=fun_is known0 (n:=100) (by decide +kernel)
def filR:V:=.sl false 2 [.int .i64 3,.int .i64 2,.sl false 6 (ofBytes [10,20,230,240,250,255]),.int .i64 3,.int .i64 2,.sl false 6 (ofBytes [10,20,30,40,90,60])]
theorem do_doc:Fun FB1 md 16 [filV,.agg stL] (.tup [filR,.sl false 4 liC,.int .i64 0]):=fun_is known0 (n:=300) (by decide +kernel)
theorem trace_doc:Fun FB1 md 24 [filV,.sl true 2 stsC,.int .i64 0,.int .i64 5] (.tup [.agg [.int .i64 0,.int .i64 4],.sl false 1 (ofInts [0]),.int .i64 0]):=fun_is known0 (n:=300) (by decide +kernel)
theorem undo_doc:Fun FB1 md 29 [filV,.sl true 2 [.nilsl,.sl true 4 liC]] (.tup [.sl true 0 [],.int .i64 1,.int .i64 181]):=fun_is known0 (n:=300) (by decide +kernel)
theorem write_doc:Fun FB1 md 33 [.sl true 1 [.sl true 4 liC]] (.tup [.str txt,.int .i64 0]):=fun_is known0 (n:=300) (by decide +kernel)
theorem vot_doc:votA 2 (vts.take 5) 2=[0]∧votE 2 (vts.take 5) 2=0:=⟨by decide +kernel,by decide +kernel⟩
theorem voted_doc:Fun FB1 md 27 [.int .i64 2,.sl false 5 (vtC (vts.take 5)),.int .i64 2] (.tup [.sl false 1 (ofInts [0]),.int .i64 0]):=by
 have:=FunF.fun (voted_funF (c:=false) (n:=2) (need:=2) (l:=vts.take 5))
 rw [vot_doc.1,vot_doc.2] at this
 exact this
def S1 (n:Nat):Option (List V→Option V) :=
 match n with
 | 16=>some (kwn [filV,.agg stL] (.tup [filR,.sl false 4 liC,.int .i64 0]))
 | 24=>some (kwn [filV,.sl true 2 stsC,.int .i64 0,.int .i64 5] (.tup [.agg [.int .i64 0,.int .i64 4],.sl false 1 (ofInts [0]),.int .i64 0]))
 | 27=>some (kwn [.int .i64 2,.sl false 5 (vtC (vts.take 5)),.int .i64 2] (.tup [.sl false 1 (ofInts [0]),.int .i64 0]))
 | 29=>some (kwn [filV,.sl true 2 [.nilsl,.sl true 4 liC]] (.tup [.sl true 0 [],.int .i64 1,.int .i64 181]))
 | 33=>some (kwn [.sl true 1 [.sl true 4 liC]] (.tup [.str txt,.int .i64 0]))
 | _=>none
theorem known1:Known FB1 md S1:=by
 intro fn g hg as v h
 unfold S1 at hg
 split at hg
 all_goals (try (cases hg;done))
 all_goals
  cases hg
  obtain ⟨rfl,rfl⟩:=kwn_eq h
 ·exact do_doc
 ·exact trace_doc
 ·exact voted_doc
 ·exact undo_doc
 ·exact write_doc
theorem awake:Fun FB1 md 23 [] (.bool true):=fun_is known1 (n:=300) (by decide +kernel)
end Go.Dr.T
namespace Go.Dr.T
theorem ints_at {A:List Int} {i:Nat} {x:Int} (h:A[i]?=some x):cellAt (ofInts A) (i * 1)=some (.int .i64 x):=by
 rw [cellAt_eq,Nat.mul_one,ofInts,List.getElem?_map,h];rfl
theorem ofI_len (A:List Int):(ofInts A).length=A.length:=by simp [ofInts]
set_option maxRecDepth 100000 in
set_option maxHeartbeats 20000000 in
theorem ints_same {c d:Bool} {A:List Int} (hA:A.length≤1000000):Fun FB md 26 [.sl c A.length (ofInts A),.sl d A.length (ofInts A)] (.bool true):=by
 refine fun_of rfl rfl ?_
 repeat' (first
 | (conv=>whnf)
   first
   | (refine Br.decT ?_ ?_;(focus first | assumption | omega))
   | refine Br.not ?_)
 all_goals try (exfalso;omega;done)
 refine LoopP.by (fun i:Nat=>i≤A.length) (fun i=>[(5,.int .i64 (i:Nat))]) (fun _=>[]) (fun i=>A.length - i) 0 (Nat.zero_le _) rfl ?_
 rintro i hi'
 dsimp only
 by_cases hi:i<A.length
 rotate_left
 ·repeat' (first
 | (conv=>whnf)
   first
   | (refine Br.decF ?_ ?_;(focus first | assumption | omega))
   | refine Get.mk _ rfl ?_
   | refine Leaves.of ?_
   | refine Vw.bool ?_)
  all_goals first | rfl | (exfalso;omega)
 obtain ⟨x,hx⟩:∃ x,A[i]?=some x:=⟨_,List.getElem?_eq_getElem hi⟩
 have h1:=ints_at hx
 have hiw:IntKind.i64.wrap ((i:Int)+1)=((i+1:Nat):Int):=by rw [wrap_i64 (by omega) (by omega)];omega
 repeat' (first
 | (conv=>whnf)
   first
   | refine Bnd.eq hiw ?_
   | (refine Br.decT ?_ ?_;(focus first | assumption | omega))
   | refine Br.not ?_
   | refine Get.mk _ h1 ?_
   | (refine Idx.nat ?_ ?_;(focus omega))
   | (refine Req.mk ?_ ?_;(focus first | rfl | decide | exact ⟨rfl,rfl⟩ | exact ⟨rfl,by decide⟩ | exact (fun _=>rfl) | exact (fun h=>nomatch h) | (simp;done) | omega | (simp [big];done) | exact le_big (by omega) | exact lt_big (by omega))))
 all_goals first | (exfalso;omega;done) | exact NextP.mk (i+1) hi (by omega) rfl
theorem votA_len {n need:Int} {l:List Vt}:(votA n l need).length≤20:=by
 unfold votA
 split
 ·simp
 ·rename_i h
  have h1:votE n l need=0:=by
   by_cases e:votE n l need=0
   ·exact e
   ·exact absurd e h
  have hr:¬ (outB n 0 20=true∨outB need 1 200=true):=fun hr=>by
   unfold votE at h1;rw [if_pos hr] at h1;exact absurd h1 (by decide)
  have hn:n≤20:=by
   by_cases q:n≤20
   ·exact q
   ·exact absurd (.inl (by simp only [outB,Bool.or_eq_true,decide_eq_true_eq];omega)) hr
  have:=acc_len (lasE l) need n.toNat
  omega
set_option maxRecDepth 100000 in
set_option maxHeartbeats 20000000 in
theorem law_votes {c:Bool} {n need:Int} {l:List Vt}:Fun FB1 md 5 [.int .i64 n,.sl c l.length (vtC l),.int .i64 need] (.bool true):=by
 have h1:=FunF.fun (voted_funF (c:=c) (n:=n) (need:=need) (l:=l))
 have h2:=(votedR_ok (c:=c) (n:=n) (need:=need) (l:=l)).tab sub1
 have h3:=(ints_same (c:=decide (votA n l need=[])) (d:=decide (votA n l need=[])) (A:=votA n l need) (by have:=votA_len (n:=n) (need:=need) (l:=l);omega)).tab sub1
 have h4:=awake
 unfold liV at h1 h2
 generalize votA n l need=A at *
 generalize votE n l need=e at *
 refine fun_of rfl rfl ?_
 repeat' (first
 | (conv=>whnf)
   first
   | refine Br.t ?_
   | (refine Br.decT ?_ ?_;(focus first | assumption | omega))
   | refine call_fun rfl rfl h1 (.inl rfl) ?_
   | refine call_fun rfl rfl h2 (.inl rfl) ?_
   | refine call_fun rfl rfl h3 (.inl rfl) ?_
   | refine call_fun rfl rfl h4 (.inl rfl) ?_
   | refine Get.mk _ rfl ?_
   | refine Leaves.of ?_
   | refine Vw.bool ?_)
 all_goals first | rfl | (exfalso;omega;done)
end Go.Dr.T
namespace Go.Dr.T
theorem votA_bad {n need:Int} {l:List Vt} (h:votE n l need≠0):votA n l need=[]:=by unfold votA;rw [if_pos h]
theorem votA_good {n need:Int} {l:List Vt} (h:votE n l need=0):votA n l need=acc (lasE l) need n.toNat:=by unfold votA;rw [if_neg (fun e=>e h)]
theorem acc_mem {S:List En} {need x:Int} {n:Nat}:x∈acc S need n ↔ ∃ s:Nat,s<n∧(yesN S s:Int) ≥ need∧noN S s=false∧x=(s:Int):=by
 unfold acc
 constructor
 ·intro h
  obtain ⟨s,hs,rfl⟩:=List.mem_map.1 h
  obtain ⟨h1,h2⟩:=List.mem_filter.1 hs
  simp only [Bool.and_eq_true,decide_eq_true_eq,Bool.not_eq_true'] at h2
  exact ⟨s,List.mem_range.1 h1,h2.1,h2.2,rfl⟩
 ·rintro ⟨s,h1,h2,h3,rfl⟩
  refine List.mem_map.2 ⟨s,List.mem_filter.2 ⟨List.mem_range.2 h1,?_⟩,rfl⟩
  simp only [Bool.and_eq_true,decide_eq_true_eq,Bool.not_eq_true']
  exact ⟨h2,h3⟩
theorem acc_sorted {S:List En} {need:Int} {n:Nat}:(acc S need n).Pairwise (· < ·):=by
 unfold acc
 refine List.Pairwise.map _ (fun a b h => ?_) (List.Pairwise.filter _ List.pairwise_lt_range)
 exact Int.ofNat_lt.2 h
theorem vtF_zero {n:Int}:∀ {l:List Vt},vtF n l=0 ↔ ∀ v∈l,vtE n v=0
 | []=>⟨fun _ v h=>(nomatch h),fun _=>rfl⟩
 | v :: l=>by
  rw [vtF]
  by_cases h:vtE n v=0
  ·rw [if_neg (fun e=>e h),vtF_zero (l:=l)]
   exact ⟨fun g x hx=>by
    rcases List.mem_cons.1 hx with rfl | hx
    ·exact h
    ·exact g x hx,fun g x hx=>g x (by simp [hx])⟩
  ·rw [if_pos h]
   exact ⟨fun g=>absurd g h,fun g=>absurd (g v (by simp)) h⟩
theorem votE_zero {n need:Int} {l:List Vt}:votE n l need=0 ↔ outB n 0 20=false∧outB need 1 200=false∧l.length≤200∧∀ v∈l,vtE n v=0:=by
 unfold votE
 by_cases h:outB n 0 20=true∨outB need 1 200=true
 ·rw [if_pos h]
  refine ⟨fun e=>absurd e (by decide),fun ⟨h1,h2,_⟩ => ?_⟩
  rcases h with h | h
  ·rw [h1] at h;cases h
  ·rw [h2] at h;cases h
 ·rw [if_neg h]
  have a1:outB n 0 20=false:=by simpa using fun e=>h (.inl e)
  have a2:outB need 1 200=false:=by simpa using fun e=>h (.inr e)
  by_cases g:200<l.length
  ·rw [if_pos g]
   exact ⟨fun e=>absurd e (by decide),fun ⟨_,_,h3,_⟩=>absurd g (by omega)⟩
  ·rw [if_neg g,vtF_zero]
   exact ⟨fun e=>⟨a1,a2,by omega,e⟩,fun ⟨_,_,_,e⟩=>e⟩
abbrev vk (v:Vt):List UInt8 × Int:=(v.who,v.step)
abbrev lasF (l:List Vt) (E:List En):List En:=l.foldl (fun E v=>updE (vk v) v.yes E) E
theorem lasF_nd:∀ {l:List Vt} {E:List En},(E.map (·.1)).Nodup→((lasF l E).map (·.1)).Nodup
 | [],_,h=>h
 | _ :: l,_,h=>lasF_nd (l:=l) (updE_nd h)
theorem updE_permE {k:List UInt8 × Int} {b:Bool} {E E' : List En} (h:(E.map (·.1)).Nodup) (p:E.Perm E'):(updE k b E).Perm (updE k b E') :=
 (updE_perm h).trans (((p.filter _).append_right _).trans (updE_perm ((p.map _).nodup_iff.1 h)).symm)
theorem lasF_perm:∀ {l:List Vt} {E E' : List En},(E.map (·.1)).Nodup→E.Perm E' → (lasF l E).Perm (lasF l E')
 | [],_,_,_,p=>p
 | _ :: l,_,_,h,p=>lasF_perm (l:=l) (updE_nd h) (updE_permE h p)
theorem upd_two {k k' : List UInt8 × Int} {b b' : Bool} {E:List En} (hk:k≠k') (h:(E.map (·.1)).Nodup):(updE k b (updE k' b' E)).Perm (E.filter (fun e => !decide (e.1=k') && !decide (e.1=k))++[(k', b'),(k,b)]):=by
 refine (updE_perm (updE_nd h)).trans ?_
 have h1:=((updE_perm (k:=k') (b:=b') h).filter (fun e:En => !decide (e.1=k))).append_right [(k,b)]
 refine h1.trans (List.Perm.of_eq ?_)
 rw [List.filter_append,List.filter_filter]
 have e:List.filter (fun e:En => !decide (e.1=k)) [(k', b')]=[(k', b')]:=by simp [Ne.symm hk]
 rw [e,List.append_assoc]
 congr 1
 exact List.filter_congr fun x _=>by rw [Bool.and_comm]
theorem upd_swap {k k' : List UInt8 × Int} {b b' : Bool} {E:List En} (hk:k≠k') (h:(E.map (·.1)).Nodup):(updE k b (updE k' b' E)).Perm (updE k' b' (updE k b E)):=by
 refine (upd_two hk h).trans (List.Perm.trans ?_ (upd_two hk.symm h).symm)
 have e:E.filter (fun e => !decide (e.1=k') && !decide (e.1=k))=E.filter (fun e => !decide (e.1=k) && !decide (e.1=k')):=List.filter_congr fun x _=>by rw [Bool.and_comm]
 rw [e]
 exact (List.Perm.swap _ _ []).append_left _
theorem las_app {l l2:List Vt}:lasE (l++l2)=lasF l2 (lasE l):=by unfold lasE lasF;rw [List.foldl_append]
theorem las_nd {l:List Vt}:((lasE l).map (·.1)).Nodup:=lasF_nd (l:=l) (E:=[]) List.nodup_nil
theorem las_swap {l1 l2:List Vt} {a b:Vt} (hk:vk a≠vk b):(lasE (l1++a :: b :: l2)).Perm (lasE (l1++b :: a :: l2)):=by
 rw [las_app,las_app]
 exact lasF_perm (l:=l2) (updE_nd (updE_nd las_nd)) (upd_swap hk.symm las_nd)
theorem vot_swap {n need:Int} {l1 l2:List Vt} {a b:Vt} (hk:vk a≠vk b) (h:votE n (l1++a :: b :: l2) need=0):votE n (l1++b :: a :: l2) need=0∧votA n (l1++b :: a :: l2) need=votA n (l1++a :: b :: l2) need:=by
 have h' : votE n (l1++b :: a :: l2) need=0:=by
  rw [votE_zero] at h ⊢
  refine ⟨h.1,h.2.1,by simpa using h.2.2.1,fun v hv=>h.2.2.2 v ?_⟩
  simp only [List.mem_append,List.mem_cons] at hv ⊢
  rcases hv with h | h | h | h <;> simp [h]
 exact ⟨h', by rw [votA_good h,votA_good h', acc_perm (las_swap hk)]⟩
theorem at_two {α:Type}:∀ {l:List α} {k:Nat} {a b:α},l[k]?=some a→l[k+1]?=some b→l=l.take k++a :: b :: l.drop (k+2)∧(l.set k b).set (k+1) a=l.take k++b :: a :: l.drop (k+2)
 | x :: y :: l,0,a,b,h1,h2=>by
  simp only [List.getElem?_cons_zero,Option.some.injEq,Nat.zero_add,List.getElem?_cons_succ] at h1 h2
  subst h1;subst h2
  exact ⟨rfl,rfl⟩
 | [x],0,a,b,h1,h2=>by simp at h2
 | x :: l,k+1,a,b,h1,h2=>by
  obtain ⟨e1,e2⟩:=at_two (l:=l) (k:=k) (by simpa using h1) (by simpa using h2)
  refine ⟨?_,?_⟩
  ·rw [List.take_succ_cons,List.cons_append,List.drop_succ_cons, ← e1]
  ·rw [List.set_cons_succ,List.set_cons_succ,e2,List.take_succ_cons,List.cons_append,List.drop_succ_cons]
theorem vot_set {n need:Int} {l:List Vt} {k:Nat} {a b:Vt} (h1:l[k]?=some a) (h2:l[k+1]?=some b) (hk:vk a≠vk b) (h:votE n l need=0):votE n ((l.set k b).set (k+1) a) need=0∧votA n ((l.set k b).set (k+1) a) need=votA n l need:=by
 obtain ⟨e1,e2⟩:=at_two h1 h2
 rw [e2]
 rw [e1] at h
 have:=vot_swap hk h
 rwa [← e1] at this
theorem vot_easy {n need:Int} {l:List Vt} (h:votE n l need=0):votE n l (1+need.tdiv 2)=0∧∀ x∈votA n l need,x∈votA n l (1+need.tdiv 2):=by
 have hn:=(votE_zero.1 h).2.1
 simp only [outB,Bool.or_eq_false_iff,decide_eq_false_iff_not] at hn
 have hd:need.tdiv 2=need / 2:=Int.tdiv_eq_ediv_of_nonneg (by omega)
 have h' : votE n l (1+need.tdiv 2)=0:=by
  rw [votE_zero] at h ⊢
  refine ⟨h.1,?_,h.2.2⟩
  simp only [outB,Bool.or_eq_false_iff,decide_eq_false_iff_not]
  rw [hd]
  omega
 refine ⟨h', fun x hx => ?_⟩
 rw [votA_good h] at hx
 rw [votA_good h']
 obtain ⟨s,a1,a2,a3,a4⟩:=acc_mem.1 hx
 exact acc_mem.2 ⟨s,a1,by rw [hd];omega,a3,a4⟩
theorem las_who {l:List Vt}:∀ e∈lasE l,∃ v∈l,e.1=vk v:=by
 suffices h:∀ (m:List Vt) (E:List En),(∀ e∈E,∃ v∈l,e.1=vk v)→(∀ v∈m,v∈l)→∀ e∈lasF m E,∃ v∈l,e.1=vk v from h l [] (fun e h=>nomatch h) fun v h=>h
 intro m
 induction m with
 | nil=>intro E h _;exact h
 | cons v m ih =>
  intro E h hm
  refine ih _ (fun e he => ?_) fun u hu=>hm u (by simp [hu])
  rcases updE_mem he with rfl | he
  ·exact ⟨v,hm v (by simp),rfl⟩
  ·exact h e he
theorem vot_more {n need:Int} {l:List Vt} {m:Vt} (hw:∀ v∈l,v.who≠m.who) (hy:m.yes=true) (h:votE n l need=0) (h2:votE n (l++[m]) need=0):(∀ x∈votA n l need,x∈votA n (l++[m]) need)∧∀ x∈votA n (l++[m]) need,x∈votA n l need∨x=m.step:=by
 rw [votA_good h,votA_good h2]
 have e:lasE (l++[m])=lasE l++[(vk m,true)]:=by
  rw [lasE_snoc,hy,updE_not]
  intro e he q
  obtain ⟨v,hv,hq⟩:=las_who e he
  rw [hq] at q
  exact hw v hv (congrArg Prod.fst q)
 rw [e]
 have hno:∀ s,noN (lasE l++[(vk m,true)]) s=noN (lasE l) s:=fun s=>by rw [noN_snoc];simp
 have hye:∀ s:Nat,yesN (lasE l++[(vk m,true)]) s=yesN (lasE l) s+if m.step=(s:Int) then 1 else 0:=fun s=>by rw [yesN_snoc];simp
 constructor
 ·intro x hx
  obtain ⟨s,a1,a2,a3,a4⟩:=acc_mem.1 hx
  exact acc_mem.2 ⟨s,a1,by rw [hye];omega,by rw [hno];exact a3,a4⟩
 ·intro x hx
  obtain ⟨s,a1,a2,a3,a4⟩:=acc_mem.1 hx
  rw [hye] at a2
  rw [hno] at a3
  by_cases hs:m.step=(s:Int)
  ·exact .inr (by rw [a4,hs])
  ·rw [if_neg hs] at a2
   exact .inl (acc_mem.2 ⟨s,a1,a2,a3,a4⟩)
theorem vtC_app:∀ (a b:List Vt),vtC (a++b)=vtC a++vtC b
 | [],b=>rfl
 | v :: a,b=>by simp only [List.cons_append,vtC,vtC_app a b]
theorem over_vt:∀ {l:List Vt} {i:Nat} {v:Vt},i<l.length→over (vtC l) (i * 3) [.str v.who,.int .i64 v.step,.bool v.yes]=vtC (l.set i v)
 | w :: l,0,v,_=>by
  cases l <;> rfl
 | w :: l,i+1,v,h=>by
  rw [show (i+1) * 3=i * 3+1+1+1 by omega,List.set_cons_succ]
  simp only [vtC,over]
  rw [over_vt (l:=l) (by simpa using h)]
set_option maxRecDepth 100000 in
set_option maxHeartbeats 20000000 in
theorem has_ok {c:Bool} {A:List Int} {x:Int} (hA:A.length≤1000000):Fun FB md 31 [.sl c A.length (ofInts A),.int .i64 x] (.bool (decide (x∈A))):=by
 refine fun_of rfl rfl ?_
 skip
 all_goals try (exfalso;omega;done)
 refine LoopP.by (fun i:Nat=>i≤A.length∧∀ y∈A.take i,y≠x) (fun i=>[(5,.int .i64 (i:Nat))]) (fun _=>[]) (fun i=>A.length - i) 0 ⟨Nat.zero_le _,fun y h=>by simp at h⟩ rfl ?_
 rintro i ⟨hi', hn⟩
 dsimp only
 by_cases hi:i<A.length
 rotate_left
 ·have hx:decide (x∈A)=false:=by
   rw [List.take_of_length_le (by omega)] at hn
   exact decide_eq_false fun h=>hn x h rfl
  rw [hx]
  repeat' (first
 | (conv=>whnf)
   first
   | (refine Br.decF ?_ ?_;(focus first | assumption | omega))
   | refine Get.mk _ rfl ?_
   | refine Leaves.of ?_
   | refine Vw.bool ?_)
  all_goals first | rfl | (exfalso;omega)
 obtain ⟨y,hy⟩:∃ y,A[i]?=some y:=⟨_,List.getElem?_eq_getElem hi⟩
 have h1:=ints_at hy
 have hiw:IntKind.i64.wrap ((i:Int)+1)=((i+1:Nat):Int):=by rw [wrap_i64 (by omega) (by omega)];omega
 by_cases hxy:y=x
 ·have hx:decide (x∈A)=true:=decide_eq_true (hxy ▸ List.mem_of_getElem? hy)
  rw [hx]
  repeat' (first
 | (conv=>whnf)
   first
   | (refine Br.decT ?_ ?_;(focus first | assumption | omega))
   | refine Get.mk _ h1 ?_
   | (refine Idx.nat ?_ ?_;(focus omega))
   | refine Get.mk _ rfl ?_
   | refine Leaves.of ?_
   | refine Vw.bool ?_
   | (refine Req.mk ?_ ?_;(focus first | rfl | decide | exact ⟨rfl,rfl⟩ | exact ⟨rfl,by decide⟩ | exact (fun _=>rfl) | exact (fun h=>nomatch h) | (simp;done) | omega | (simp [big];done) | exact le_big (by omega) | exact lt_big (by omega))))
  all_goals first | rfl | (exfalso;omega;done) | exact absurd hxy (by assumption)
 have hn' : ∀ z∈A.take (i+1),z≠x:=fun z hz=>by
  rw [List.take_add_one,hy] at hz
  rcases List.mem_append.1 hz with h | h
  ·exact hn z h
  ·simp at h;rw [h];exact hxy
 repeat' (first
 | (conv=>whnf)
   first
   | refine Bnd.eq hiw ?_
   | (refine Br.decT ?_ ?_;(focus first | assumption | omega))
   | (refine Br.decF ?_ ?_;(focus first | assumption | omega))
   | refine Get.mk _ h1 ?_
   | (refine Idx.nat ?_ ?_;(focus omega))
   | (refine Req.mk ?_ ?_;(focus first | rfl | decide | exact ⟨rfl,rfl⟩ | exact ⟨rfl,by decide⟩ | exact (fun _=>rfl) | exact (fun h=>nomatch h) | (simp;done) | omega | (simp [big];done) | exact le_big (by omega) | exact lt_big (by omega))))
 all_goals first | (exfalso;omega;done) | (exact absurd ‹_› hxy) | exact NextP.mk (i+1) ⟨hi,hn'⟩ (by omega) rfl
end Go.Dr.T
