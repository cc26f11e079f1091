/- Chapter 06: the name of an element, as the document sees it. -/
import Derived.Test.YtcjhgcjmomildaaGreatDoorG0
namespace Go.Dr.T
theorem alnum_eq (b:UInt8):alnum.contains b=(isLet b || (decide ((b.toNat:Int) ≥ 48) && decide ((b.toNat:Int)≤57))):=by
 have h:∀ n,n<256→alnum.contains (UInt8.ofNat n)=(isLet (UInt8.ofNat n) || (decide (((UInt8.ofNat n).toNat:Int) ≥ 48) && decide (((UInt8.ofNat n).toNat:Int)≤57))):=by decide +kernel
 have:=h b.toNat b.toNat_lt
 rwa [UInt8.ofNat_toNat] at this
theorem dash_eq {b:UInt8}:b=45 ↔ (b.toNat:Int)=45:=by
 constructor
 ·rintro rfl;rfl
 ·intro h
  have:b.toNat=(45:UInt8).toNat:=by show b.toNat=45;omega
  exact UInt8.toNat_inj.1 this
def pdA (s:List UInt8) (i:Nat):Bool:=decide (s[i - 1]?=some 45)
set_option maxRecDepth 100000 in
set_option maxHeartbeats 20000000 in
theorem refName_ok {s:List UInt8}:Fun FB md 11 [.str s] (.bool (nmOk s)):=by
 have h1:=inB_ok (n:=(s.length:Int)) (lo:=1) (hi:=24)
 cases s with
 | nil =>
  refine fun_of rfl rfl ?_
  repeat' (first
 | (conv=>whnf)
   first
   | refine Br.t ?_
   | refine call_fun rfl rfl h1 (.inl rfl) ?_
   | refine Get.mk _ rfl ?_
   | refine Leaves.of ?_
   | refine Vw.bool ?_)
  all_goals rfl
 | cons b l =>
  by_cases hl:(b :: l).length≤24
  ·rw [show (decide (((b :: l).length:Int) ≥ 1) && decide (((b :: l).length:Int)≤24))=true by simp;simp at hl;omega] at h1
   have h2:=let_ok (b:=b)
   have hg:(b :: l)[0]?=some b:=rfl
   have h0:1≤(b :: l).length:=by simp
   have e:nmOk (b :: l)=(isLet b && chk true (b :: l)):=by simp only [nmOk,decide_eq_true hl,Bool.true_and]
   rw [e]
   have hd0:(b :: l).drop 0=b :: l:=rfl
   generalize (b :: l)=S at *
   cases hlet:isLet b <;> rw [hlet] at h2
   ·refine fun_of rfl rfl ?_
    repeat' (first
 | (conv=>whnf)
   first
   | refine Br.t ?_
   | refine Br.f ?_
   | refine call_fun rfl rfl h1 (.inl rfl) ?_
   | refine call_fun rfl rfl h2 (.inl rfl) ?_
   | refine Get.mk _ hg ?_
   | (refine Idx.int ?_ ?_ ?_;(focus omega);(focus omega))
   | refine Get.mk _ rfl ?_
   | refine Leaves.of ?_
   | refine Vw.bool ?_)
    all_goals rfl
   ·rw [Bool.true_and]
    refine fun_of rfl rfl ?_
    repeat' (first
 | (conv=>whnf)
   first
   | refine Br.f ?_
   | refine call_fun rfl rfl h1 (.inl rfl) ?_
   | refine call_fun rfl rfl h2 (.inl rfl) ?_
   | refine Get.mk _ hg ?_
   | (refine Idx.int ?_ ?_ ?_;(focus omega);(focus omega)))
    refine LoopP.by (fun i:Nat=>i≤S.length∧(1≤i→chk true S=chk (pdA S i) (S.drop i))∧(i=S.length→pdA S i=false)) (fun i=>[(3,.int .i64 (i:Nat))]) (fun _=>[]) (fun i=>S.length - i) 0 ⟨Nat.zero_le _,fun h=>absurd h (by omega),fun h=>absurd h (by omega)⟩ rfl ?_
    rintro i ⟨q1,q2,q3⟩
    dsimp only
    by_cases hi:i<S.length
    ·obtain ⟨x,hx⟩:∃ x,S[i]?=some x:=⟨_,List.getElem?_eq_getElem hi⟩
     have hdr:S.drop i=x :: S.drop (i+1):=by
      rw [List.drop_eq_getElem_cons hi]
      rw [List.getElem?_eq_getElem hi] at hx
      cases hx;rfl
     have hpd:pdA S (i+1)=decide (x=45):=by simp [pdA,hx]
     have h3:=let_ok (b:=x)
     have hal:=alnum_eq x
     have step:alnum.contains x=true→(i+1≤S.length∧(1≤i+1→chk true S=chk (pdA S (i+1)) (S.drop (i+1)))∧(i+1=S.length→pdA S (i+1)=false)):=by
      intro ha
      have hx45:x≠45:=by rintro rfl;revert ha;decide
      have hp:pdA S (i+1)=false:=by rw [hpd];simpa using hx45
      refine ⟨hi,fun _ => ?_,fun _=>hp⟩
      rw [hp]
      by_cases h1:1≤i
      ·rw [q2 h1,hdr,chk,if_neg hx45,ha,Bool.true_and]
      ·obtain rfl:i=0:=by omega
       rw [List.drop_zero] at hdr
       rw [hdr,chk,if_neg hx45,ha,Bool.true_and,List.drop_succ_cons,List.drop_zero]
     cases hlx:isLet x <;> rw [hlx] at h3 hal
     ·by_cases hdig:(x.toNat:Int) ≥ 48∧(x.toNat:Int)≤57
      ·obtain ⟨d1,d2⟩:=hdig
       have hs:=step (by rw [hal];simp [d1,d2])
       repeat' (first
 | (conv=>whnf)
   first
   | refine Br.f ?_
   | (refine Br.decT ?_ ?_;(focus first | assumption | omega))
   | (refine Bnd.i64 ?_ ?_ ?_;(focus omega);(focus omega))
   | refine call_fun rfl rfl h3 (.inl rfl) ?_
   | refine Get.mk _ hx ?_
   | (refine Idx.nat ?_ ?_;(focus omega)))
       refine NextP.mk (i+1) hs (by omega) rfl
      ·have hna:alnum.contains x=false:=by
        rw [hal,Bool.false_or,Bool.and_eq_false_iff]
        by_cases h:(x.toNat:Int) ≥ 48
        ·exact .inr (decide_eq_false fun h' => hdig ⟨h,h'⟩)
        ·exact .inl (decide_eq_false h)
       have hi1:1≤i:=by
        refine Classical.byContradiction fun h => ?_
        obtain rfl:i=0:=by omega
        rw [hg] at hx;cases hx
        rw [hlet] at hlx;cases hlx
       have hq:=q2 hi1
       rw [hdr,chk] at hq
       by_cases hx45:x=45
       ·rw [if_pos hx45] at hq
        have hn:=dash_eq.1 hx45
        obtain ⟨y,hy⟩:∃ y,S[((i:Int) - 1).toNat]?=some y:=⟨_,List.getElem?_eq_getElem (by omega)⟩
        have hpi:pdA S i=decide (y=45):=by
         have:((i:Int) - 1).toNat=i - 1:=by omega
         rw [this] at hy
         simp [pdA,hy]
        by_cases hy45:y=45
        ·have hny:=dash_eq.1 hy45
         have hres:chk true S=false:=by rw [hq,hpi,decide_eq_true hy45];rfl
         repeat' (first
 | (conv=>whnf)
   first
   | refine Br.t ?_
   | refine Br.f ?_
   | (refine Br.decT ?_ ?_;(focus first | assumption | omega))
   | (refine Br.decF ?_ ?_;(focus first | assumption | omega))
   | refine Br.not ?_
   | (refine Bnd.i64 ?_ ?_ ?_;(focus omega);(focus omega))
   | refine call_fun rfl rfl h3 (.inl rfl) ?_
   | refine Get.mk _ hx ?_
   | refine Get.mk _ hy ?_
   | (refine Idx.nat ?_ ?_;(focus omega))
   | (refine Idx.int ?_ ?_ ?_;(focus omega);(focus omega))
   | refine Get.mk _ rfl ?_
   | refine Leaves.of ?_
   | refine Vw.bool ?_)
         all_goals first | exact hres.symm | (exfalso;omega)
        ·have hny:(y.toNat:Int)≠45:=fun h=>hy45 (dash_eq.2 h)
         rw [hpi,decide_eq_false hy45,Bool.not_false,Bool.true_and] at hq
         by_cases hlast:i=S.length - 1
         ·have hres:chk true S=false:=by
           rw [hq,List.drop_of_length_le (by omega)];rfl
          repeat' (first
 | (conv=>whnf)
   first
   | refine Br.f ?_
   | (refine Br.decT ?_ ?_;(focus first | assumption | omega))
   | (refine Br.decF ?_ ?_;(focus first | assumption | omega))
   | refine Br.not ?_
   | (refine Bnd.i64 ?_ ?_ ?_;(focus omega);(focus omega))
   | refine call_fun rfl rfl h3 (.inl rfl) ?_
   | refine Get.mk _ hx ?_
   | refine Get.mk _ hy ?_
   | (refine Idx.nat ?_ ?_;(focus omega))
   | (refine Idx.int ?_ ?_ ?_;(focus omega);(focus omega))
   | refine Get.mk _ rfl ?_
   | refine Leaves.of ?_
   | refine Vw.bool ?_)
          all_goals first | exact hres.symm | (exfalso;omega)
         ·have hs:i+1≤S.length∧(1≤i+1→chk true S=chk (pdA S (i+1)) (S.drop (i+1)))∧(i+1=S.length→pdA S (i+1)=false):=by
           refine ⟨hi,fun _ => ?_,fun h=>absurd h (by omega)⟩
           rw [hq,hpd,decide_eq_true hx45]
          repeat' (first
 | (conv=>whnf)
   first
   | refine Br.f ?_
   | (refine Br.decT ?_ ?_;(focus first | assumption | omega))
   | (refine Br.decF ?_ ?_;(focus first | assumption | omega))
   | refine Br.not ?_
   | (refine Bnd.i64 ?_ ?_ ?_;(focus omega);(focus omega))
   | refine call_fun rfl rfl h3 (.inl rfl) ?_
   | refine Get.mk _ hx ?_
   | refine Get.mk _ hy ?_
   | (refine Idx.nat ?_ ?_;(focus omega))
   | (refine Idx.int ?_ ?_ ?_;(focus omega);(focus omega)))
          all_goals first | exact NextP.mk (i+1) hs (by omega) rfl | (exfalso;omega)
       ·rw [if_neg hx45,hna,Bool.false_and] at hq
        have hn:(x.toNat:Int)≠45:=fun h=>hx45 (dash_eq.2 h)
        repeat' (first
 | (conv=>whnf)
   first
   | refine Br.t ?_
   | refine Br.f ?_
   | (refine Br.decT ?_ ?_;(focus first | assumption | omega))
   | (refine Br.decF ?_ ?_;(focus first | assumption | omega))
   | refine Br.dec (fun _ => ?_) (fun _ => ?_)
   | refine Br.not ?_
   | refine call_fun rfl rfl h3 (.inl rfl) ?_
   | refine Get.mk _ hx ?_
   | (refine Idx.nat ?_ ?_;(focus omega))
   | refine Get.mk _ rfl ?_
   | refine Leaves.of ?_
   | refine Vw.bool ?_)
        all_goals first | exact hq.symm | (exfalso;omega)
     ·have hs:=step (by rw [hal];rfl)
      repeat' (first
 | (conv=>whnf)
   first
   | refine Br.t ?_
   | (refine Br.decT ?_ ?_;(focus first | assumption | omega))
   | (refine Bnd.i64 ?_ ?_ ?_;(focus omega);(focus omega))
   | refine call_fun rfl rfl h3 (.inl rfl) ?_
   | refine Get.mk _ hx ?_
   | (refine Idx.nat ?_ ?_;(focus omega)))
      refine NextP.mk (i+1) hs (by omega) rfl
    ·have hei:i=S.length:=by omega
     have hres:chk true S=true:=by
      rw [q2 (by omega),q3 hei,hei,List.drop_length];rfl
     repeat' (first
 | (conv=>whnf)
   first
   | (refine Br.decF ?_ ?_;(focus first | assumption | omega))
   | refine Get.mk _ rfl ?_
   | refine Leaves.of ?_
   | refine Vw.bool ?_)
     exact hres.symm
  ·rw [show (decide (((b :: l).length:Int) ≥ 1) && decide (((b :: l).length:Int)≤24))=false by simp;simp at hl;omega] at h1
   have e:nmOk (b :: l)=false:=by simp only [nmOk,decide_eq_false hl,Bool.false_and]
   rw [e]
   refine fun_of rfl rfl ?_
   repeat' (first
 | (conv=>whnf)
   first
   | refine Br.t ?_
   | refine call_fun rfl rfl h1 (.inl rfl) ?_
   | refine Get.mk _ rfl ?_
   | refine Leaves.of ?_
   | refine Vw.bool ?_)
   all_goals rfl
end Go.Dr.T
namespace Go.Dr.T
theorem norm_one {m:List Bool} {hl:Nat} {st:St} {tm:List V} {h:List B} (h1:masked m st.tm=tm) (h2:st.h.length=hl+1) (h5:st.h.take hl=h) (h3:blos hl tm=true) (h4:hbelow hl h=true):norm m hl st=⟨tm,h⟩:=by
 unfold norm trunc
 rw [h1,h2,Nat.add_sub_cancel_left]
 unfold strip
 simp only [Nat.add_zero,h5,h3,h4,Bool.and_self,if_true,strip]
theorem blos_ofInts (n:Nat):∀ l:List Int,blos n (ofInts l)=true
 | []=>rfl
 | _ :: l=>by simp only [ofInts,List.map_cons,blos,V.blo,Bool.true_and];exact blos_ofInts n l
theorem blos_trues (n:Nat):∀ k:Nat,blos n (List.replicate k (V.bool true))=true
 | 0=>rfl
 | k+1=>by simp only [List.replicate_succ,blos,V.blo,Bool.true_and];exact blos_trues n k
theorem fWe {v v' : V} {K:V→Prop} (e:v=v') (h:K v'):fW v K:=fW.mk (e ▸ h)
def mqB (ks:List Int):B:=.mq (List.range ks.length) ks.length (ofInts ks) (List.replicate ks.length (.bool true))
theorem mqB_snoc (ks:List Int) (m:Int):mqB (ks++[m]) = .mq (List.range ks.length++[ks.length]) (ks.length+1) (ofInts (ks++[m])) (List.replicate (ks.length+1) (.bool true)):=by
 simp [mqB,List.range_succ]
theorem mqB_blo (n:Nat) (ks:List Int):(mqB ks).blo n=true:=by
 simp only [mqB,B.blo,blos_ofInts,blos_trues,Bool.and_self]
theorem mfind_not {m:Int}:∀ {ks:List Int} {i:Nat},m ∉ ks→mfind 0 (.int .i64 m) (ofInts ks) i=some none
 | [],_,_=>rfl
 | k :: ks,i,h=>by
  have h1:m≠k:=fun e=>h (by simp [e])
  simp only [ofInts,List.map_cons,mfind,eq1,if_true,decide_eq_false h1]
  exact mfind_not (fun hm=>h (by simp [hm]))
theorem mfind_mem {m:Int}:∀ {ks:List Int} {i:Nat},m∈ks→∃ j,j<ks.length∧ks[j]?=some m∧mfind 0 (.int .i64 m) (ofInts ks) i=some (some (i+j))
 | k :: ks,i,h=>by
  by_cases h1:m=k
  ·subst h1
   exact ⟨0,by simp,by simp,by simp only [ofInts,List.map_cons,mfind,eq1,if_true,decide_true];rfl⟩
  ·obtain ⟨j,q1,q2,q3⟩:=mfind_mem (ks:=ks) (i:=i+1) (by simpa [h1] using h)
   refine ⟨j+1,by simpa using q1,by simpa using q2,?_⟩
   simp only [ofInts,List.map_cons,mfind,eq1,if_true,decide_eq_false h1]
   rw [show i+(j+1)=i+1+j by omega]
   exact q3
theorem tg_true:∀ {n j:Nat},j<n→tg (List.replicate n (V.bool true)) j = .bool true
 | n+1,0,_=>rfl
 | n+1,j+1,h=>by
  have:=tg_true (n:=n) (j:=j) (by omega)
  simpa only [List.replicate_succ,tg] using this
theorem tset_true:∀ {n j:Nat},j<n→tset (List.replicate n (V.bool true)) j (.bool true)=List.replicate n (.bool true)
 | n+1,0,_=>rfl
 | n+1,j+1,h=>by
  have:=tset_true (n:=n) (j:=j) (by omega)
  simp only [List.replicate_succ,tset,this]
def shC:List (Int × Int)→List V
 | []=>[]
 | p :: l=>.int .i64 p.1 :: .int .i64 p.2 :: shC l
theorem shC_length:∀ l,(shC l).length=l.length * 2
 | []=>rfl
 | _ :: l=>by simp only [shC,List.length_cons,shC_length l];omega
theorem part2 {c:List V} {n:Nat} {a b:V} (h:c.drop n=a :: b :: (c.drop (n+2))):part c n 2=some [a,b]:=by
 unfold part
 have:∀ (n:Nat) (c:List V),drop' n c=c.drop n:=by
  intro n;induction n with
  | zero=>intro c;cases c <;> rfl
  | succ n ih=>intro c;cases c with
   | nil=>rfl
   | cons x c=>simpa only [drop', List.drop_succ_cons] using ih c
 rw [this,h];rfl
theorem shC_drop:∀ {l:List (Int × Int)} {i:Nat} {p:Int × Int},l[i]?=some p→(shC l).drop (i * 2) = .int .i64 p.1 :: .int .i64 p.2 :: (shC l).drop (i * 2+2)
 | x :: l,0,p,h=>by
  simp only [List.getElem?_cons_zero,Option.some.injEq] at h
  subst h;rfl
 | x :: l,i+1,p,h=>by
  have:=shC_drop (l:=l) (i:=i) (p:=p) (by simpa using h)
  rw [show (i+1) * 2=i * 2+1+1 by omega]
  simpa only [shC,List.drop_succ_cons] using this
theorem shC_part {l:List (Int × Int)} {i:Nat} {p:Int × Int} (h:l[i]?=some p):part (shC l) (i * 2) 2=some [.int .i64 p.1,.int .i64 p.2]:=part2 (shC_drop h)
abbrev outB (n lo hi:Int):Bool:=decide (n<lo) || decide (n > hi)
theorem out_ok {n lo hi:Int}:Fun FB md 27 [.int .i64 n,.int .i64 lo,.int .i64 hi] (.bool (outB n lo hi)):=by
 refine fun_of rfl rfl ?_
 by_cases h1:n<lo <;> by_cases h2:n > hi
 all_goals
  repeat' (first
 | (conv=>whnf)
   first
   | (refine Br.decT ?_ ?_;(focus first | assumption | omega))
   | (refine Br.decF ?_ ?_;(focus first | assumption | omega))
   | refine Get.mk _ rfl ?_
   | refine Leaves.of ?_
   | refine Vw.bool ?_)
  all_goals simp [outB,h1,h2]
def eF (l:List (Int × Int)) (i:Nat):Int:=match l[i]? with
 | none=>0
 | some p=>if outB p.1 0 999 || outB p.2 1 200000 then 7 else if 0<p.1∧p.1∈(l.take i).map (·.1) then 5 else 0
def ckF (l:List (Int × Int)):Nat→Nat→Int × Int
 | _,0=>(0,0)
 | i,k+1=>if eF l i≠0 then ((i:Int),eF l i) else ckF l (i+1) k
def ckE (nm:List UInt8) (l:List (Int × Int)) (g:Int):Int × Int :=
 if nmOk nm=false then (0,6) else if outB g 0 9=true then (0,7) else if 40<l.length then (0,3) else ckF l 0 l.length
theorem ckF_err {l:List (Int × Int)} {i:Nat} (hi:i<l.length) (h:eF l i≠0):ckF l i (l.length - i)=((i:Int),eF l i):=by
 rw [show l.length - i=(l.length - (i+1))+1 by omega,ckF,if_pos h]
theorem ckF_next {l:List (Int × Int)} {i:Nat} (hi:i<l.length) (h:eF l i=0):ckF l i (l.length - i)=ckF l (i+1) (l.length - (i+1)):=by
 rw [show l.length - i=(l.length - (i+1))+1 by omega,ckF,if_neg (by simp [h])]
abbrev elV (nm:List UInt8) (c:Bool) (l:List (Int × Int)) (g:Int):V:=.agg [.str nm,.sl c l.length (shC l),.int .i64 g]
set_option maxRecDepth 100000 in
set_option maxHeartbeats 20000000 in
theorem check_ok {nm:List UInt8} {c:Bool} {l:List (Int × Int)} {g:Int}:Fun FB md 60 [elV nm c l g] (.tup [.int .i64 (ckE nm l g).1,.int .i64 (ckE nm l g).2]):=by
 have h1:=name_ok (s:=nm)
 unfold ckE
 cases hn:nmOk nm <;> rw [hn] at h1
 ·rw [if_pos rfl]
  refine fun_of rfl rfl ?_
  repeat' (first
 | (conv=>whnf)
   first
   | refine Br.t ?_
   | refine call_fun rfl rfl h1 (.inl rfl) ?_
   | refine Get.mk _ rfl ?_
   | refine Leaves.of ?_
   | refine Vw.int ?_
   | refine Vw.tup ?_
   | refine VwL.cons ?_ ?_
   | refine VwL.nil
   | (refine Req.mk ?_ ?_;(focus first | rfl | decide | exact ⟨rfl,rfl⟩ | exact ⟨rfl,by decide⟩ | exact (fun _=>rfl) | exact (fun h=>nomatch h) | (simp;done) | omega | (simp [big];done) | exact le_big (by omega) | exact lt_big (by omega))))
  all_goals rfl
 rw [if_neg (by simp)]
 have h2:=out_ok (n:=g) (lo:=0) (hi:=9)
 cases hg:outB g 0 9 <;> rw [hg] at h2
 rotate_left
 ·rw [if_pos rfl]
  refine fun_of rfl rfl ?_
  repeat' (first
 | (conv=>whnf)
   first
   | refine Br.t ?_
   | refine Br.f ?_
   | refine call_fun rfl rfl h1 (.inl rfl) ?_
   | refine call_fun rfl rfl h2 (.inl rfl) ?_
   | refine Get.mk _ rfl ?_
   | refine Leaves.of ?_
   | refine Vw.int ?_
   | refine Vw.tup ?_
   | refine VwL.cons ?_ ?_
   | refine VwL.nil
   | (refine Req.mk ?_ ?_;(focus first | rfl | decide | exact ⟨rfl,rfl⟩ | exact ⟨rfl,by decide⟩ | exact (fun _=>rfl) | exact (fun h=>nomatch h) | (simp;done) | omega | (simp [big];done) | exact le_big (by omega) | exact lt_big (by omega))))
  all_goals rfl
 rw [if_neg (by simp)]
 by_cases h3:40<l.length
 ·rw [if_pos h3]
  refine fun_of rfl rfl ?_
  repeat' (first
 | (conv=>whnf)
   first
   | refine Br.f ?_
   | (refine Br.decT ?_ ?_;(focus first | assumption | omega))
   | refine call_fun rfl rfl h1 (.inl rfl) ?_
   | refine call_fun rfl rfl h2 (.inl rfl) ?_
   | refine Get.mk _ rfl ?_
   | refine Leaves.of ?_
   | refine Vw.int ?_
   | refine Vw.tup ?_
   | refine VwL.cons ?_ ?_
   | refine VwL.nil
   | (refine Req.mk ?_ ?_;(focus first | rfl | decide | exact ⟨rfl,rfl⟩ | exact ⟨rfl,by decide⟩ | exact (fun _=>rfl) | exact (fun h=>nomatch h) | (simp;done) | omega | (simp [big];done) | exact le_big (by omega) | exact lt_big (by omega))))
  all_goals first | rfl | (exfalso;omega)
 rw [if_neg h3]
 refine fun_of rfl rfl ?_
 repeat' (first
 | (conv=>whnf)
   first
   | refine Br.f ?_
   | (refine Br.decF ?_ ?_;(focus first | assumption | omega))
   | refine call_fun rfl rfl h1 (.inl rfl) ?_
   | refine call_fun rfl rfl h2 (.inl rfl) ?_
   | refine Get.mk _ rfl ?_
   | (refine Req.mk ?_ ?_;(focus first | rfl | decide | exact ⟨rfl,rfl⟩ | exact ⟨rfl,by decide⟩ | exact (fun _=>rfl) | exact (fun h=>nomatch h) | (simp;done) | omega | (simp [big];done) | exact le_big (by omega) | exact lt_big (by omega))))
 refine LoopP.by (fun x:Nat × List Int=>x.1≤l.length∧(∀ m,m∈x.2 ↔ m∈(l.take x.1).map (·.1))∧ckF l 0 l.length=ckF l x.1 (l.length - x.1)) (fun x=>[(25,.int .i64 (x.1:Nat))])
  (fun x=>[.blk [.str nm,.sl c l.length (shC l),.int .i64 g] false,mqB x.2]) (fun x=>l.length - x.1) (0,[]) ⟨Nat.zero_le _,by simp,rfl⟩ rfl ?_
 rintro ⟨i,ks⟩ ⟨q1,q2,q3⟩
 simp only at q1 q2 q3
 dsimp only
 by_cases hi:i<l.length
 rotate_left
 ·have hres:ckF l 0 l.length=(0,0):=by rw [q3,show l.length - i=0 by omega,ckF]
  repeat' (first
 | (conv=>whnf)
   first
   | (refine Br.decF ?_ ?_;(focus first | assumption | omega))
   | refine Get.mk _ rfl ?_
   | refine Leaves.of ?_
   | refine Vw.int ?_
   | refine Vw.tup ?_
   | refine VwL.cons ?_ ?_
   | refine VwL.nil)
  ·exact congrArg Prod.fst hres.symm
  ·exact congrArg Prod.snd hres.symm
 obtain ⟨p,hp⟩:∃ p,l[i]?=some p:=⟨_,List.getElem?_eq_getElem hi⟩
 have hpart:=shC_part hp
 have hE:eF l i=if outB p.1 0 999 || outB p.2 1 200000 then 7 else if 0<p.1∧p.1∈(l.take i).map (·.1) then 5 else 0:=by simp only [eF,hp]
 have htake:(l.take (i+1)).map (·.1)=(l.take i).map (·.1)++[p.1]:=by
  rw [List.take_add_one,hp];simp
 obtain ⟨m,f⟩:=p
 simp only at hpart hE htake
 have h4:=out_ok (n:=m) (lo:=0) (hi:=999)
 have h5:=out_ok (n:=f) (lo:=1) (hi:=200000)
 have err:∀ e:Int,e≠0→eF l i=e→ckF l 0 l.length=((i:Int),e):=fun e h0 he=>by rw [q3,ckF_err hi (by rw [he];exact h0),he]
 cases hb4:outB m 0 999 <;> rw [hb4] at h4
 rotate_left
 ·have hres:=err 7 (by decide) (by rw [hE,hb4];rfl)
  repeat' (first
 | (conv=>whnf)
   first
   | refine Br.t ?_
   | (refine Br.decT ?_ ?_;(focus first | assumption | omega))
   | refine Get.mk _ hpart ?_
   | refine call_fun rfl rfl h4 (.inl rfl) ?_
   | (refine Idx.nat ?_ ?_;(focus omega))
   | refine Get.mk _ rfl ?_
   | refine Leaves.of ?_
   | refine Vw.int ?_
   | refine Vw.tup ?_
   | refine VwL.cons ?_ ?_
   | refine VwL.nil
   | (refine Req.mk ?_ ?_;(focus first | rfl | decide | exact ⟨rfl,rfl⟩ | exact ⟨rfl,by decide⟩ | exact (fun _=>rfl) | exact (fun h=>nomatch h) | (simp;done) | omega | (simp [big];done) | exact le_big (by omega) | exact lt_big (by omega))))
  ·exact congrArg Prod.fst hres.symm
  ·exact congrArg Prod.snd hres.symm
 cases hb5:outB f 1 200000 <;> rw [hb5] at h5
 rotate_left
 ·have hres:=err 7 (by decide) (by rw [hE,hb4,hb5];rfl)
  repeat' (first
 | (conv=>whnf)
   first
   | refine Br.t ?_
   | refine Br.f ?_
   | (refine Br.decT ?_ ?_;(focus first | assumption | omega))
   | refine Get.mk _ hpart ?_
   | refine call_fun rfl rfl h4 (.inl rfl) ?_
   | refine call_fun rfl rfl h5 (.inl rfl) ?_
   | (refine Idx.nat ?_ ?_;(focus omega))
   | refine Get.mk _ rfl ?_
   | refine Leaves.of ?_
   | refine Vw.int ?_
   | refine Vw.tup ?_
   | refine VwL.cons ?_ ?_
   | refine VwL.nil
   | (refine Req.mk ?_ ?_;(focus first | rfl | decide | exact ⟨rfl,rfl⟩ | exact ⟨rfl,by decide⟩ | exact (fun _=>rfl) | exact (fun h=>nomatch h) | (simp;done) | omega | (simp [big];done) | exact le_big (by omega) | exact lt_big (by omega))))
  ·exact congrArg Prod.fst hres.symm
  ·exact congrArg Prod.snd hres.symm
 rw [hb4,hb5,if_neg (by simp)] at hE
 simp only [outB,Bool.or_eq_false_iff,decide_eq_false_iff_not] at hb4 hb5
 by_cases hmk:m∈ks
 ·obtain ⟨j,j1,j2,j3⟩:=mfind_mem (i:=0) hmk
  rw [Nat.zero_add] at j3
  have j4:=tg_true j1
  have j5:=tset_true j1
  by_cases hm0:0<m
  ·have hres:=err 5 (by decide) (by rw [hE,if_pos ⟨hm0,(q2 m).1 hmk⟩])
   repeat' (first
 | (conv=>whnf)
   first
   | refine Br.f ?_
   | (refine Br.decT ?_ ?_;(focus first | assumption | omega))
   | refine Get.mk _ hpart ?_
   | refine call_fun rfl rfl h4 (.inl rfl) ?_
   | refine call_fun rfl rfl h5 (.inl rfl) ?_
   | refine Get.mk _ j3 ?_
   | (refine Idx.nat ?_ ?_;(focus omega))
   | refine Get.mk _ rfl ?_
   | (refine Req.mk ?_ ?_;(focus first | rfl | decide | exact ⟨rfl,rfl⟩ | exact ⟨rfl,by decide⟩ | exact (fun _=>rfl) | exact (fun h=>nomatch h) | (simp;done) | omega | (simp [big];done) | exact le_big (by omega) | exact lt_big (by omega))))
   show fW (tg (List.replicate ks.length (V.bool true)) j) _
   refine fWe j4 ?_
   repeat' (first
 | (conv=>whnf)
   first
   | refine Br.t ?_
   | (refine Br.decT ?_ ?_;(focus first | assumption | omega))
   | refine Get.mk _ rfl ?_
   | refine Leaves.of ?_
   | refine Vw.int ?_
   | refine Vw.tup ?_
   | refine VwL.cons ?_ ?_
   | refine VwL.nil)
   ·exact congrArg Prod.fst hres.symm
   ·exact congrArg Prod.snd hres.symm
  ·have hz:eF l i=0:=by rw [hE,if_neg (fun h=>hm0 h.1)]
   repeat' (first
 | (conv=>whnf)
   first
   | refine Br.f ?_
   | (refine Br.decT ?_ ?_;(focus first | assumption | omega))
   | (refine Br.decF ?_ ?_;(focus first | assumption | omega))
   | (refine Bnd.i64 ?_ ?_ ?_;(focus omega);(focus omega))
   | refine Get.mk _ hpart ?_
   | refine call_fun rfl rfl h4 (.inl rfl) ?_
   | refine call_fun rfl rfl h5 (.inl rfl) ?_
   | refine Get.mk _ j3 ?_
   | refine fVf j5 ?_
   | (refine Idx.nat ?_ ?_;(focus omega))
   | refine Get.mk _ rfl ?_
   | (refine Req.mk ?_ ?_;(focus first | rfl | decide | exact ⟨rfl,rfl⟩ | exact ⟨rfl,by decide⟩ | exact (fun _=>rfl) | exact (fun h=>nomatch h) | (simp;done) | omega | (simp [big];done) | exact le_big (by omega) | exact lt_big (by omega))))
   refine NextP.mk (i+1,ks) ⟨hi,fun x => ?_,by rw [q3,ckF_next hi hz]⟩ (by simp only;omega) (norm_one rfl rfl rfl rfl ?_)
   ·rw [htake,List.mem_append,q2 x]
    constructor
    ·exact .inl
    ·rintro (h | h)
     ·exact h
     ·rw [List.mem_singleton] at h
      rw [h];exact (q2 m).1 hmk
   ·simp only [hbelow,mqB_blo];rfl
 ·have j3:=mfind_not (i:=0) hmk
  have hz:eF l i=0:=by rw [hE,if_neg (fun h=>hmk ((q2 m).2 h.2))]
  have k1:ofInts ks++[V.int .i64 m]=ofInts (ks++[m]):=by simp [ofInts]
  have k2:List.replicate ks.length (V.bool true)++[V.bool true]=List.replicate (ks.length+1) (.bool true):=(List.replicate_succ' ..).symm
  have hin:∀ x,x∈ks++[m] ↔ x∈(l.take (i+1)).map (·.1):=fun x=>by rw [htake,List.mem_append,List.mem_append,q2 x]
  repeat' (first
 | (conv=>whnf)
   first
   | refine Br.f ?_
   | (refine Br.decT ?_ ?_;(focus first | assumption | omega))
   | (refine Br.decF ?_ ?_;(focus first | assumption | omega))
   | refine Br.dec (fun _ => ?_) (fun _ => ?_)
   | (refine Bnd.i64 ?_ ?_ ?_;(focus omega);(focus omega))
   | refine Get.mk _ hpart ?_
   | refine call_fun rfl rfl h4 (.inl rfl) ?_
   | refine call_fun rfl rfl h5 (.inl rfl) ?_
   | refine Get.mk _ j3 ?_
   | refine fVf k1 ?_
   | refine fVf k2 ?_
   | (refine Idx.nat ?_ ?_;(focus omega))
   | refine Get.mk _ rfl ?_
   | (refine Req.mk ?_ ?_;(focus first | rfl | decide | exact ⟨rfl,rfl⟩ | exact ⟨rfl,by decide⟩ | exact (fun _=>rfl) | exact (fun h=>nomatch h) | (simp;done) | omega | (simp [big];done) | exact le_big (by omega) | exact lt_big (by omega))))
  all_goals
   refine NextP.mk (i+1,ks++[m]) ⟨hi,hin,by rw [q3,ckF_next hi hz]⟩ (by simp only;omega) (norm_one rfl rfl (by rw [mqB_snoc];rfl) rfl ?_)
   simp only [hbelow,mqB_blo];rfl
end Go.Dr.T
