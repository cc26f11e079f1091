/- Chapter 08: Voted, walked. -/
import Derived.Test.YthihdpbgmhnloaaGreatDoorG1
namespace Go.Dr.T
def yesN (S:List En) (s:Nat):Nat:=(S.filter fun e=>e.2 && decide (e.1.2=(s:Int))).length
def noN (S:List En) (s:Nat):Bool:=S.any fun e => !e.2 && decide (e.1.2=(s:Int))
def yesC (S:List En):List V:=(List.range 20).map fun s=>.int .i64 (yesN S s:Nat)
def noC (S:List En):List V:=(List.range 20).map fun s=>.bool (noN S s)
def acc (S:List En) (need:Int) (n:Nat):List Int:=((List.range n).filter fun s=>decide ((yesN S s:Int) ≥ need) && !noN S s).map fun s:Nat=>(s:Int)
theorem yesC_at {S:List En} {m:Nat} (h:m<20):cellAt (yesC S) (0+m * 1)=some (.int .i64 (yesN S m:Nat)):=by
 rw [cellAt_eq,Nat.zero_add,Nat.mul_one,yesC,List.getElem?_map,List.getElem?_range h];rfl
theorem noC_at {S:List En} {m:Nat} (h:m<20):cellAt (noC S) (0+m * 1)=some (.bool (noN S m)):=by
 rw [cellAt_eq,Nat.zero_add,Nat.mul_one,noC,List.getElem?_map,List.getElem?_range h];rfl
theorem yesN_snoc (S:List En) (e:En) (s:Nat):yesN (S++[e]) s=yesN S s+if e.2=true∧e.1.2=(s:Int) then 1 else 0:=by
 unfold yesN
 rw [List.filter_append,List.length_append]
 congr 1
 simp only [List.filter_cons,List.filter_nil]
 by_cases h:e.2=true∧e.1.2=(s:Int)
 ·rw [if_pos h,h.1,decide_eq_true h.2];rfl
 ·rw [if_neg h]
  cases h2:e.2 with
  | false=>rfl
  | true=>rw [decide_eq_false fun q=>h ⟨h2,q⟩];rfl
theorem noN_snoc (S:List En) (e:En) (s:Nat):noN (S++[e]) s=(noN S s || (!e.2 && decide (e.1.2=(s:Int)))):=by
 unfold noN
 rw [List.any_append]
 simp
theorem over_oneC {l:List V} {i:Nat} {v:V} (h:i<l.length):over l (0+i * 1) [v]=l.set i v:=by
 rw [Nat.zero_add,Nat.mul_one,over_eq _ _ _ (show i+1≤l.length by omega)]
 simp only [List.length_cons,List.length_nil,Nat.zero_add]
 exact (List.set_eq_take_append_cons_drop.trans (by rw [if_pos h];simp)).symm
theorem yesC_yes {S:List En} {e:En} {m:Nat} (hm:m<20) (h2:e.2=true) (h1:e.1.2=(m:Int)):over (yesC S) (0+m * 1) [.int .i64 ((yesN S m:Nat)+1)]=yesC (S++[e])∧noC S=noC (S++[e]):=by
 constructor
 ·rw [over_oneC (by simpa [yesC] using hm)]
  refine List.ext_getElem? fun i => ?_
  rw [List.getElem?_set]
  unfold yesC
  simp only [List.getElem?_map,List.length_map,List.length_range]
  by_cases hi:i<20
  ·rw [List.getElem?_range hi]
   simp only [Option.map_some,yesN_snoc,h2,h1,true_and]
   by_cases e' : m=i
   ·subst e'; rw [if_pos rfl,if_pos hm,if_pos rfl];rfl
   ·rw [if_neg e', if_neg (by omega)];rfl
  ·rw [List.getElem?_eq_none (l:=List.range 20) (by simpa using Nat.le_of_not_lt hi),if_neg (by omega)];rfl
 ·unfold noC
  refine List.map_congr_left fun s _ => ?_
  rw [noN_snoc,h2];simp
theorem noC_no {S:List En} {e:En} {m:Nat} (hm:m<20) (h2:e.2=false) (h1:e.1.2=(m:Int)):over (noC S) (0+m * 1) [.bool true]=noC (S++[e])∧yesC S=yesC (S++[e]):=by
 constructor
 ·rw [over_oneC (by simpa [noC] using hm)]
  refine List.ext_getElem? fun i => ?_
  rw [List.getElem?_set]
  unfold noC
  simp only [List.getElem?_map,List.length_map,List.length_range]
  by_cases hi:i<20
  ·rw [List.getElem?_range hi]
   simp only [Option.map_some,noN_snoc,h2,h1,Bool.not_false,Bool.true_and]
   by_cases e' : m=i
   ·subst e'; rw [if_pos rfl,if_pos hm];simp
   ·rw [if_neg e', decide_eq_false (by omega),Bool.or_false]
  ·rw [List.getElem?_eq_none (l:=List.range 20) (by simpa using Nat.le_of_not_lt hi),if_neg (by omega)];rfl
 ·unfold yesC
  refine List.map_congr_left fun s _ => ?_
  rw [yesN_snoc,if_neg (fun q=>by rw [h2] at q;exact absurd q.1 (by decide))];rfl
theorem yesN_le (S:List En) (s:Nat):yesN S s≤S.length:=List.length_filter_le ..
def metE (E:List En) (seen:List Nat):List En:=seen.filterMap (E[·]?)
theorem metE_snoc {E:List En} {seen:List Nat} {j:Nat} {e:En} (h:E[j]?=some e):metE E (seen++[j])=metE E seen++[e]:=by unfold metE;rw [List.filterMap_append];simp [h]
theorem metE_all (E:List En):metE E (List.range E.length)=E:=by
 unfold metE
 induction E with
 | nil=>rfl
 | cons e r ih =>
  rw [List.length_cons,List.range_succ_eq_map,List.filterMap_cons]
  simp only [List.getElem?_cons_zero,List.filterMap_map]
  exact congrArg (e :: ·) ih
theorem metE_perm {E:List En} {seen:List Nat} (h1:seen.Nodup) (h2:∀ s∈seen,s<E.length) (h3:∀ s,s<E.length→s∈seen):(metE E seen).Perm E:=by
 have hp:seen.Perm (List.range E.length):=(List.perm_ext_iff_of_nodup h1 List.nodup_range).2 fun a=>by rw [List.mem_range];exact ⟨h2 a,h3 a⟩
 have:=hp.filterMap (E[·]?)
 rwa [show (List.range E.length).filterMap (E[·]?)=E from metE_all E] at this
theorem yesN_perm {S T:List En} (h:S.Perm T) (s:Nat):yesN S s=yesN T s:=(h.filter _).length_eq
theorem noN_perm {S T:List En} (h:S.Perm T) (s:Nat):noN S s=noN T s:=by
 unfold noN
 rw [Bool.eq_iff_iff,List.any_eq_true,List.any_eq_true]
 exact ⟨fun ⟨x,hx,q⟩=>⟨x,h.mem_iff.1 hx,q⟩,fun ⟨x,hx,q⟩=>⟨x,h.mem_iff.2 hx,q⟩⟩
theorem acc_perm {S T:List En} (h:S.Perm T) (need:Int) (n:Nat):acc S need n=acc T need n:=by
 unfold acc
 congr 1
 refine List.filter_congr fun s _ => ?_
 rw [yesN_perm h,noN_perm h]
theorem acc_t {S:List En} {need:Int} {n:Nat} (h1:(yesN S n:Int) ≥ need) (h2:noN S n=false):acc S need (n+1)=acc S need n++[(n:Int)]:=by
 unfold acc
 rw [List.range_succ,List.filter_append,List.map_append]
 simp [h1,h2]
theorem acc_f {S:List En} {need:Int} {n:Nat} (h:¬ ((yesN S n:Int) ≥ need∧noN S n=false)):acc S need (n+1)=acc S need n:=by
 unfold acc
 rw [List.range_succ,List.filter_append,List.map_append]
 have:(decide ((yesN S n:Int) ≥ need) && !noN S n)=false:=by
  rw [Bool.eq_false_iff]
  intro q
  rw [Bool.and_eq_true,decide_eq_true_eq,Bool.not_eq_true'] at q
  exact h q
 simp [this]
theorem acc_len (S:List En) (need:Int) (n:Nat):(acc S need n).length≤n:=by
 unfold acc
 rw [List.length_map]
 have:=List.length_filter_le (fun s=>decide ((yesN S s:Int) ≥ need) && !noN S s) (List.range n)
 rwa [List.length_range] at this
theorem nodup_le:∀ {n:Nat} {l:List Nat},l.Nodup→(∀ x∈l,x<n)→l.length≤n
 | 0,[],_,_=>Nat.le_refl _
 | 0,x :: l,_,h=>absurd (h x (by simp)) (Nat.not_lt_zero _)
 | n+1,l,hd,h=>by
  by_cases hn:n∈l
  ·have h1:=nodup_le (n:=n) (l:=l.erase n) (hd.erase n) (fun x hx=>by
    have:=h x (List.mem_of_mem_erase hx)
    have hne:x≠n:=fun e=>by subst e;exact ((List.Nodup.mem_erase_iff hd).1 hx).1 rfl
    omega)
   rw [List.length_erase_of_mem hn] at h1
   omega
  ·exact Nat.le_succ_of_le (nodup_le hd fun x hx=>by
    have:=h x hx
    have hne:x≠n:=fun e=>hn (e ▸ hx)
    omega)
theorem norm_drop {m:List Bool} {hl:Nat} {st:St} {tm:List V} {h:List B} (h1:masked m st.tm=tm) (h2:st.h.length=hl+2) (h5:st.h.take (hl+1)=h) (h3:blos (hl+1) tm=true) (h4:hbelow (hl+1) h=true) (h6:blos hl tm=false):norm m hl st=⟨tm,h⟩:=by
 unfold norm trunc
 rw [h1,h2,Nat.add_sub_cancel_left]
 unfold strip
 simp only [h5,h3,h4,Bool.and_self,if_true]
 unfold strip
 simp only [Nat.add_zero,h6,Bool.false_and,Bool.false_eq_true,if_false]
theorem lastO_snoc:∀ {l:List Nat} {s:Nat},lastO (l++[s])=some s
 | [],_=>rfl
 | [a],s=>rfl
 | a :: b :: l,s=>by simpa only [List.cons_append,lastO] using lastO_snoc (l:=b :: l) (s:=s)
theorem cur_map {E:List En} {sn:List Nat} {s:Nat} {e:En} (h:E[s]?=some e):mcur (0+0) [.it 0 E.length E.length (sn++[s]),mapB E]=some (.tup [.agg [.str e.1.1,.int .i64 e.1.2],.bool e.2],none):=by
 have hs:=(List.getElem?_eq_some_iff.1 h).1
 have hid:(List.range E.length).idxOf s=s:=by
  have:=List.nodup_range.idxOf_getElem (xs:=List.range E.length) s (by simpa using hs)
  simpa using this
 simp only [mcur,if_true,lastO_snoc,mapB,B.ents,hid,List.length_range,hs,decide_true,Bool.and_self]
 rw [tg_eq (l:=E.map kV) (v:=kV e) (by simp [h]),tg_eq (l:=E.map bV) (v:=bV e) (by simp [h])]
 rfl
theorem yesC_blo (S:List En) (n:Nat):blos n (yesC S)=true:=by
 unfold yesC
 induction List.range 20 with
 | nil=>rfl
 | cons a r ih=>simp only [List.map_cons,blos,V.blo,Bool.true_and];exact ih
theorem noC_blo (S:List En) (n:Nat):blos n (noC S)=true:=by
 unfold noC
 induction List.range 20 with
 | nil=>rfl
 | cons a r ih=>simp only [List.map_cons,blos,V.blo,Bool.true_and];exact ih
theorem yesC_len (S:List En):(yesC S).length=20:=by simp [yesC]
theorem noC_len (S:List En):(noC S).length=20:=by simp [noC]
def lvI (id:Nat):List Int→V
 | []=>.nilsl
 | x :: l=>.ms 1 id (l.length+1) 0 (l.length+1) false
def acB:List Int→List B
 | []=>[]
 | x :: l=>[.blk (ofInts (x :: l)) true]
def VEnds (res:List RV) (A:List Int) (e:Int) (x:X) (s:St):Prop :=
 (x = .nrm∨x = .ret)∧((A=[]∧result s res=some (.tup [.nilsl,.int .i64 e]))∨(A≠[]∧∃ id,result s res=some (.tup [.ms 1 id A.length 0 A.length false,.int .i64 e])∧bget s.h id=some (.blk (ofInts A) true)))
def votE (n:Int) (l:List Vt) (need:Int):Int:=if outB n 0 20=true∨outB need 1 200=true then 7 else if 200<l.length then 3 else vtF n l
def votA (n:Int) (l:List Vt) (need:Int):List Int:=if votE n l need≠0 then [] else acc (lasE l) need n.toNat
end Go.Dr.T
namespace Go.Dr.T
theorem ints_at {A:List Int} {i:Nat} {x:Int} (h:A[i]?=some x):cellAt (ofInts A) (i * 1)=some (.int .i64 x):=by
 rw [cellAt_eq,Nat.mul_one,ofInts,List.getElem?_map,h];rfl
set_option maxRecDepth 100000 in
set_option maxHeartbeats 20000000 in
theorem ints_same {c d:Bool} {A:List Int} (hA:A.length≤1000000):Fun FB md 26 [.sl c A.length (ofInts A),.sl d A.length (ofInts A)] (.bool true):=by
 refine fun_of rfl rfl ?_
 repeat' (first
 | (conv=>whnf)
   first
   | (refine Br.decT ?_ ?_;(focus first | assumption | omega))
   | refine Br.not ?_)
 all_goals try (exfalso;omega;done)
 refine LoopP.by (fun i:Nat=>i≤A.length) (fun i=>[(5,.int .i64 (i:Nat))]) (fun _=>[]) (fun i=>A.length - i) 0 (Nat.zero_le _) rfl ?_
 rintro i hi'
 dsimp only
 by_cases hi:i<A.length
 rotate_left
 ·repeat' (first
 | (conv=>whnf)
   first
   | (refine Br.decF ?_ ?_;(focus first | assumption | omega))
   | refine Get.mk _ rfl ?_
   | refine Leaves.of ?_
   | refine Vw.bool ?_)
  all_goals first | rfl | (exfalso;omega)
 obtain ⟨x,hx⟩:∃ x,A[i]?=some x:=⟨_,List.getElem?_eq_getElem hi⟩
 have h1:=ints_at hx
 have hiw:IntKind.i64.wrap ((i:Int)+1)=((i+1:Nat):Int):=by rw [wrap_i64 (by omega) (by omega)];omega
 repeat' (first
 | (conv=>whnf)
   first
   | refine Bnd.eq hiw ?_
   | (refine Br.decT ?_ ?_;(focus first | assumption | omega))
   | refine Br.not ?_
   | refine Get.mk _ h1 ?_
   | (refine Idx.nat ?_ ?_;(focus omega))
   | (refine Req.mk ?_ ?_;(focus first | rfl | decide | exact ⟨rfl,rfl⟩ | exact ⟨rfl,by decide⟩ | exact (fun _=>rfl) | exact (fun h=>nomatch h) | (simp;done) | omega | (simp [big];done) | exact le_big (by omega) | exact lt_big (by omega))))
 all_goals first | (exfalso;omega;done) | exact NextP.mk (i+1) hi (by omega) rfl
end Go.Dr.T
