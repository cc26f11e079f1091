/- Chapter 08: votes, plain; the map of the last votes. -/
import Derived.Test.YthihdpbgmhnloaaGreatDoorG1
import Derived.Test.YthihdpbgmhnloaaGreatDoorDrG
import Derived.Test.YthihdpbgmhnloaaGreatDoorDrF
namespace Go.Dr.T
theorem tg_eq:∀ {l:List V} {j:Nat} {v:V},l[j]?=some v→tg l j=v
 | _ :: _,0,_,h=>by simpa [tg] using h
 | _ :: l,j+1,_,h=>tg_eq (l:=l) (by simpa using h)
theorem fWe {v v' : V} {K:V→Prop} (e:v=v') (h:K v'):fW v K:=fW.mk (e ▸ h)
theorem norm_one {m:List Bool} {hl:Nat} {st:St} {tm:List V} {h:List B} (h1:masked m st.tm=tm) (h2:st.h.length=hl+1) (h5:st.h.take hl=h) (h3:blos hl tm=true) (h4:hbelow hl h=true):norm m hl st=⟨tm,h⟩:=by
 unfold norm trunc
 rw [h1,h2,Nat.add_sub_cancel_left]
 unfold strip
 simp only [Nat.add_zero,h5,h3,h4,Bool.and_self,if_true,strip]
theorem tset_set:∀ {l:List V} {i:Nat} {v:V},tset l i v=l.set i v
 | [],i,v=>by cases i <;> rfl
 | _ :: l,0,v=>rfl
 | x :: l,i+1,v=>by simp only [tset,List.set_cons_succ,tset_set]
abbrev outB (n lo hi:Int):Bool:=decide (n<lo) || decide (n > hi)
theorem out_ok {n lo hi:Int}:Fun FB md 50 [.int .i64 n,.int .i64 lo,.int .i64 hi] (.bool (outB n lo hi)):=by
 refine fun_of rfl rfl ?_
 by_cases h1:n<lo <;> by_cases h2:n > hi
 all_goals
  repeat' (first
 | (conv=>whnf)
   first
   | (refine Br.decT ?_ ?_;(focus first | assumption | omega))
   | (refine Br.decF ?_ ?_;(focus first | assumption | omega))
   | refine Get.mk _ rfl ?_
   | refine Leaves.of ?_
   | refine Vw.bool ?_)
  all_goals simp [outB,h1,h2]
theorem in_ok {n lo hi:Int}:Fun FB md 58 [.int .i64 n,.int .i64 lo,.int .i64 hi] (.bool (!outB n lo hi)):=by
 refine fun_of rfl rfl ?_
 by_cases h1:n ≥ lo <;> by_cases h2:n≤hi
 all_goals
  repeat' (first
 | (conv=>whnf)
   first
   | (refine Br.decT ?_ ?_;(focus first | assumption | omega))
   | (refine Br.decF ?_ ?_;(focus first | assumption | omega))
   | refine Get.mk _ rfl ?_
   | refine Leaves.of ?_
   | refine Vw.bool ?_)
  all_goals first | (simp [outB,h1,h2];done) | (simp [outB,h1,h2];omega)
structure Vt where
 who:List UInt8
 step:Int
 yes:Bool
def vtC:List Vt→List V
 | []=>[]
 | v :: l=>.str v.who :: .int .i64 v.step :: .bool v.yes :: vtC l
theorem vtC_length:∀ l,(vtC l).length=l.length * 3
 | []=>rfl
 | _ :: l=>by simp only [vtC,List.length_cons,vtC_length l];omega
theorem part3 {l:List V} {n:Nat} {a b c:V} {r:List V} (h:l.drop n=a :: b :: c :: r):part l n 3=some [a,b,c]:=by
 unfold part
 simp only [take'_eq,drop'_eq,h]
 rfl
theorem vtC_drop:∀ {l:List Vt} {i:Nat} {v:Vt},l[i]?=some v→(vtC l).drop (i * 3) = .str v.who :: .int .i64 v.step :: .bool v.yes :: vtC (l.drop (i+1))
 | w :: l,0,v,h=>by simp only [List.getElem?_cons_zero,Option.some.injEq] at h;subst h;rfl
 | w :: l,i+1,v,h=>by
  rw [show (i+1) * 3=i * 3+1+1+1 by omega]
  simp only [vtC,List.drop_succ_cons]
  exact vtC_drop (l:=l) (by simpa using h)
theorem vtC_part {l:List Vt} {i:Nat} {v:Vt} (h:l[i]?=some v):part (vtC l) (i * 3) 3=some [.str v.who,.int .i64 v.step,.bool v.yes]:=part3 (vtC_drop h)
def vtE (n:Int) (v:Vt):Int:=if nmOk v.who=false then 6 else if outB v.step 0 (n - 1)=true then 4 else 0
def vtF (n:Int):List Vt→Int
 | []=>0
 | v :: l=>if vtE n v≠0 then vtE n v else vtF n l
theorem vtF_drop {n:Int}:∀ {l:List Vt} {i:Nat},(∀ j v,j<i→l[j]?=some v→vtE n v=0)→vtF n l=vtF n (l.drop i)
 | l,0,_=>rfl
 | [],i+1,_=>rfl
 | w :: l,i+1,h=>by
  rw [vtF,if_neg (fun e=>e (h 0 w (Nat.succ_pos _) rfl)),List.drop_succ_cons]
  exact vtF_drop fun j v hj hv=>h (j+1) v (by omega) (by simpa using hv)
abbrev En:=(List UInt8 × Int) × Bool
def updE (k:List UInt8 × Int) (b:Bool):List En→List En
 | []=>[(k,b)]
 | e :: r=>if k=e.1 then (k,b) :: r else e :: updE k b r
def lasE (l:List Vt):List En:=l.foldl (fun E v=>updE (v.who,v.step) v.yes E) []
theorem lasE_snoc (l:List Vt) (v:Vt):lasE (l++[v])=updE (v.who,v.step) v.yes (lasE l):=by unfold lasE;rw [List.foldl_append];rfl
def kV (e:En):V:=.agg [.str e.1.1,.int .i64 e.1.2]
def bV (e:En):V:=.bool e.2
def mapB (E:List En):B:=.mq (List.range E.length) E.length (E.map kV) (E.map bV)
theorem updE_not {k:List UInt8 × Int} {b:Bool}:∀ {E:List En},(∀ e∈E,e.1≠k)→updE k b E=E++[(k,b)]
 | [],_=>rfl
 | e :: r,h=>by
  rw [updE,if_neg (fun q=>h e (by simp) q.symm),updE_not fun x hx=>h x (by simp [hx])]
  rfl
theorem updE_at {k:List UInt8 × Int} {b:Bool}:∀ {E:List En} {j:Nat} {e:En},E[j]?=some e→e.1=k→(∀ i x,i<j→E[i]?=some x→x.1≠k)→updE k b E=E.set j (k,b)
 | x :: r,0,e,h,hk,_=>by
  simp only [List.getElem?_cons_zero,Option.some.injEq] at h
  subst h
  rw [updE,if_pos hk.symm]
  rfl
 | x :: r,j+1,e,h,hk,hn=>by
  rw [updE,if_neg (fun q=>hn 0 x (Nat.succ_pos _) rfl q.symm),List.set_cons_succ,updE_at (E:=r) (j:=j) (by simpa using h) hk fun i y hi hy=>hn (i+1) y (by omega) (by simpa using hy)]
theorem kd_two:kdks 11=[2,0]:=by decide
theorem eq1_key (a b:List UInt8) (s t:Int):eq1 11 (.agg [.str a,.int .i64 s]) (.agg [.str b,.int .i64 t])=some (decide ((a,s)=(b,t))):=by
 show eqc0 (kdks (8+3)) _ _=_
 rw [show kdks (8+3)=[2,0] from kd_two]
 simp only [eqc0,eq0,if_true,Bool.and_true,Option.some.injEq,Prod.mk.injEq]
 rw [Bool.eq_iff_iff]
 simp
theorem mfind_key {w:List UInt8} {s:Int}:∀ {E:List En} {i:Nat},(∀ e∈E,e.1≠(w,s))→mfind 11 (.agg [.str w,.int .i64 s]) (E.map kV) i=some none
 | [],i,_=>by
  have hk:keyOk 11 (.agg [.str w,.int .i64 s])=true:=by
   show kinds (kdks (8+3)) _=true
   rw [show kdks (8+3)=[2,0] from kd_two]
   rfl
  simp only [List.map_nil,mfind,hk,if_true]
 | e :: r,i,h=>by
  have he:eq1 11 (.agg [.str w,.int .i64 s]) (kV e)=some false:=by
   unfold kV
   rw [eq1_key,decide_eq_false (fun q=>h e (by simp) q.symm)]
  simp only [List.map_cons,mfind,he]
  exact mfind_key fun x hx=>h x (by simp [hx])
theorem mfind_keyAt {w:List UInt8} {s:Int}:∀ {E:List En} {i:Nat},¬ (∀ e∈E,e.1≠(w,s))→∃ j e,E[j]?=some e∧e.1=(w,s)∧(∀ i x,i<j→E[i]?=some x→x.1≠(w,s))∧mfind 11 (.agg [.str w,.int .i64 s]) (E.map kV) i=some (some (i+j))
 | [],i,h=>absurd (fun e he=>nomatch he) h
 | e :: r,i,h=>by
  by_cases hk:e.1=(w,s)
  ·have he:eq1 11 (.agg [.str w,.int .i64 s]) (kV e)=some true:=by
    unfold kV
    rw [eq1_key,decide_eq_true hk.symm]
   exact ⟨0,e,rfl,hk,fun i x hi=>absurd hi (Nat.not_lt_zero _),by simp only [List.map_cons,mfind,he,Nat.add_zero]⟩
  ·have he:eq1 11 (.agg [.str w,.int .i64 s]) (kV e)=some false:=by
    unfold kV
    rw [eq1_key,decide_eq_false (fun q=>hk q.symm)]
   obtain ⟨j,x,h1,h2,h3,h4⟩:=mfind_keyAt (E:=r) (i:=i+1) fun hn=>h fun x hx=>by
    rcases List.mem_cons.1 hx with rfl | hx
    ·exact hk
    ·exact hn x hx
   refine ⟨j+1,x,by simpa using h1,h2,fun a y ha hy => ?_,?_⟩
   ·cases a with
    | zero=>simp only [List.getElem?_cons_zero,Option.some.injEq] at hy;subst hy;exact hk
    | succ a=>exact h3 a y (by omega) (by simpa using hy)
   ·simp only [List.map_cons,mfind,he]
    rw [h4]
    congr 2
    omega
theorem mapB_not {w:List UInt8} {s:Int} {b:Bool} {E:List En} (h:∀ e∈E,e.1≠(w,s)):B.mq (List.range E.length++[E.length]) (E.length+1) (E.map kV++[.agg [.str w,.int .i64 s]]) (E.map bV++[.bool b])=mapB (updE (w,s) b E):=by
 rw [updE_not h]
 unfold mapB
 rw [List.length_append,List.map_append,List.map_append]
 show _=B.mq (List.range (E.length+1)) (E.length+1) _ _
 rw [List.range_succ]
 rfl
theorem mapB_at {w:List UInt8} {s:Int} {b:Bool} {E:List En} {j:Nat} {e:En} (h:E[j]?=some e) (hk:e.1=(w,s)) (hn:∀ i x,i<j→E[i]?=some x→x.1≠(w,s)):B.mq (List.range E.length) E.length (E.map kV) (tset (E.map bV) j (.bool b))=mapB (updE (w,s) b E):=by
 rw [updE_at h hk hn]
 unfold mapB
 rw [List.length_set,tset_set,List.map_set,List.map_set]
 congr 1
 refine (List.ext_getElem? fun i => ?_)
 rw [List.getElem?_set]
 split
 ·rename_i e'
  subst e'
  split
  ·rw [List.getElem?_map,h]
   simp only [Option.map_some,kV]
   rw [hk]
  ·rename_i hl
   rw [List.getElem?_eq_none (by simpa using hl)]
 ·rfl
theorem mapB_blo (E:List En) (n:Nat):(mapB E).blo n=true:=by
 have h1:blos n (E.map kV)=true:=by
  induction E with
  | nil=>rfl
  | cons e r ih=>simp only [List.map_cons,blos,kV,V.blo,Bool.true_and,Bool.and_true];exact ih
 have h2:blos n (E.map bV)=true:=by
  clear h1
  induction E with
  | nil=>rfl
  | cons e r ih=>simp only [List.map_cons,blos,bV,V.blo,Bool.true_and];exact ih
 simp only [mapB,B.blo,h1,h2,Bool.and_self]
theorem updE_mem {k:List UInt8 × Int} {b:Bool}:∀ {E:List En} {e:En},e∈updE k b E→e=(k,b)∨e∈E
 | [],e,h=>by simp only [updE,List.mem_singleton] at h;exact .inl h
 | x :: r,e,h=>by
  unfold updE at h
  split at h
  ·rcases List.mem_cons.1 h with rfl | h
   ·exact .inl rfl
   ·exact .inr (by simp [h])
  ·rcases List.mem_cons.1 h with rfl | h
   ·exact .inr (by simp)
   ·rcases updE_mem h with rfl | h
    ·exact .inl rfl
    ·exact .inr (by simp [h])
theorem updE_len {k:List UInt8 × Int} {b:Bool}:∀ {E:List En},(updE k b E).length≤E.length+1
 | []=>Nat.le_refl _
 | x :: r=>by
  unfold updE
  split
  ·simp
  ·simp only [List.length_cons];have:=updE_len (k:=k) (b:=b) (E:=r);omega
end Go.Dr.T
namespace Go.Dr.T
def yesN (S:List En) (s:Nat):Nat:=(S.filter fun e=>e.2 && decide (e.1.2=(s:Int))).length
def noN (S:List En) (s:Nat):Bool:=S.any fun e => !e.2 && decide (e.1.2=(s:Int))
def yesC (S:List En):List V:=(List.range 20).map fun s=>.int .i64 (yesN S s:Nat)
def noC (S:List En):List V:=(List.range 20).map fun s=>.bool (noN S s)
def acc (S:List En) (need:Int) (n:Nat):List Int:=((List.range n).filter fun s=>decide ((yesN S s:Int) ≥ need) && !noN S s).map fun s:Nat=>(s:Int)
theorem yesC_at {S:List En} {m:Nat} (h:m<20):cellAt (yesC S) (0+m * 1)=some (.int .i64 (yesN S m:Nat)):=by
 rw [cellAt_eq,Nat.zero_add,Nat.mul_one,yesC,List.getElem?_map,List.getElem?_range h];rfl
theorem noC_at {S:List En} {m:Nat} (h:m<20):cellAt (noC S) (0+m * 1)=some (.bool (noN S m)):=by
 rw [cellAt_eq,Nat.zero_add,Nat.mul_one,noC,List.getElem?_map,List.getElem?_range h];rfl
theorem yesN_snoc (S:List En) (e:En) (s:Nat):yesN (S++[e]) s=yesN S s+if e.2=true∧e.1.2=(s:Int) then 1 else 0:=by
 unfold yesN
 rw [List.filter_append,List.length_append]
 congr 1
 simp only [List.filter_cons,List.filter_nil]
 by_cases h:e.2=true∧e.1.2=(s:Int)
 ·rw [if_pos h,h.1,decide_eq_true h.2];rfl
 ·rw [if_neg h]
  cases h2:e.2 with
  | false=>rfl
  | true=>rw [decide_eq_false fun q=>h ⟨h2,q⟩];rfl
theorem noN_snoc (S:List En) (e:En) (s:Nat):noN (S++[e]) s=(noN S s || (!e.2 && decide (e.1.2=(s:Int)))):=by
 unfold noN
 rw [List.any_append]
 simp
theorem over_oneC {l:List V} {i:Nat} {v:V} (h:i<l.length):over l (0+i * 1) [v]=l.set i v:=by
 rw [Nat.zero_add,Nat.mul_one,over_eq _ _ _ (show i+1≤l.length by omega)]
 simp only [List.length_cons,List.length_nil,Nat.zero_add]
 exact (List.set_eq_take_append_cons_drop.trans (by rw [if_pos h];simp)).symm
theorem yesC_yes {S:List En} {e:En} {m:Nat} (hm:m<20) (h2:e.2=true) (h1:e.1.2=(m:Int)):over (yesC S) (0+m * 1) [.int .i64 ((yesN S m:Nat)+1)]=yesC (S++[e])∧noC S=noC (S++[e]):=by
 constructor
 ·rw [over_oneC (by simpa [yesC] using hm)]
  refine List.ext_getElem? fun i => ?_
  rw [List.getElem?_set]
  unfold yesC
  simp only [List.getElem?_map,List.length_map,List.length_range]
  by_cases hi:i<20
  ·rw [List.getElem?_range hi]
   simp only [Option.map_some,yesN_snoc,h2,h1,true_and]
   by_cases e' : m=i
   ·subst e'; rw [if_pos rfl,if_pos hm,if_pos rfl];rfl
   ·rw [if_neg e', if_neg (by omega)];rfl
  ·rw [List.getElem?_eq_none (l:=List.range 20) (by simpa using Nat.le_of_not_lt hi),if_neg (by omega)];rfl
 ·unfold noC
  refine List.map_congr_left fun s _ => ?_
  rw [noN_snoc,h2];simp
theorem noC_no {S:List En} {e:En} {m:Nat} (hm:m<20) (h2:e.2=false) (h1:e.1.2=(m:Int)):over (noC S) (0+m * 1) [.bool true]=noC (S++[e])∧yesC S=yesC (S++[e]):=by
 constructor
 ·rw [over_oneC (by simpa [noC] using hm)]
  refine List.ext_getElem? fun i => ?_
  rw [List.getElem?_set]
  unfold noC
  simp only [List.getElem?_map,List.length_map,List.length_range]
  by_cases hi:i<20
  ·rw [List.getElem?_range hi]
   simp only [Option.map_some,noN_snoc,h2,h1,Bool.not_false,Bool.true_and]
   by_cases e' : m=i
   ·subst e'; rw [if_pos rfl,if_pos hm];simp
   ·rw [if_neg e', decide_eq_false (by omega),Bool.or_false]
  ·rw [List.getElem?_eq_none (l:=List.range 20) (by simpa using Nat.le_of_not_lt hi),if_neg (by omega)];rfl
 ·unfold yesC
  refine List.map_congr_left fun s _ => ?_
  rw [yesN_snoc,if_neg (fun q=>by rw [h2] at q;exact absurd q.1 (by decide))];rfl
theorem yesN_le (S:List En) (s:Nat):yesN S s≤S.length:=List.length_filter_le ..
def metE (E:List En) (seen:List Nat):List En:=seen.filterMap (E[·]?)
theorem metE_snoc {E:List En} {seen:List Nat} {j:Nat} {e:En} (h:E[j]?=some e):metE E (seen++[j])=metE E seen++[e]:=by unfold metE;rw [List.filterMap_append];simp [h]
theorem metE_all (E:List En):metE E (List.range E.length)=E:=by
 unfold metE
 induction E with
 | nil=>rfl
 | cons e r ih =>
  rw [List.length_cons,List.range_succ_eq_map,List.filterMap_cons]
  simp only [List.getElem?_cons_zero,List.filterMap_map]
  exact congrArg (e :: ·) ih
theorem metE_perm {E:List En} {seen:List Nat} (h1:seen.Nodup) (h2:∀ s∈seen,s<E.length) (h3:∀ s,s<E.length→s∈seen):(metE E seen).Perm E:=by
 have hp:seen.Perm (List.range E.length):=(List.perm_ext_iff_of_nodup h1 List.nodup_range).2 fun a=>by rw [List.mem_range];exact ⟨h2 a,h3 a⟩
 have:=hp.filterMap (E[·]?)
 rwa [show (List.range E.length).filterMap (E[·]?)=E from metE_all E] at this
theorem yesN_perm {S T:List En} (h:S.Perm T) (s:Nat):yesN S s=yesN T s:=(h.filter _).length_eq
theorem noN_perm {S T:List En} (h:S.Perm T) (s:Nat):noN S s=noN T s:=by
 unfold noN
 rw [Bool.eq_iff_iff,List.any_eq_true,List.any_eq_true]
 exact ⟨fun ⟨x,hx,q⟩=>⟨x,h.mem_iff.1 hx,q⟩,fun ⟨x,hx,q⟩=>⟨x,h.mem_iff.2 hx,q⟩⟩
theorem acc_perm {S T:List En} (h:S.Perm T) (need:Int) (n:Nat):acc S need n=acc T need n:=by
 unfold acc
 congr 1
 refine List.filter_congr fun s _ => ?_
 rw [yesN_perm h,noN_perm h]
theorem acc_t {S:List En} {need:Int} {n:Nat} (h1:(yesN S n:Int) ≥ need) (h2:noN S n=false):acc S need (n+1)=acc S need n++[(n:Int)]:=by
 unfold acc
 rw [List.range_succ,List.filter_append,List.map_append]
 simp [h1,h2]
theorem acc_f {S:List En} {need:Int} {n:Nat} (h:¬ ((yesN S n:Int) ≥ need∧noN S n=false)):acc S need (n+1)=acc S need n:=by
 unfold acc
 rw [List.range_succ,List.filter_append,List.map_append]
 have:(decide ((yesN S n:Int) ≥ need) && !noN S n)=false:=by
  rw [Bool.eq_false_iff]
  intro q
  rw [Bool.and_eq_true,decide_eq_true_eq,Bool.not_eq_true'] at q
  exact h q
 simp [this]
theorem acc_len (S:List En) (need:Int) (n:Nat):(acc S need n).length≤n:=by
 unfold acc
 rw [List.length_map]
 have:=List.length_filter_le (fun s=>decide ((yesN S s:Int) ≥ need) && !noN S s) (List.range n)
 rwa [List.length_range] at this
theorem nodup_le:∀ {n:Nat} {l:List Nat},l.Nodup→(∀ x∈l,x<n)→l.length≤n
 | 0,[],_,_=>Nat.le_refl _
 | 0,x :: l,_,h=>absurd (h x (by simp)) (Nat.not_lt_zero _)
 | n+1,l,hd,h=>by
  by_cases hn:n∈l
  ·have h1:=nodup_le (n:=n) (l:=l.erase n) (hd.erase n) (fun x hx=>by
    have:=h x (List.mem_of_mem_erase hx)
    have hne:x≠n:=fun e=>by subst e;exact ((List.Nodup.mem_erase_iff hd).1 hx).1 rfl
    omega)
   rw [List.length_erase_of_mem hn] at h1
   omega
  ·exact Nat.le_succ_of_le (nodup_le hd fun x hx=>by
    have:=h x hx
    have hne:x≠n:=fun e=>hn (e ▸ hx)
    omega)
theorem norm_drop {m:List Bool} {hl:Nat} {st:St} {tm:List V} {h:List B} (h1:masked m st.tm=tm) (h2:st.h.length=hl+2) (h5:st.h.take (hl+1)=h) (h3:blos (hl+1) tm=true) (h4:hbelow (hl+1) h=true) (h6:blos hl tm=false):norm m hl st=⟨tm,h⟩:=by
 unfold norm trunc
 rw [h1,h2,Nat.add_sub_cancel_left]
 unfold strip
 simp only [h5,h3,h4,Bool.and_self,if_true]
 unfold strip
 simp only [Nat.add_zero,h6,Bool.false_and,Bool.false_eq_true,if_false]
theorem lastO_snoc:∀ {l:List Nat} {s:Nat},lastO (l++[s])=some s
 | [],_=>rfl
 | [a],s=>rfl
 | a :: b :: l,s=>by simpa only [List.cons_append,lastO] using lastO_snoc (l:=b :: l) (s:=s)
theorem cur_map {E:List En} {sn:List Nat} {s:Nat} {e:En} (h:E[s]?=some e):mcur (0+0) [.it 0 E.length E.length (sn++[s]),mapB E]=some (.tup [.agg [.str e.1.1,.int .i64 e.1.2],.bool e.2],none):=by
 have hs:=(List.getElem?_eq_some_iff.1 h).1
 have hid:(List.range E.length).idxOf s=s:=by
  have:=List.nodup_range.idxOf_getElem (xs:=List.range E.length) s (by simpa using hs)
  simpa using this
 simp only [mcur,if_true,lastO_snoc,mapB,B.ents,hid,List.length_range,hs,decide_true,Bool.and_self]
 rw [tg_eq (l:=E.map kV) (v:=kV e) (by simp [h]),tg_eq (l:=E.map bV) (v:=bV e) (by simp [h])]
 rfl
theorem yesC_blo (S:List En) (n:Nat):blos n (yesC S)=true:=by
 unfold yesC
 induction List.range 20 with
 | nil=>rfl
 | cons a r ih=>simp only [List.map_cons,blos,V.blo,Bool.true_and];exact ih
theorem noC_blo (S:List En) (n:Nat):blos n (noC S)=true:=by
 unfold noC
 induction List.range 20 with
 | nil=>rfl
 | cons a r ih=>simp only [List.map_cons,blos,V.blo,Bool.true_and];exact ih
theorem yesC_len (S:List En):(yesC S).length=20:=by simp [yesC]
theorem noC_len (S:List En):(noC S).length=20:=by simp [noC]
def lvI (id:Nat):List Int→V
 | []=>.nilsl
 | x :: l=>.ms 1 id (l.length+1) 0 (l.length+1) false
def acB:List Int→List B
 | []=>[]
 | x :: l=>[.blk (ofInts (x :: l)) true]
def VEnds (res:List RV) (A:List Int) (e:Int) (x:X) (s:St):Prop :=
 (x = .nrm∨x = .ret)∧((A=[]∧result s res=some (.tup [.nilsl,.int .i64 e]))∨(A≠[]∧∃ id,result s res=some (.tup [.ms 1 id A.length 0 A.length false,.int .i64 e])∧bget s.h id=some (.blk (ofInts A) true)))
def votE (n:Int) (l:List Vt) (need:Int):Int:=if outB n 0 20=true∨outB need 1 200=true then 7 else if 200<l.length then 3 else vtF n l
def votA (n:Int) (l:List Vt) (need:Int):List Int:=if votE n l need≠0 then [] else acc (lasE l) need n.toNat
end Go.Dr.T
namespace Go.Dr.T
theorem ints_at {A:List Int} {i:Nat} {x:Int} (h:A[i]?=some x):cellAt (ofInts A) (i * 1)=some (.int .i64 x):=by
 rw [cellAt_eq,Nat.mul_one,ofInts,List.getElem?_map,h];rfl
theorem ofI_len (A:List Int):(ofInts A).length=A.length:=by simp [ofInts]
set_option maxRecDepth 100000 in
set_option maxHeartbeats 20000000 in
theorem ints_same {c d:Bool} {A:List Int} (hA:A.length≤1000000):Fun FB md 26 [.sl c A.length (ofInts A),.sl d A.length (ofInts A)] (.bool true):=by
 refine fun_of rfl rfl ?_
 repeat' (first
 | (conv=>whnf)
   first
   | (refine Br.decT ?_ ?_;(focus first | assumption | omega))
   | refine Br.not ?_)
 all_goals try (exfalso;omega;done)
 refine LoopP.by (fun i:Nat=>i≤A.length) (fun i=>[(5,.int .i64 (i:Nat))]) (fun _=>[]) (fun i=>A.length - i) 0 (Nat.zero_le _) rfl ?_
 rintro i hi'
 dsimp only
 by_cases hi:i<A.length
 rotate_left
 ·repeat' (first
 | (conv=>whnf)
   first
   | (refine Br.decF ?_ ?_;(focus first | assumption | omega))
   | refine Get.mk _ rfl ?_
   | refine Leaves.of ?_
   | refine Vw.bool ?_)
  all_goals first | rfl | (exfalso;omega)
 obtain ⟨x,hx⟩:∃ x,A[i]?=some x:=⟨_,List.getElem?_eq_getElem hi⟩
 have h1:=ints_at hx
 have hiw:IntKind.i64.wrap ((i:Int)+1)=((i+1:Nat):Int):=by rw [wrap_i64 (by omega) (by omega)];omega
 repeat' (first
 | (conv=>whnf)
   first
   | refine Bnd.eq hiw ?_
   | (refine Br.decT ?_ ?_;(focus first | assumption | omega))
   | refine Br.not ?_
   | refine Get.mk _ h1 ?_
   | (refine Idx.nat ?_ ?_;(focus omega))
   | (refine Req.mk ?_ ?_;(focus first | rfl | decide | exact ⟨rfl,rfl⟩ | exact ⟨rfl,by decide⟩ | exact (fun _=>rfl) | exact (fun h=>nomatch h) | (simp;done) | omega | (simp [big];done) | exact le_big (by omega) | exact lt_big (by omega))))
 all_goals first | (exfalso;omega;done) | exact NextP.mk (i+1) hi (by omega) rfl
end Go.Dr.T
