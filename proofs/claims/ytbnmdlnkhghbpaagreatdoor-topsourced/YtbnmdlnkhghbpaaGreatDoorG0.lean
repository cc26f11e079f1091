/- Top, of chapter 08: how functions are called; the table without the function that ranges over a map. -/
import Derived.Test.YtbnmdlnkhghbpaaGreatDoorR19Lit
import Derived.Test.YtbnmdlnkhghbpaaGreatDoorDrF
import Derived.Test.YtbnmdlnkhghbpaaGreatDoorDrG
import Derived.Lib.ItoaNum
import Derived.Lib.Join
import Derived.KernelRfl
set_option maxRecDepth 100000
set_option maxHeartbeats 20000000
namespace Go.Dr.T
def md:Nat→Nat
 | 7=>7
 | 48=>2
 | 28|38|41|34|61|62|14|49=>1
 | 45|39|40|42|43|73|74|75|68|93|96|121|122|123|124|125|126=>3
 | _=>0
def decG:List V→Option V
 | [.int .i64 n]=>if -9223372036854775808≤n∧n≤9223372036854775807 then some (.str (Lib.itoa n)) else none
 | _=>none
def strsOf:List V→Option (List (List UInt8))
 | []=>some []
 | .str s::l=>(strsOf l).map (s :: ·)
 | _::_=>none
def joiG:List V→Option V
 | [.sl _ n cs,.str sep]=>match strsOf cs with
  | some l=>if l.length=n∧n≤140737488355328∧(Lib.join l sep).length≤140737488355328 then some (.str (Lib.join l sep)) else none
  | none=>none
 | _=>none
def FB:Nat→Option Fc
 | 21|12|53=>none
 | 49=>some (knFc 1 49 srtG)
 | 58=>some (knFc 2 58 (Q13 joiG))
 | 86=>some (knFc 2 86 (Q13 trmG))
 | 88=>some (knFc 1 88 (Q13 decG))
 | 134=>some (knFc 2 134 (Q13 cntG))
 | 135=>some (knFc 2 135 (Q13 idxG))
 | n=>F n
end Go.Dr.T
namespace Go.Dr.T
def spl (c:UInt8):List UInt8→List (List UInt8)
 | []=>[[]]
 | b::l=>if b=c then []::spl c l else match spl c l with
  | []=>[[b]]
  | x::r=>(b::x)::r
theorem Qgj (c:UInt8):∀ l,spl c l≠[]
 | []=>by simp [spl]
 | b::l=>by
  unfold spl
  split
  ·simp
  ·split<;>simp
theorem Qgi {c:UInt8}:∀ {l:List UInt8},l.count c=0→spl c l=[l]
 | [],_=>rfl
 | b::l,h=>by
  have hb:b≠c:=by rintro rfl;simp at h
  rw [List.count_cons_of_ne (by simpa using hb)] at h
  unfold spl
  rw [if_neg hb,Qgi h]
theorem Q3y {c:UInt8}:∀ {l:List UInt8},l.count c≠0→∃ k:Nat,Lib.indexByte l c=(k:Int)∧k<l.length∧spl c l=l.take k::spl c (l.drop (k+1))∧(l.drop (k+1)).count c+1=l.count c
 | [],h=>absurd rfl h
 | b::l,h=>by
  by_cases hb:b=c
  ·subst hb
   have e1:Lib.indexByte (b::l) b=0:=by simp [Lib.indexByte]
   have e2:spl b (b::l)=[]::spl b l:=by simp [spl]
   have e3:l.count b+1=(b::l).count b:=List.count_cons_self.symm
   exact ⟨0,e1,Nat.succ_pos _,e2,e3⟩
  ·rw [List.count_cons_of_ne (by simpa using hb)] at h ⊢
   obtain ⟨k,h1,h2,h3,h4⟩:=Q3y h
   refine ⟨k+1,?_,by simpa using h2,?_,by simpa using h4⟩
   ·have hn:((k:Int) == -1)=false:=by simp
    simp [Lib.indexByte,hb,h1,hn]
   ·have e:spl c (b::l)=(b::l.take k)::spl c (l.drop (k+1)):=by rw [spl,if_neg hb,h3]
    rw [e];rfl
theorem Q9n (c:UInt8):∀ l:List UInt8,(spl c l).length=l.count c+1
 | []=>rfl
 | b::l=>by
  have ih:=Q9n c l
  unfold spl
  by_cases hb:b=c
  ·subst hb;simp [ih]
  ·rw [if_neg hb,List.count_cons_of_ne (by simpa using hb)]
   split
   ·rename_i h;exact absurd h (Qgj c l)
   ·rename_i x r h;rw [h] at ih;simpa using ih
theorem Qqh {s:List UInt8} {c:UInt8}:Fun FB md 134 [.str s,.str [c]] (.int .i64 (s.count c:Nat)):=Qcz rfl rfl rfl rfl
theorem Qps {s:List UInt8} {c:UInt8}:Fun FB md 135 [.str s,.str [c]] (.int .i64 (Lib.indexByte s c)):=Qcz rfl rfl rfl rfl
abbrev strs (l:List (List UInt8)):List V:=l.map .str
abbrev sStr (l:List (List UInt8)):V:=.sl true l.length (strs l)
theorem Qci {x:List UInt8}:∀ {L:List (List UInt8)} {i:Nat},i<L.length→over (strs L) i [.str x]=strs (L.set i x)
 | y::L,0,_=>by
  show V.str x::over (strs L) 0 []=_
  rw [show over (strs L) 0 []=strs L by cases L<;>rfl];rfl
 | y::L,i+1,h=>by
  have:=Qci (x:=x) (L:=L) (i:=i) (by simpa using h)
  simp only [strs,List.map_cons,over,List.set_cons_succ] at this ⊢
  rw [this]
theorem putS {L L':List (List UInt8)} {i:Nat} {y:List UInt8} (h:i<L.length) (e:L.set i y=L'):over (strs L) (0+i*1) [.str y]=strs L':=by
 rw [Nat.zero_add,Nat.mul_one,Qci h,e]
theorem fVf {l l':List V} {K:List V→Prop} (e:l=l') (h:K l'):fV l K:=fV.mk (e▸h)
theorem Qp4 (n:Nat):reps n [.str []]=strs (List.replicate n []):=by
 induction n with
 | zero=>rfl
 | succ n ih=>simp only [reps,ih];rfl
theorem Qkp {α:Type} {p:List α} {m:Nat} {x y:α}:(p++List.replicate (m+1) x).set p.length y=p++[y]++List.replicate m x:=by
 rw [List.set_append]
 simp [List.replicate_succ]
theorem Q9k:∀ {L:List (List UInt8)} {n:Nat},Q5a n (strs L)=strs (L.take n)
 | [],0=>rfl
 | [],n+1=>rfl
 | x::L,0=>rfl
 | x::L,n+1=>by
  have:=Q9k (L:=L) (n:=n)
  simp only [strs,List.map_cons,Q5a,List.take_succ_cons] at this ⊢
  rw [this]
theorem Ql9 {L:List (List UInt8)} {n:Nat} (h:n≤L.length):part (strs L) 0 (n*1)=some (strs (L.take n)):=by
 unfold part
 rw [Nat.mul_one]
 have e:Q6j 0 (strs L)=strs L:=by cases L<;>rfl
 rw [e,Q9k]
 simp [Nat.min_eq_left h]
theorem Qg0 {h:List B} {d:Nat}:∀ L:List (List UInt8),VwL h (d+1) (strs L) (strs L)
 | []=>VwL.nil
 | _::L=>VwL.cons (Vw.str rfl) (Qg0 L)
theorem Qsi {h:List B} {d id g off len n:Nat} {clip dat:Bool} {L M:List (List UInt8)} (h1:bget h id=some (.blk (strs L) dat)) (h2:g=L.length) (h3:off=0) (h4:len=n) (h5:clip=true) (h6:n≤L.length) (h7:L.take n=M):Vw h (d+1+1) (.ms 1 id g off len clip) (.sl true n (strs M)):=by
 subst h2 h3 h4 h5 h7
 exact Vw.ms h1 (by simp) (Ql9 h6) (Qg0 _)
theorem Qt0 {c:UInt8} {p:List (List UInt8)} {s r:List UInt8} (h1:spl c s=p++spl c r) (h2:r.count c=0):spl c s=p++[r]:=by rw [h1,Qgi h2]
theorem Qey {s:List UInt8} {c:UInt8} (hs:s.length≤1000):Fun FB md 109 [.str s,.str [c],.int .i64 0,.int .i64 (-1)] (sStr (spl c s)):=by
 have hc:s.count c≤s.length:=List.count_le_length
 have hmin:min ((s.count c:Int)+1) ((s.length:Int)+1)=((s.count c+1:Nat):Int):=by omega
 refine Q04 rfl rfl ?_
 repeat' ((conv=>whnf);first|refine Br.t ?_|refine Br.f ?_|refine zB ?_|refine zC Qqh ?_|refine Bnd.eq hmin ?_|refine zN ?_|refine Idx.nat (Qrn (by omega)) ?_|refine Get.mk _ rfl ?_|refine zR ?_)
 rw [Qp4]
 refine LoopP.by (fun x:Nat × List (List UInt8) × List UInt8=>x.2.1.length=x.1∧spl c s=x.2.1++spl c x.2.2∧x.1+x.2.2.count c=s.count c∧x.2.2.length≤s.length)
  (fun x=>[(0,.str x.2.2),(10,.int .i64 (x.1:Nat))]) (fun x=>[.blk (strs (x.2.1++List.replicate (s.count c-x.1+1) [])) false]) (fun x=>s.count c-x.1) (0,[],s) ⟨rfl,rfl,by simp,Nat.le_refl _⟩ rfl ?_
 rintro ⟨i,p,r⟩ ⟨h1,h2,h3,h4⟩
 simp only at h1 h2 h3 h4
 dsimp only
 have hlen:(strs (p++List.replicate (s.count c-i+1) [])).length=s.count c+1:=by simp;omega
 by_cases hl:i=s.count c
 ·have hr:=Qt0 h2 (show r.count c=0 by omega)
  have hst:(p++List.replicate (s.count c-i+1) []).set i r=p++[r]:=by
   rw [show s.count c-i=0 by omega,← h1,Qkp];simp
  have hib:i<(p++List.replicate (s.count c-i+1) ([]:List UInt8)).length:=by simp;omega
  repeat' ((conv=>whnf);first|refine zF ?_|refine zB ?_|refine fVf (putS hib hst) ?_|refine zN ?_|refine zI ?_|refine Get.mk _ rfl ?_|refine Leaves.of ?_|refine zR ?_)
  refine Qsi rfl (by simp;omega) (by simp) ?_ (by simp;omega) ?_ ?_
  ·rw [hr];simp;omega
  ·simp [hr]
  ·rw [hr,List.take_of_length_le (by simp)]
 ·obtain ⟨k,k1,k2,k3,k4⟩:=Q3y (l:=r) (c:=c) (by omega)
  have hix:=Qps (s:=r) (c:=c)
  rw [k1] at hix
  have hib:i<(p++List.replicate (s.count c-i+1) ([]:List UInt8)).length:=by simp;omega
  have hst:(p++List.replicate (s.count c-i+1) []).set i (List.take (((k:Int)+0).toNat-0) (List.drop 0 r))=(p++[r.take k])++List.replicate (s.count c-(i+1)+1) []:=by
   rw [show s.count c-i+1=(s.count c-(i+1)+1)+1 by omega,← h1,Qkp];simp
  have hk:(k:Int)+(([c].length:Nat):Int)=((k+1:Nat):Int):=rfl
  repeat' ((conv=>whnf);first|refine Bnd.eq ((wrap_i64 (by omega) (by omega)).trans hk) ?_|refine Br.f ?_|refine zT ?_|refine zB ?_|refine zC hix ?_|refine fVf (putS hib hst) ?_|refine zN ?_|refine zI ?_|refine Get.mk _ rfl ?_|refine zR ?_)
  have hd:List.take (r.length-(k+1)) (List.drop (k+1) r)=r.drop (k+1):=List.take_of_length_le (by simp)
  rw [hd]
  refine NextP.mk (i+1,p++[r.take k],r.drop (k+1)) ⟨by simp [h1],by rw [h2,k3];simp,by simp only;omega,by simp;omega⟩ (by simp only;omega) rfl
theorem Qow {s:List UInt8} {c:UInt8} (hs:s.length≤1000):Fun FB md 84 [.str s,.str [c]] (sStr (spl c s)):=by
 have hg:=Qey (c:=c) hs
 refine Q04 rfl rfl ?_
 repeat' ((conv=>whnf);first|refine zC hg ?_|refine Get.mk _ rfl ?_|refine Leaves.of ?_|refine Vw.sl)
 all_goals first|rfl|omega
def alnum:List UInt8:=[97,98,99,100,101,102,103,104,105,106,107,108,109,110,111,112,113,114,115,116,117,118,119,120,121,122,48,49,50,51,52,53,54,55,56,57]
def badP (p:List UInt8):Bool:=p==[]||p.any fun b => !alnum.contains b
theorem Q5v {α:Type} {f:α→Bool}:∀ {l:List α},l.dropWhile f=[]↔∀ x∈l,f x=true
 | []=>by simp
 | x::l=>by
  rw [List.dropWhile_cons]
  by_cases h:f x=true
  ·rw [if_pos h,Q5v];simp [h]
  ·rw [if_neg h];simp [h]
theorem Q5l {α:Type} {f:α→Bool} {x:α}:∀ {l:List α},x∈l.takeWhile f→f x=true
 | [],h=>by simp at h
 | y::l,h=>by
  rw [List.takeWhile_cons] at h
  split at h
  ·rename_i hy
   rcases List.mem_cons.1 h with rfl|h
   ·exact hy
   ·exact Q5l h
  ·simp at h
theorem Qk8 {cs:List UInt8}:∀ p:List UInt8,(Lib.trimS p cs==[]) = !(p.any fun b => !cs.contains b):=by
 intro p
 have h:Lib.trimS p cs=[]↔∀ b∈p,cs.contains b=true:=by
  unfold Lib.trimS Lib.trimLeftS Lib.trimRightS
  rw [Q5v]
  constructor
  ·intro h b hb
   by_cases hb2:b∈((p.reverse.dropWhile (cs.contains ·)).reverse)
   ·exact h b hb2
   ·have h1:b∈p.reverse:=List.mem_reverse.2 hb
    rw [← List.takeWhile_append_dropWhile (p:=(cs.contains ·)) (l:=p.reverse)] at h1
    rcases jK.1 h1 with h1|h1
    ·exact Q5l (f:=(cs.contains ·)) h1
    ·exact absurd (List.mem_reverse.2 h1) hb2
  ·intro h b hb
   exact h b (List.mem_reverse.1 ((List.dropWhile_sublist _).subset (List.mem_reverse.1 hb)))
 rw [Bool.eq_iff_iff]
 simp only [beq_iff_eq,Bool.not_eq_true',List.any_eq_false,h]
 exact forall_congr' fun b=>forall_congr' fun _=>by simp
theorem Qsr {p:List UInt8} (h:p.length≤1000):Fun FB md 86 [.str p,.str alnum] (.str (Lib.trimS p alnum)):=by
 refine Qcz rfl rfl ?_ rfl
 simp only [trmG]
 rw [if_pos ⟨by omega,by decide,by decide⟩]
theorem bad_ok {p:List UInt8} (h:p.length≤1000):Fun FB md 85 [.str p] (.bool (badP p)):=by
 have ht:=Qsr h
 have hn:=Qk8 (cs:=alnum) p
 cases p with
 | nil =>
  refine Q04 rfl rfl ?_
  repeat' ((conv=>whnf);first|refine Br.t ?_|refine Get.mk _ rfl ?_|refine Leaves.of ?_|refine Vw.bool ?_)
  all_goals rfl
 | cons b l =>
  have hb:badP (b::l) = !(Lib.trimS (b::l) alnum==[]):=by rw [hn];simp [badP]
  refine Q04 rfl rfl ?_
  repeat' ((conv=>whnf);first|refine Br.f ?_|refine zC ht ?_|refine Get.mk _ rfl ?_|refine Leaves.of ?_|refine Vw.bool ?_)
  all_goals exact hb.symm
def idxF (L:List (List UInt8)):Int:=match L.findIdx? badP with
 | some i=>i
 | none => -1
theorem Qmf {L:List (List UInt8)} {i:Nat} (h:i<L.length) (hb:badP L[i]=true) (hn:∀ j (hj:j<i),badP (L[j]'(by omega))=false):idxF L=i:=by
 have:L.findIdx? badP=some i:=by
  rw [List.findIdx?_eq_some_iff_getElem]
  exact ⟨h,hb,fun j hj=>by simpa using hn j hj⟩
 simp [idxF,this]
theorem Qmg {L:List (List UInt8)} (hn:∀ j (hj:j<L.length),badP L[j]=false):idxF L = -1:=by
 have:L.findIdx? badP=none:=by
  rw [List.findIdx?_eq_none_iff]
  intro x hx
  obtain ⟨j,hj,rfl⟩:=List.getElem_of_mem hx
  exact hn j hj
 simp [idxF,this]
theorem Qpt (L:List (List UInt8)):decide (idxF L≥0)=L.any badP:=by
 unfold idxF
 cases h:L.findIdx? badP with
 | some i =>
  have:=List.findIdx?_eq_some_iff_getElem.1 h
  obtain ⟨h1,h2,_⟩:=this
  have e:L.any badP=true:=List.any_eq_true.2 ⟨_,List.getElem_mem h1,h2⟩
  rw [e];simp
 | none =>
  have e:L.any badP=false:=by
   rw [List.any_eq_false]
   intro x hx
   have:=List.findIdx?_eq_none_iff.1 h x hx
   simp [this]
  rw [e];rfl
theorem Qdf:∀ {L:List (List UInt8)} {i:Nat} (h:i<L.length),Q0h (strs L) (i*1)=some (.str L[i])
 | x::L,0,_=>rfl
 | x::L,i+1,h=>by
  have:=Qdf (L:=L) (i:=i) (by simpa using h)
  rw [Nat.mul_one] at this ⊢
  simpa only [strs,List.map_cons,Q0h,List.getElem_cons_succ] using this
theorem Qu4 {L:List (List UInt8)} {c:Bool} (hL:L.length≤1000) (hp:∀ p∈L,p.length≤1000):Fun FB md 108 [.sl c L.length (strs L),.fn 85 []] (.int .i64 (idxF L)):=by
 refine Q04 rfl rfl ?_
 skip
 refine LoopP.by (fun i:Nat=>i≤L.length∧∀ j (hj:j<L.length),j<i→badP L[j]=false) (fun i=>[(8,.int .i64 (i:Nat))]) (fun _=>[]) (fun i=>L.length-i) 0 ⟨Nat.zero_le _,fun j _ hj=>absurd hj (Nat.not_lt_zero _)⟩ rfl ?_
 rintro i ⟨h1,h2⟩
 dsimp only
 by_cases hi:i<L.length
 ·have hc:=Qdf hi
  have hb:=bad_ok (hp _ (List.getElem_mem hi))
  cases hbb:badP L[i]<;>rw [hbb] at hb
  ·repeat' ((conv=>whnf);first|refine Br.f ?_|refine zT ?_|refine zB ?_|refine Get.mk _ hc ?_|refine zC hb ?_|refine zN ?_|refine zR ?_)
   refine NextP.mk (i+1) ⟨hi,fun j hj hji=>?_⟩ (by omega) rfl
   rcases Nat.lt_succ_iff_lt_or_eq.1 hji with h|rfl
   ·exact h2 j hj h
   ·exact hbb
  ·have hx:=Qmf hi hbb fun j hj=>h2 j (by omega) hj
   repeat' ((conv=>whnf);first|refine Br.t ?_|refine zT ?_|refine Get.mk _ hc ?_|refine zC hb ?_|refine zN ?_|refine Get.mk _ rfl ?_|refine Leaves.of ?_|refine Vw.int ?_|refine zR ?_)
   exact hx.symm
 ·have hx:=Qmg fun j hj=>h2 j hj (by omega)
  repeat' ((conv=>whnf);first|refine zF ?_|refine Get.mk _ rfl ?_|refine Leaves.of ?_|refine Vw.int ?_)
  exact hx.symm
theorem Qo6 {L:List (List UInt8)} {c:Bool} (hL:L.length≤1000) (hp:∀ p∈L,p.length≤1000):Fun FB md 83 [.sl c L.length (strs L),.fn 85 []] (.bool (L.any badP)):=by
 have h:=Qu4 (c:=c) hL hp
 have e:=Qpt L
 refine Q04 rfl rfl ?_
 repeat' ((conv=>whnf);first|refine zC h ?_|refine Get.mk _ rfl ?_|refine Leaves.of ?_|refine Vw.bool ?_)
 all_goals exact e
theorem Qan {c:UInt8}:∀ {l p:List UInt8},p∈spl c l→p.length≤l.length
 | [],p,h=>by
  simp only [spl,jJ] at h
  subst h;simp
 | b::l,p,h=>by
  unfold spl at h
  split at h
  ·rcases List.mem_cons.1 h with rfl|h
   ·simp
   ·have:=Qan h;simp;omega
  ·split at h
   ·simp only [jJ] at h;subst h;simp
   ·rename_i x r e
    rcases List.mem_cons.1 h with rfl|h
    ·have:=Qan (l:=l) (p:=x) (by rw [e];simp);simp;omega
    ·have:=Qan (l:=l) (p:=p) (by rw [e];simp [h]);simp;omega
def chk:Bool→List UInt8→Bool
 | pd,[] => !pd
 | pd,b::l=>if b=45 then !pd&&chk true l else alnum.contains b&&chk false l
theorem Qfh:∀ (pd:Bool) (l:List UInt8),chk pd l=match spl 45 l with
  | []=>false
  | x::r=>(!(pd&&x==[]))&&x.all (fun b=>alnum.contains b) && !(r.any badP)
 | pd,[]=>by cases pd<;>rfl
 | pd,b::l=>by
  unfold chk spl
  by_cases hb:b=45
  ·rw [if_pos hb,if_pos hb,Qfh true l]
   cases h:spl 45 l with
   | nil=>exact absurd h (Qgj _ _)
   | cons x r =>
    cases pd<;>simp [badP]
    cases x<;>simp [List.all_eq_not_any_not]
  ·rw [if_neg hb,if_neg hb,Qfh false l]
   cases h:spl 45 l with
   | nil=>exact absurd h (Qgj _ _)
   | cons x r=>simp [Bool.and_assoc]
theorem Qut {l:List UInt8}:chk true l = !((spl 45 l).any badP):=by
 rw [Qfh]
 cases h:spl 45 l with
 | nil=>exact absurd h (Qgj _ _)
 | cons x r =>
  cases x<;>simp [badP,List.all_eq_not_any_not]
theorem Qlc {n lo hi:Int}:Fun FB md 82 [.int .i64 n,.int .i64 lo,.int .i64 hi] (.bool (decide (n<lo)||decide (n>hi))):=by
 refine Q04 rfl rfl ?_
 by_cases h1:n<lo<;>by_cases h2:n>hi
 all_goals
  repeat' ((conv=>whnf);first|refine zT ?_|refine zF ?_|refine Get.mk _ rfl ?_|refine Leaves.of ?_|refine Vw.bool ?_)
  all_goals simp [h1,h2]
def Qme (b:UInt8):Bool:=decide ((b.toNat:Int)≥97)&&decide ((b.toNat:Int)≤122)
theorem Qmd (b:UInt8):(decide ((b.toNat:Int)<97)||decide ((b.toNat:Int)>122)) = !Qme b:=by
 unfold Qme
 by_cases h1:(b.toNat:Int)≥97<;>by_cases h2:(b.toNat:Int)≤122<;>simp [h1,h2]<;>omega
def nmOk:List UInt8→Bool
 | []=>false
 | b::l=>decide ((b::l).length≤24)&&Qme b&&chk true (b::l)
theorem Qlm {s:List UInt8}:Fun FB md 55 [.str s] (.bool (nmOk s)):=by
 have h1:=Qlc (n:=(s.length:Int)) (lo:=1) (hi:=24)
 cases s with
 | nil =>
  refine Q04 rfl rfl ?_
  repeat' ((conv=>whnf);first|refine Br.t ?_|refine zC h1 ?_|refine Get.mk _ rfl ?_|refine Leaves.of ?_|refine Vw.bool ?_)
  all_goals rfl
 | cons b l =>
  by_cases hl:(b::l).length≤24
  ·rw [show (decide (((b::l).length:Int)<1)||decide (((b::l).length:Int)>24))=false by simp;simp at hl;omega] at h1
   have h2:=Qlc (n:=(b.toNat:Int)) (lo:=97) (hi:=122)
   rw [Qmd] at h2
   have hg:(b::l)[0]?=some b:=rfl
   have h0:0≤(b::l).length:=Nat.zero_le _
   have hw:IntKind.i64.wrap (b.toNat:Int)=b.toNat:=wrap_i64 (by omega) (by have:=b.toNat_lt;omega)
   have hs:=Qow (s:=b::l) (c:=45) (by omega)
   have hb:=Qo6 (c:=true) (L:=spl 45 (b::l)) (by rw [Q9n];have:=List.count_le_length (a:=(45:UInt8)) (l:=b::l);omega) (fun p hp=>by have:=Qan hp;omega)
   have e:nmOk (b::l)=(Qme b&&chk true (b::l)):=by simp only [nmOk,decide_eq_true hl,Bool.true_and]
   rw [e,Qut]
   generalize (b::l)=S at *
   cases hlet:Qme b<;>rw [hlet] at h2
   ·refine Q04 rfl rfl ?_
    repeat' ((conv=>whnf);first|refine Br.t ?_|refine Br.f ?_|refine zC h1 ?_|refine zC h2 ?_|refine Get.mk _ hg ?_|refine Bnd.eq hw ?_|refine zI ?_|refine Get.mk _ rfl ?_|refine Leaves.of ?_|refine Vw.bool ?_)
    all_goals rfl
   ·refine Q04 rfl rfl ?_
    repeat' ((conv=>whnf);first|refine Br.f ?_|refine zC h1 ?_|refine zC h2 ?_|refine Get.mk _ hg ?_|refine Bnd.eq hw ?_|refine zC hs ?_|refine zC hb ?_|refine zI ?_|refine Get.mk _ rfl ?_|refine Leaves.of ?_|refine Vw.bool ?_)
    all_goals exact (Bool.true_and _).symm
  ·rw [show (decide (((b::l).length:Int)<1)||decide (((b::l).length:Int)>24))=true by simp;simp at hl;omega] at h1
   have e:nmOk (b::l)=false:=by simp only [nmOk,decide_eq_false hl,Bool.false_and]
   rw [e]
   refine Q04 rfl rfl ?_
   repeat' ((conv=>whnf);first|refine Br.t ?_|refine zC h1 ?_|refine Get.mk _ rfl ?_|refine Leaves.of ?_|refine Vw.bool ?_)
   all_goals rfl
end Go.Dr.T
namespace Go.Dr.T
end Go.Dr.T
