/- Top, of chapter 06: sources: plain; the document's source, the program's best, walked. -/
import Derived.Test.YtbnmdlnkhghbpaaGreatDoorG22
import Derived.Test.YtbnmdlnkhghbpaaGreatDoorG11
import Derived.Test.YtbnmdlnkhghbpaaGreatDoorDrE
import Derived.Test.YtbnmdlnkhghbpaaGreatDoorG12
set_option maxRecDepth 100000
set_option maxHeartbeats 20000000
namespace Go.Dr.T6
open Go.Dr.T
structure Src where
 e:Nat
 k:Nat
 f:Int
 g:Int
def wrs (o n:Src):Bool:=decide (o.f<n.f)||(decide (n.f=o.f)&&decide (n.g<o.g))
def srU (o:Option Src) (n:Src):Option Src:=match o with
 | none=>some n
 | some o=>if wrs o n then some n else some o
def Q41 (m:Int) (i:Nat) (x:El) (b:Option Src):Nat→Option Src
 | 0=>b
 | n+1=>match x.l[n]? with
  | none=>Q41 m i x b n
  | some p=>if p.1=m then srU (Q41 m i x b n) ⟨i,n,p.2,x.g⟩ else Q41 m i x b n
def srcAll (m:Int) (l:List El):Nat→Option Src
 | 0=>none
 | i+1=>match l[i]? with
  | none=>srcAll m l i
  | some x=>Q41 m i x (srcAll m l i) x.l.length
def SrOk (o:Option Src):Prop:=∀ s,o=some s→1≤s.f∧s.f≤200000∧s.e<1000000∧s.k<1000000
theorem srU_ok {o:Option Src} {n:Src} (h:SrOk o) (h1:1≤n.f∧n.f≤200000∧n.e<1000000∧n.k<1000000):SrOk (srU o n):=fun s hs=>by
 unfold srU at hs
 split at hs
 ·cases hs;exact h1
 ·split at hs
  ·cases hs;exact h1
  ·cases hs;exact h _ rfl
theorem Qgf {m:Int} {i:Nat} {x:El} {b:Option Src} (hx:x.l.length≤40∧∀ p∈x.l,0≤p.1∧p.1≤999∧1≤p.2∧p.2≤200000) (hi:i<1000000) (hb:SrOk b):∀ n,SrOk (Q41 m i x b n)
 | 0=>hb
 | n+1=>by
  have ih:=Qgf (m:=m) hx hi hb n
  unfold Q41
  split
  ·exact ih
  ·rename_i p hp
   have hq:=hx.2 p (jE hp)
   have hl:=(jB.1 hp).1
   split
   ·exact srU_ok ih ⟨hq.2.2.1,hq.2.2.2,hi,by dsimp only;omega⟩
   ·exact ih
theorem Qc9 {m:Int} {l:List El} (hv:vldE l=0):∀ i,i≤l.length→SrOk (srcAll m l i)
 | 0,_=>fun s h=>by cases h
 | i+1,hi=>by
  have ih:=Qc9 (m:=m) hv i (by omega)
  have h8:=(vld_good hv).1
  unfold srcAll
  split
  ·exact ih
  ·rename_i x hx
   exact Qgf (vld_el hv (jE hx)) (by omega) ih _
theorem Quw {F:Nat→Option Fc} {md:Nat→Nat} {ro f:Nat} {v:V} {args:List V} {h:List B} {K:V→List B→Prop} (hk:CallP F md ro (.fn f []) (v::args) h K):CallP F md ro (.bf f v) args h K:=by
 obtain ⟨w,h',⟨n,hn⟩,hk⟩:=hk
 refine ⟨w,h',⟨n,fun m hm=>?_⟩,hk⟩
 have:=hn m hm
 simp only [Q07] at this ⊢
 simp only [doFn]
 exact this
def srcA (m:Int) (s:Src):V:=.agg [.int .i64 m,.int .i64 (s.e:Nat),.int .i64 (s.k:Nat),.int .i64 s.f,.int .i64 s.g]
theorem Qod {a b:Int} {o n:Src}:Fun FB md 16 [srcA a o,srcA b n] (.bool (wrs o n)):=by
 unfold wrs
 refine Q04 rfl rfl ?_
 by_cases h1:o.f<n.f
 ·rw [decide_eq_true h1]
  repeat' ((conv=>whnf);first|refine zT ?_|refine Get.mk _ rfl ?_|refine Leaves.of ?_|refine Vw.bool ?_|refine zR ?_)
  all_goals first|rfl|(exfalso;omega)|simp [h1]
 ·rw [decide_eq_false h1]
  by_cases h2:n.f=o.f
  ·rw [decide_eq_true h2]
   repeat' ((conv=>whnf);first|refine zT ?_|refine zF ?_|refine Get.mk _ rfl ?_|refine Leaves.of ?_|refine Vw.bool ?_|refine zR ?_)
   all_goals first|rfl|(exfalso;omega)|simp [h1,h2]
  ·rw [decide_eq_false h2]
   repeat' ((conv=>whnf);first|refine zF ?_|refine Get.mk _ rfl ?_|refine Leaves.of ?_|refine Vw.bool ?_|refine zR ?_)
   all_goals first|rfl|(exfalso;omega)|simp [h1,h2]
theorem Qdp {a b m:Int} {is:Bool} {o n:Src}:Fun FB md 15 [.bool is,.bf 16 (srcA a o),srcA b o,srcA m n] (if is && !wrs o n then srcA b o else srcA m n):=by
 have h:=Qod (a:=a) (b:=m) (o:=o) (n:=n)
 generalize wrs o n=w at *
 cases is
 all_goals cases w
 all_goals
  refine Q04 rfl rfl ?_
  repeat' ((conv=>whnf);first|refine Br.t ?_|refine Br.f ?_|refine Quw ?_|refine zC h ?_|refine Get.mk _ rfl ?_|refine Leaves.of ?_|refine Vw.int ?_|refine Vw.agg ?_|refine VwL.cons ?_ ?_|refine VwL.nil|refine zR ?_)
  all_goals first|rfl|(exfalso;omega)
end Go.Dr.T6
namespace Go.Dr.T6
open Go.Dr.T
theorem Q3e {l:List V} (h:(Ty.int .i64).has l):∃ n:Int,l=[.int .i64 n]:=by
 simp only [Ty.has] at h
 obtain ⟨n,rfl,h1,h2⟩:=h
 exact ⟨n,rfl⟩
theorem hasStr {l:List V} (h:Ty.str.has l):∃ s,l=[.str s]:=by
 simpa only [Ty.has] using h
theorem Qsp {x:List V} (h:(Ty.agg [.int .i64,.int .i64]).has x):∃ a b:Int,x=[.int .i64 a,.int .i64 b]:=by
 simp only [Ty.has,Ty.hasAll] at h
 obtain ⟨a,b,rfl,⟨n,rfl,_⟩,c,d,rfl,⟨m,rfl,_⟩,rfl⟩:=h
 exact ⟨n,m,rfl⟩
theorem Q7z:∀ {xs:List (List V)},(∀ x∈xs,x.length=2∧(Ty.agg [.int .i64,.int .i64]).has x)→∃ l:List (Int × Int),xs.flatten=shC l∧xs.length=l.length
 | [],_=>⟨[],rfl,rfl⟩
 | x::xs,h=>by
  obtain ⟨l,h1,h2⟩:=Q7z (xs:=xs) fun y hy=>h y (by simp [hy])
  obtain ⟨_,hx⟩:=h x (by simp)
  obtain ⟨a,b,rfl⟩:=Qsp hx
  exact ⟨(a,b)::l,by simp only [List.flatten_cons,h1];rfl,by simp [h2]⟩
abbrev TyP:Ty:=.slice 2 (.agg [.int .i64,.int .i64])
theorem Qlb {v:List V} (h:TyP.has v):∃ l:List (Int × Int),v=[.sl false l.length (shC l)]:=by
 rw [TyP,Ty.has] at h
 obtain ⟨xs,rfl,hx⟩:=h
 obtain ⟨l,h1,h2⟩:=Q7z (xs:=xs) hx
 exact ⟨l,by rw [h1,h2]⟩
abbrev TyEl:Ty:=.agg [.str,TyP,.int .i64]
theorem el_all {l:List V} (h:Ty.hasAll [.str,TyP,.int .i64] l):∃ x:El,l=x.v:=by
 simp only [Ty.hasAll] at h
 obtain ⟨a,b,rfl,ha,c,d,rfl,hc,e,f,rfl,he,rfl⟩:=h
 obtain ⟨s,rfl⟩:=hasStr ha
 obtain ⟨l,rfl⟩:=Qlb hc
 obtain ⟨n,rfl⟩:=Q3e he
 exact ⟨⟨s,false,l,n⟩,rfl⟩
theorem Qd5:∀ {xs:List (List V)},(∀ x∈xs,x.length=3∧TyEl.has x)→∃ l:List El,xs.flatten=elC l∧xs.length=l.length
 | [],_=>⟨[],rfl,rfl⟩
 | x::xs,h=>by
  obtain ⟨l,h1,h2⟩:=Qd5 (xs:=xs) fun y hy=>h y (by simp [hy])
  obtain ⟨_,hx⟩:=h x (by simp)
  obtain ⟨y,rfl⟩:=el_all (by simpa only [Ty.has] using hx)
  exact ⟨y::l,by simp only [List.flatten_cons,h1];rfl,by simp [h2]⟩
abbrev TyEls:Ty:=.slice 3 TyEl
theorem els_val {v:V} (h:TyEls.val v):∃ l:List El,v=elsV false l:=by
 rw [TyEls] at h
 simp only [Ty.val] at h
 rw [Ty.has] at h
 obtain ⟨xs,e,hx⟩:=h
 simp only [List.cons.injEq,and_true] at e
 subst e
 obtain ⟨l,h1,h2⟩:=Qd5 (xs:=xs) hx
 exact ⟨l,by rw [h1,h2]⟩
end Go.Dr.T6
namespace Go.Dr.T6
open Go.Dr.T
end Go.Dr.T6
namespace Go.Dr.T6
open Go.Dr.T
end Go.Dr.T6
namespace Go.Dr.T6
open Go.Dr.T
def rndP (l:List El):Option (List Int):=Q3x (fun k=>wayP (pAll l) k k k) mks
end Go.Dr.T6
namespace Go.Dr.T6
open Go.Dr.T
def verS (sr:Int→Option Src) (st:List T3 × Int) (m:Int):List T3 × Int:=match sr m with
 | none=>st
 | some o=>(st.1++[(m,((o.e:Nat):Int),((o.k:Nat):Int))],st.2+o.f)
def verF (sr:Int→Option Src) (s:List Int):List T3 × Int:=s.foldl (verS sr) ([],0)
theorem Qc5 {sr:Int→Option Src} {s:List Int} {i:Nat} {m:Int} (h:s[i]?=some m):verF sr (s.take (i+1))=verS sr (verF sr (s.take i)) m:=by
 have:s.take (i+1)=s.take i++[m]:=by rw [List.take_add_one,h];rfl
 rw [this,verF,List.foldl_append]
 rfl
theorem Qk1 {sr:Int→Option Src} (hs:∀ m,SrOk (sr m)) {s:List Int}:∀ i,i≤s.length→(verF sr (s.take i)).1.length≤i∧0≤(verF sr (s.take i)).2∧(verF sr (s.take i)).2≤200000*(i:Int)
 | 0,_=>by
  rw [List.take_zero]
  exact ⟨Nat.le_refl _,Int.le_refl _,by show (0:Int)≤200000*((0:Nat):Int);decide⟩
 | i+1,hi=>by
  obtain ⟨h1,h2,h3⟩:=Qk1 hs (s:=s) i (by omega)
  rw [Qc5 (jC (show i<s.length by omega))]
  unfold verS
  split
  ·refine ⟨by omega,h2,by omega⟩
  ·rename_i o ho
   have:=hs _ o ho
   refine ⟨by rw [jD,List.length_singleton];omega,by dsimp only;omega,by dsimp only;omega⟩
def verV (l:List El) (s:List Int):V :=
 if vldE l≠0 then .tup [.sl true 0 [],.int .i64 0,.int .i64 (vldE l)] else
 if scrE s≠0 then .tup [.sl true 0 [],.int .i64 0,.int .i64 (scrE s)] else
 match rndP l with
 | some _=>.tup [.sl true 0 [],.int .i64 0,.int .i64 161]
 | none=>.tup [gapV (verF (fun m=>srcAll m l l.length) s).1,.int .i64 (verF (fun m=>srcAll m l l.length) s).2,.int .i64 0]
end Go.Dr.T6
namespace Go.Dr.T6
open Go.Dr.T
def SrIn (l:List El) (m:Int) (o:Option Src):Prop:=∀ s,o=some s→∃ x p,l[s.e]?=some x∧x.l[s.k]?=some p∧p.1=m∧p.2=s.f
theorem srU_in {l:List El} {m:Int} {o:Option Src} {n:Src} (h:SrIn l m o) (h1:SrIn l m (some n)):SrIn l m (srU o n):=fun s hs=>by
 unfold srU at hs
 split at hs
 ·cases hs;exact h1 _ rfl
 ·split at hs
  ·cases hs;exact h1 _ rfl
  ·cases hs;exact h _ rfl
theorem Qgg {l:List El} {m:Int} {i:Nat} {x:El} {b:Option Src} (hx:l[i]?=some x) (hb:SrIn l m b):∀ n,SrIn l m (Q41 m i x b n)
 | 0=>hb
 | n+1=>by
  have ih:=Qgg hx hb n
  unfold Q41
  split
  ·exact ih
  ·rename_i p hp
   split
   ·rename_i hm
    exact srU_in ih fun s hs=>by cases hs;exact ⟨x,p,hx,hp,hm,rfl⟩
   ·exact ih
theorem Qca {l:List El} {m:Int}:∀ i,SrIn l m (srcAll m l i)
 | 0=>fun s h=>by cases h
 | i+1=>by
  have ih:=Qca (l:=l) (m:=m) i
  unfold srcAll
  split
  ·exact ih
  ·rename_i x hx
   exact Qgg hx ih _
theorem pk_in {l:List El} {s:List Int}:∀ t∈(verF (fun m=>srcAll m l l.length) s).1,∃ (e k:Nat) (x:El) (p:Int × Int),t=(t.1,((e:Nat):Int),((k:Nat):Int))∧l[e]?=some x∧x.l[k]?=some p∧p.1=t.1:=by
 have key:∀ (s:List Int) (st:List T3 × Int),(∀ t∈st.1,∃ (e k:Nat) (x:El) (p:Int × Int),t=(t.1,((e:Nat):Int),((k:Nat):Int))∧l[e]?=some x∧x.l[k]?=some p∧p.1=t.1)→∀ t∈(s.foldl (verS fun m=>srcAll m l l.length) st).1,∃ (e k:Nat) (x:El) (p:Int × Int),t=(t.1,((e:Nat):Int),((k:Nat):Int))∧l[e]?=some x∧x.l[k]?=some p∧p.1=t.1:=by
  intro s
  induction s with
  | nil=>exact fun st h=>h
  | cons m s ih =>
   intro st h
   rw [List.foldl_cons]
   refine ih _ fun t ht=>?_
   unfold verS at ht
   split at ht
   ·exact h t ht
   ·rename_i o ho
    rcases jK.1 ht with ht|ht
    ·exact h t ht
    ·simp only [List.mem_cons,List.not_mem_nil,or_false] at ht
     subst ht
     obtain ⟨x,p,h1,h2,h3,_⟩:=Qca (l:=l) (m:=m) l.length o ho
     exact ⟨o.e,o.k,x,p,rfl,h1,h2,h3⟩
 exact key s ([],0) fun t ht=>by cases ht
end Go.Dr.T6
