/- Chapter 06: Round; the document's marks that are there. -/
import Derived.Test.YtfhphjloaelgoaaGreatDoorG14
import Derived.Test.YtfhphjloaelgoaaGreatDoorG13
namespace Go.Dr.T
def rdV:Option (List Int)→V
 | none=>.sl true 0 []
 | some l=>.sl false l.length (ofInts l)
def rndP (l:List El):Option (List Int):=roundP (fun k=>wayP (pAll l) k k k) mks
def rndV (l:List El):V:=if vldE l≠0 then .tup [.sl true 0 [],.int .i64 (vldE l)] else .tup [rdV (rndP l),.int .i64 0]
set_option maxRecDepth 100000 in
set_option maxHeartbeats 20000000 in
theorem alnRound_ok {c:Bool} {l:List El}:Fun FB1 md 36 [elsV c l] (rndV l):=by
 have hg:=gather_fun (c:=c) (l:=l) gatherV_view
 unfold gatherV at hg
 unfold rndV
 by_cases hv:vldE l=0
 ·rw [if_neg (fun h=>h hv)] at hg ⊢
  have w:=wg_all hv
  have hl:=w.len
  have hrn:=w.round
  have hne:rndP l≠some []:=round_ne (fun k=>w.ne) _ _ (by simp)
  unfold rndP at hne ⊢
  rw [← hrn] at hne ⊢
  have hrc:∀ {h:List B} {ro:Nat} {K:V→List B→Prop},K (bestV (roundP (fun k=>wayP (pAll l) k k k) (isort (keysOf (pAll l))))) h→CallP FB1 md ro (.fn 66 []) [gatV (pAll l)] h K:=fun hk=>round_call (w:=fun k=>wayP (pAll l) k k k) (by omega) (fun k _=>w.funs) (fun k=>w.ne) hk
  generalize roundP (fun k=>wayP (pAll l) k k k) (isort (keysOf (pAll l)))=r at *
  generalize pAll l=D at *
  cases r with
  | none =>
   refine fun_of rfl rfl ?_
   repeat' (first
 | (conv=>whnf)
   first
   | refine Br.f ?_
   | refine call_fun rfl rfl hg (.inl rfl) ?_
   | refine hrc ?_
   | refine Get.mk _ rfl ?_
   | refine Leaves.of ?_
   | refine Vw.int ?_
   | refine Vw.nil
   | refine Vw.tup ?_
   | refine VwL.cons ?_ ?_
   | refine VwL.nil)
   all_goals first | rfl | (exfalso;omega;done)
  | some x =>
   obtain ⟨y,r,rfl⟩:∃ y r,x=y :: r:=by
    cases x with
    | nil=>exact absurd rfl hne
    | cons y r=>exact ⟨y,r,rfl⟩
   refine fun_of rfl rfl ?_
   repeat' (first
 | (conv=>whnf)
   first
   | refine Br.f ?_
   | refine call_fun rfl rfl hg (.inl rfl) ?_
   | refine hrc ?_
   | refine Get.mk _ rfl ?_
   | refine Leaves.of ?_
   | refine Vw.int ?_
   | refine Vw.sl
   | refine Vw.tup ?_
   | refine VwL.cons ?_ ?_
   | refine VwL.nil)
   all_goals first | rfl | (exfalso;omega;done)
 ·rw [if_pos hv] at hg ⊢
  generalize vldE l=e at *
  refine fun_of rfl rfl ?_
  repeat' (first
 | (conv=>whnf)
   first
   | (refine Br.decF ?_ ?_;(focus first | assumption | omega))
   | refine Br.not ?_
   | refine call_fun rfl rfl hg (.inl rfl) ?_
   | refine Get.mk _ rfl ?_
   | refine Leaves.of ?_
   | refine Vw.int ?_
   | refine Vw.nil
   | refine Vw.tup ?_
   | refine VwL.cons ?_ ?_
   | refine VwL.nil)
  all_goals first | rfl | (exfalso;omega;done)
def boC (n:Nat) (f:Nat→Bool):List V:=(List.range n).map fun i=>.bool (f i)
theorem boC_len {n:Nat} {f:Nat→Bool}:(boC n f).length=n:=by simp [boC]
theorem boC_get {n j:Nat} {f:Nat→Bool} (h:j<n):cellAt (boC n f) (0+j * 1)=some (.bool (f j)):=by
 rw [Nat.zero_add,Nat.mul_one,cellAt_eq]
 simp [boC,h]
theorem boC_get' {n j:Nat} {f:Nat→Bool} (h:j<n):cellAt (boC n f) (j * 1)=some (.bool (f j)):=by
 have:=boC_get (f:=f) h
 rwa [Nat.zero_add] at this
def upB (f:Nat→Bool) (j:Nat) (v:Bool):Nat→Bool:=fun k=>if k=j then v else f k
theorem boC_set {n j:Nat} {f:Nat→Bool} {v:Bool} (h:j<n):over (boC n f) (0+j * 1) [.bool v]=boC n (upB f j v):=by
 unfold boC
 rw [Nat.zero_add,Nat.mul_one j,over_one]
 apply List.ext_getElem?
 intro k
 rw [List.getElem?_set]
 by_cases hk:j=k
 ·subst hk
  simp [upB,h]
 ·rw [if_neg hk]
  by_cases hk2:k<n
  ·simp [hk2,upB,show ¬ k=j from fun e=>hk e.symm]
  ·rw [List.getElem?_eq_none (by simp;omega),List.getElem?_eq_none (by simp;omega)]
theorem boC_zero {n:Nat}:reps n [.bool false]=boC n (fun _=>false):=by
 have key:∀ k,reps k [V.bool false]=List.replicate k (.bool false):=by
  intro k
  induction k with
  | zero=>rfl
  | succ k ih=>rw [reps,ih];rfl
 unfold boC
 rw [key,List.map_const']
 simp
theorem boC_blo {m n:Nat} {f:Nat→Bool}:(B.blk (boC m f) true).blo n=true:=rfl
theorem boC_ext {n:Nat} {f g:Nat→Bool} (h:∀ j,j<n→f j=g j):boC n f=boC n g:=by
 unfold boC
 apply List.map_congr_left
 intro k hk
 rw [h k (by simpa using hk)]
theorem VwLF.bools {h:List B} {d:Nat} {n:Nat} {f:Nat→Bool}:VwLF h (d+1) (boC n f) (boC n f):=by
 unfold boC
 generalize List.range n=l
 induction l with
 | nil=>exact VwLF.nil
 | cons x l ih=>exact VwLF.cons (VwF.bool rfl) ih
def rowB (n:Nat) (f:Nat→Bool):V:=.sl true n (boC n f)
end Go.Dr.T
namespace Go.Dr.T
def verS (sr:Int→Option Src) (st:List T3 × Int) (m:Int):List T3 × Int:=match sr m with
 | none=>st
 | some o=>(st.1++[(m,((o.e:Nat):Int),((o.k:Nat):Int))],st.2+o.f)
def verF (sr:Int→Option Src) (s:List Int):List T3 × Int:=s.foldl (verS sr) ([],0)
theorem verF_snoc {sr:Int→Option Src} {s:List Int} {i:Nat} {m:Int} (h:s[i]?=some m):verF sr (s.take (i+1))=verS sr (verF sr (s.take i)) m:=by
 have:s.take (i+1)=s.take i++[m]:=by rw [List.take_add_one,h];rfl
 rw [this,verF,List.foldl_append]
 rfl
theorem verF_bd {sr:Int→Option Src} (hs:∀ m,SrOk (sr m)) {s:List Int}:∀ i,i≤s.length→(verF sr (s.take i)).1.length≤i∧0≤(verF sr (s.take i)).2∧(verF sr (s.take i)).2≤200000 * (i:Int)
 | 0,_=>by
  rw [List.take_zero]
  exact ⟨Nat.le_refl _,Int.le_refl _,by show (0:Int)≤200000 * ((0:Nat):Int);decide⟩
 | i+1,hi=>by
  obtain ⟨h1,h2,h3⟩:=verF_bd hs (s:=s) i (by omega)
  rw [verF_snoc (List.getElem?_eq_getElem (show i<s.length by omega))]
  unfold verS
  split
  ·refine ⟨by omega,h2,by omega⟩
  ·rename_i o ho
   have:=hs _ o ho
   refine ⟨by rw [List.length_append,List.length_singleton];omega,by dsimp only;omega,by dsimp only;omega⟩
def verV (l:List El) (s:List Int):V :=
 if vldE l≠0 then .tup [.sl true 0 [],.int .i64 0,.int .i64 (vldE l)] else
 if scrE s≠0 then .tup [.sl true 0 [],.int .i64 0,.int .i64 (scrE s)] else
 match rndP l with
 | some _=>.tup [.sl true 0 [],.int .i64 0,.int .i64 161]
 | none=>.tup [gapV (verF (fun m=>srcAll m l l.length) s).1,.int .i64 (verF (fun m=>srcAll m l l.length) s).2,.int .i64 0]
theorem lostV_eq {l:List El} {s:List Int}:∃ (G:List T3) (e:Int),lostV l s = .tup [gapV G,.int .i64 e]∧G.length≤60:=by
 unfold lostV
 by_cases hv:vldE l=0
 ·rw [if_neg (fun h=>h hv)]
  by_cases hs:scrE s=0
  ·rw [if_neg (fun h=>h hs)]
   refine ⟨_,_,rfl,?_⟩
   rw [← docG_all]
   have:=docG_len (is:=isM l) (s:=s) s.length
   have:=(scr_ok hs).1
   omega
  ·rw [if_pos hs];exact ⟨[],_,rfl,by simp⟩
 ·rw [if_pos hv];exact ⟨[],_,rfl,by simp⟩
theorem verV_eq {l:List El} {s:List Int}:∃ (G:List T3) (n e:Int),verV l s = .tup [gapV G,.int .i64 n,.int .i64 e]∧G.length≤60:=by
 unfold verV
 by_cases hv:vldE l=0
 ·rw [if_neg (fun h=>h hv)]
  by_cases hs:scrE s=0
  ·rw [if_neg (fun h=>h hs)]
   cases rndP l with
   | some p=>exact ⟨[],_,_,rfl,by simp⟩
   | none =>
    refine ⟨_,_,_,rfl,?_⟩
    have:=(verF_bd (sr:=fun m=>srcAll m l l.length) (fun m=>srcAll_ok hv _ (Nat.le_refl _)) (s:=s) s.length (Nat.le_refl _)).1
    rw [List.take_length] at this
    have:=(scr_ok hs).1
    omega
  ·rw [if_pos hs];exact ⟨[],_,_,rfl,by simp⟩
 ·rw [if_pos hv];exact ⟨[],_,_,rfl,by simp⟩
end Go.Dr.T
