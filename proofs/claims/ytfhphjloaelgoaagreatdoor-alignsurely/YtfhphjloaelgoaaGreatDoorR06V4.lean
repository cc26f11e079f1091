/- Chapter 06: Surely of the document: lists, its code in parts. -/
import Derived.Test.YtfhphjloaelgoaaGreatDoorR06V2
import Derived.Test.YtfhphjloaelgoaaGreatDoorG10
import Derived.Test.YtfhphjloaelgoaaGreatDoorG10
namespace Go.Dr.T
def rMay:MC:=.reg false 1 [⟨some 92,none,0,.mv (.t 13)⟩,⟨some 93,none,0,.ld true 2 (.t 17)⟩,⟨some 94,none,2,.bs 1 [.int .i64 0,.int .i64 0] [(0,2,.t 93)]⟩,⟨some 95,none,7,.app 0 2 16 true (.t 92) (.t 94)⟩,⟨some 13,none,15,.mv (.t 95)⟩]
def rWb:MC:=.reg true 0 [⟨some 96,none,0,.ld true 3 (.t 3)⟩,⟨some 97,none,0,.ld true 3 (.t 4)⟩,⟨some 98,none,0,.mv (.t 2)⟩,⟨some 99,none,0,.ld true 2 (.t 17)⟩,⟨some 100,none,15,.call (.c (.fn 56 [])) [.t 96,.t 97,.t 98,.t 99]⟩,⟨some 101,none,31,.ia 1 (.t 100) (.c (.int .i64 0))⟩,⟨some 102,none,63,.ld false 1 (.t 101)⟩,⟨some 103,none,127,.ia 1 (.t 102) (.c (.int .i64 0))⟩,⟨some 104,none,255,.ld false 1 (.t 103)⟩,⟨some 105,none,0,.mv (.t 11)⟩,⟨some 106,none,512,.ia 1 (.t 105) (.c (.int .i64 0))⟩,⟨some 107,none,1536,.ld false 1 (.t 106)⟩,⟨some 108,none,3584,.ia 1 (.t 107) (.c (.int .i64 0))⟩,⟨some 109,none,7680,.ld false 1 (.t 108)⟩,⟨some 110,none,16383,.bo .lss (.t 104) (.t 109)⟩]
def rSure:MC:=.cond (.t 110) (.reg false 1 [⟨some 111,none,0,.mv (.t 12)⟩,⟨some 112,none,0,.ld true 2 (.t 17)⟩,⟨some 113,none,2,.bs 1 [.int .i64 0,.int .i64 0] [(0,2,.t 112)]⟩,⟨some 114,none,7,.app 0 2 16 true (.t 111) (.t 113)⟩,⟨some 12,none,15,.mv (.t 114)⟩]) .skip
def rBody:MC:=.block 3 (.seq (.reg true 0 [⟨some 48,none,0,.fa 1 (.t 3)⟩,⟨some 49,none,1,.ld false 1 (.t 48)⟩,⟨some 50,none,0,.mv (.t 14)⟩,⟨some 51,none,7,.ia 2 (.t 49) (.t 50)⟩,⟨some 52,none,15,.ld true 2 (.t 51)⟩,⟨some 53,none,0,.fa 1 (.t 4)⟩,⟨some 54,none,32,.ld false 1 (.t 53)⟩,⟨some 55,none,0,.mv (.t 15)⟩,⟨some 56,none,224,.ia 2 (.t 54) (.t 55)⟩,⟨some 57,none,480,.ld true 2 (.t 56)⟩,⟨some 58,none,0,.mv (.t 2)⟩,⟨some 59,none,2047,.call (.c (.fn 64 [])) [.t 52,.t 57,.t 58]⟩,⟨some 16,none,4095,.mv (.t 59)⟩]) (.seq (.seq (.reg true 0 [⟨some 60,none,0,.mv (.t 16)⟩,⟨some 61,none,1,.bo .eql (.t 60) (.c (.int .i64 0))⟩,⟨some 62,none,3,.mv (.t 61)⟩,⟨some 63,some (62,false),7,.mv (.t 10)⟩,⟨some 64,some (62,false),7,.mv (.t 14)⟩,⟨some 65,some (62,false),31,.ia 1 (.t 63) (.t 64)⟩,⟨some 66,some (62,false),63,.ld false 1 (.t 65)⟩,⟨some 67,some (62,false),7,.mv (.t 15)⟩,⟨some 68,some (62,false),255,.ia 1 (.t 66) (.t 67)⟩,⟨some 69,some (62,false),511,.ld false 1 (.t 68)⟩,⟨some 70,some (62,false),7,.mv (.t 16)⟩,⟨some 71,some (62,false),2047,.bo .add (.t 69) (.t 70)⟩,⟨some 72,some (62,false),7,.mv (.t 11)⟩,⟨some 73,some (62,false),7,.mv (.t 14)⟩,⟨some 74,some (62,false),8199,.bo .add (.t 73) (.c (.int .i64 1))⟩,⟨some 75,some (62,false),28679,.ia 1 (.t 72) (.t 74)⟩,⟨some 76,some (62,false),61447,.ld false 1 (.t 75)⟩,⟨some 77,some (62,false),7,.mv (.t 15)⟩,⟨some 78,some (62,false),131079,.bo .add (.t 77) (.c (.int .i64 1))⟩,⟨some 79,some (62,false),520199,.ia 1 (.t 76) (.t 78)⟩,⟨some 80,some (62,false),1044487,.ld false 1 (.t 79)⟩,⟨some 81,some (62,false),2097151,.bo .add (.t 71) (.t 80)⟩,⟨some 82,some (62,false),7,.mv (.t 11)⟩,⟨some 83,some (62,false),4194311,.ia 1 (.t 82) (.c (.int .i64 0))⟩,⟨some 84,some (62,false),12582919,.ld false 1 (.t 83)⟩,⟨some 85,some (62,false),29360135,.ia 1 (.t 84) (.c (.int .i64 0))⟩,⟨some 86,some (62,false),62914567,.ld false 1 (.t 85)⟩,⟨some 87,some (62,false),134217727,.bo .neq (.t 81) (.t 86)⟩,⟨some 88,none,268435455,.pk (.t 62) (.c (.bool true)) (.t 87)⟩]) (.cond (.t 88) (.exit 3) .skip)) (.seq (.reg false 1 [⟨some 89,none,0,.mv (.t 14)⟩,⟨some 90,none,0,.mv (.t 15)⟩,⟨some 91,none,3,.bd [.int .i64 0,.int .i64 0] [(0,1,.t 89),(1,1,.t 90)]⟩,⟨some 17,none,0,.al 0 [.int .i64 0,.int .i64 0]⟩,⟨none,none,15,.st 2 (.t 17) (.t 91)⟩]) (.seq rMay (.seq rWb rSure)))))
def c46z:Fc:=⟨117,3,[.tmp 6,.tmp 7,.tmp 8],.seq (.reg false 2 [⟨some 3,none,0,.bx 0 (.t 0)⟩,⟨some 4,none,0,.bx 1 (.t 1)⟩,⟨some 6,none,0,.mv (.c .nilsl)⟩,⟨some 7,none,4,.mv (.c .nilsl)⟩,⟨some 8,none,12,.mv (.c (.int .i64 0))⟩]) (.seq (.reg false 0 [⟨some 18,none,0,.ld true 3 (.t 3)⟩,⟨some 19,none,0,.ld true 3 (.t 4)⟩,⟨some 20,none,0,.mv (.t 2)⟩,⟨some 21,none,7,.call (.c (.fn 55 [])) [.t 18,.t 19,.t 20]⟩,⟨some 9,none,15,.mv (.t 21)⟩]) (.seq (.seq (.reg false 0 [⟨some 22,none,0,.mv (.t 9)⟩,⟨some 23,none,1,.bo .neq (.t 22) (.c (.int .i64 0))⟩]) (.cond (.t 23) (.seq (.reg false 0 [⟨some 24,none,0,.mv (.t 9)⟩,⟨some 6,none,0,.mv (.c .nilsl)⟩,⟨some 7,none,2,.mv (.c .nilsl)⟩,⟨some 8,none,7,.mv (.t 24)⟩]) .ret) .skip)) (.seq (.reg true 0 [⟨some 25,none,0,.ld true 3 (.t 3)⟩,⟨some 26,none,0,.ld true 3 (.t 4)⟩,⟨some 27,none,0,.mv (.t 2)⟩,⟨some 28,none,7,.call (.c (.fn 81 [])) [.t 25,.t 26,.t 27]⟩,⟨some 29,none,0,.ld true 3 (.t 3)⟩,⟨some 30,none,0,.ld true 3 (.t 4)⟩,⟨some 31,none,0,.mv (.t 2)⟩,⟨some 32,none,15,.call (.c (.fn 57 [])) []⟩,⟨some 33,none,255,.call (.c (.fn 56 [])) [.t 29,.t 30,.t 31,.t 32]⟩,⟨some 10,none,511,.mv (.t 28)⟩,⟨some 11,none,1023,.mv (.t 33)⟩]) (.seq (.reg false 0 [⟨some 12,none,0,.mv (.c .nilsl)⟩,⟨some 13,none,1,.mv (.c .nilsl)⟩]) (.seq (.seq (.reg false 0 [⟨some 14,none,0,.mv (.c (.int .i64 0))⟩]) (.block 0 (.loop (.seq (.seq (.reg false 0 [⟨some 34,none,0,.mv (.t 14)⟩,⟨some 35,none,0,.fa 1 (.t 3)⟩,⟨some 36,none,2,.ld false 1 (.t 35)⟩,⟨some 37,none,6,.len false (.t 36)⟩,⟨some 38,none,15,.bo .lss (.t 34) (.t 37)⟩]) (.cond (.t 38) .skip (.exit 0))) (.seq (.block 1 (.seq (.reg false 0 [⟨some 15,none,0,.mv (.c (.int .i64 0))⟩]) (.block 2 (.loop (.seq (.seq (.reg false 0 [⟨some 41,none,0,.mv (.t 15)⟩,⟨some 42,none,0,.fa 1 (.t 4)⟩,⟨some 43,none,2,.ld false 1 (.t 42)⟩,⟨some 44,none,6,.len false (.t 43)⟩,⟨some 45,none,15,.bo .lss (.t 41) (.t 44)⟩]) (.cond (.t 45) .skip (.exit 2))) (.seq rBody (.reg false 0 [⟨some 46,none,0,.mv (.t 15)⟩,⟨some 47,none,1,.bo .add (.t 46) (.c (.int .i64 1))⟩,⟨some 15,none,3,.mv (.t 47)⟩]))))))) (.reg false 0 [⟨some 39,none,0,.mv (.t 14)⟩,⟨some 40,none,1,.bo .add (.t 39) (.c (.int .i64 1))⟩,⟨some 14,none,3,.mv (.t 40)⟩])))))) (.seq (.reg false 0 [⟨some 115,none,0,.mv (.t 12)⟩,⟨some 116,none,0,.mv (.t 13)⟩,⟨some 6,none,1,.mv (.t 115)⟩,⟨some 7,none,7,.mv (.t 116)⟩,⟨some 8,none,15,.mv (.c (.int .i64 0))⟩]) .ret)))))),none⟩
theorem c46_eq:FB 46=some c46z:=by with_unfolding_all rfl
attribute [irreducible] rMay rWb rSure rBody
def ms1213:List (Option Nat):=[none,none,none,none,none,none,none,none,none,none,none,none,some 12,some 13]
def msRB:List (Option Nat):=[none,none,none,none,none,none,none,none,none,none,none,none,some 12,some 13,none,none,some 16,some 17,none,none,none,none,none,none,none,none,none,none,none,none,none,none,none,none,none,none,none,none,none,none,none,none,none,none,none,none,none,none,some 48,some 49,some 50,some 51,some 52,some 53,some 54,some 55,some 56,some 57,some 58,some 59,some 60,some 61,some 62,some 63,some 64,some 65,some 66,some 67,some 68,some 69,some 70,some 71,some 72,some 73,some 74,some 75,some 76,some 77,some 78,some 79,some 80,some 81,some 82,some 83,some 84,some 85,some 86,some 87,some 88,some 89,some 90,some 91,some 92,some 93,some 94,some 95,some 96,some 97,some 98,some 99,some 100,some 101,some 102,some 103,some 104,some 105,some 106,some 107,some 108,some 109,some 110,some 111,some 112,some 113,some 114]
def msRM:List (Option Nat):=[none,none,none,none,none,none,none,none,none,none,none,none,none,some 13,none,none,none,none,none,none,none,none,none,none,none,none,none,none,none,none,none,none,none,none,none,none,none,none,none,none,none,none,none,none,none,none,none,none,none,none,none,none,none,none,none,none,none,none,none,none,none,none,none,none,none,none,none,none,none,none,none,none,none,none,none,none,none,none,none,none,none,none,none,none,none,none,none,none,none,none,none,none,some 92,some 93,some 94,some 95]
def msRW:List (Option Nat):=[none,none,none,none,none,none,none,none,none,none,none,none,none,none,none,none,none,none,none,none,none,none,none,none,none,none,none,none,none,none,none,none,none,none,none,none,none,none,none,none,none,none,none,none,none,none,none,none,none,none,none,none,none,none,none,none,none,none,none,none,none,none,none,none,none,none,none,none,none,none,none,none,none,none,none,none,none,none,none,none,none,none,none,none,none,none,none,none,none,none,none,none,none,none,none,none,some 96,some 97,some 98,some 99,some 100,some 101,some 102,some 103,some 104,some 105,some 106,some 107,some 108,some 109,some 110]
structure SC (x y:El) (h:List B) (vS vM:V) (S M:List (Int × Int)):Prop where
 cl:Cl h
 b0:bget h 0=some (elB x)
 b1:bget h 1=some (elB y)
 lS:Lw h S vS
 lM:Lw h M vM
 sep:idOf vS≠idOf vM∨vS = .nilsl∨vM = .nilsl
theorem SC.app {x y:El} {h:List B} {vS vM:V} {S M:List (Int × Int)} {b:B} (e:SC x y h vS vM S M) (hb:b.blo h.length=true):SC x y (h++[b]) vS vM S M :=
 ⟨e.cl.app hb,bget_app e.b0,bget_app e.b1,e.lS.app,e.lM.app,e.sep⟩
theorem SC.norm {x y:El} {h:List B} {vS vM:V} {S M:List (Int × Int)} {m:List Bool} {n:Nat} {tm:List V} {a b a' b' : Nat} (hn:n≤h.length) (e:SC x y h vS vM S M)
  (h3:tg (masked m tm) 3 = .ref 0 a a') (h4:tg (masked m tm) 4 = .ref 1 b b') (h6:tg (masked m tm) 12=vS) (h7:tg (masked m tm) 13=vM):SC x y (norm m n ⟨tm,h⟩).h vS vM S M :=
 ⟨norm_cl hn e.cl,norm_keep (i:=3) hn (fun k hk=>by rw [h3] at hk;exact of_decide_eq_true hk) e.b0,norm_keep (i:=4) hn (fun k hk=>by rw [h4] at hk;exact of_decide_eq_true hk) e.b1,e.lS.norm hn h6,e.lM.norm hn h7,e.sep⟩
theorem SC.swap {x y:El} {h:List B} {vS vM:V} {S M:List (Int × Int)} (e:SC x y h vS vM S M):SC x y h vM vS M S :=
 ⟨e.cl,e.b0,e.b1,e.lM,e.lS,by
  rcases e.sep with h | h | h
  ·exact .inl fun k=>h k.symm
  ·exact .inr (.inr h)
  ·exact .inr (.inl h)⟩
theorem SC.newM {x y:El} {h:List B} {vS:V} {S:List (Int × Int)} {p:Int × Int} (e:SC x y h vS .nilsl S []):SC x y (h++[.blk (shC [p]) true]) vS (.ms 2 h.length 2 0 1 false) S [p]:=by
 have hl:=bget_lt e.b1
 obtain ⟨q,hq⟩:∃ q,h.length=q+2:=⟨h.length - 2,by omega⟩
 have hn:bget (h++[.blk (shC [p]) true]) (q+2)=some (.blk (shC [p]) true):=by rw [← hq];exact bget_new (i:=0)
 refine ⟨e.cl.app rfl,bget_app e.b0,bget_app e.b1,e.lS.app,.inr ⟨q,by simp,by rw [hq];rfl,hn⟩,?_⟩
 rw [hq]
 rcases e.lS with ⟨_,h2⟩ | ⟨q', _,h2,h3⟩
 ·exact .inr (.inl h2)
 ·have:=bget_lt h3
  subst h2
  refine .inl (fun e => ?_)
  simp only [idOf] at e
  omega
theorem SC.growM {x y:El} {h:List B} {vS:V} {M S:List (Int × Int)} {p:Int × Int} {q:Nat} (hne:M≠[]) (e:SC x y h vS (.ms 2 (q+2) (M.length * 2) 0 M.length false) S M):SC x y (bset h (q+2) (.blk (shC (M++[p])) true)) vS (.ms 2 (q+2) ((M++[p]).length * 2) 0 (M++[p]).length false) S (M++[p]):=by
 have hid:idOf vS≠q+2∨vS = .nilsl:=by
  rcases e.sep with h | h | h
  ·exact .inl h
  ·exact .inr h
  ·cases h
 have hb:bget h (q+2)=some (.blk (shC M) true):=by
  rcases e.lM with ⟨h1,_⟩ | ⟨q', _,h2,h3⟩
  ·exact absurd h1 hne
  ·simp only [V.ms.injEq] at h2
   obtain ⟨_,h2,_⟩:=h2
   rw [h2];exact h3
 have hk:Lw (bset h (q+2) (.blk (shC (M++[p])) true)) S vS:=by
  rcases hid with h1 | h1
  ·exact e.lS.set (.inr h1)
  ·subst h1
   rcases e.lS with h2 | ⟨_,_,h2,_⟩
   ·exact .inl h2
   ·cases h2
 refine ⟨e.cl.set (b:=.blk _ true) rfl,by rw [bset_other (by omega)];exact e.b0,by rw [bset_other (by omega)];exact e.b1,hk,.inr ⟨q,by simp,rfl,bget_same (bget_lt hb)⟩,?_⟩
 rcases hid with h1 | h1
 ·exact .inl h1
 ·exact .inr (.inl h1)
theorem suRow_step {W V Sh Wb:Nat→Nat→Int} {m i j:Nat} {p:List (Int × Int) × List (Int × Int)} (h:j<m):suRow W V Sh Wb m i (m - j) p=suRow W V Sh Wb m i (m - (j+1)) (suStep W V Sh Wb i j p):=by
 rw [show m - j=(m - (j+1))+1 by omega,suRow,show m - (m - (j+1)+1)=j by omega]
theorem suAll_step {W V Sh Wb:Nat→Nat→Int} {n m i:Nat} {p:List (Int × Int) × List (Int × Int)} (h:i<n):suAll W V Sh Wb n m (n - i) p=suAll W V Sh Wb n m (n - (i+1)) (suRow W V Sh Wb m i m p):=by
 rw [show n - i=(n - (i+1))+1 by omega,suAll,show n - (n - (i+1)+1)=i by omega]
theorem suStep_len {W V Sh Wb:Nat→Nat→Int} {i j:Nat} {p:List (Int × Int) × List (Int × Int)}:(suStep W V Sh Wb i j p).1.length≤p.1.length+1∧(suStep W V Sh Wb i j p).2.length≤p.2.length+1:=by
 unfold suStep
 split
 ·omega
 ·dsimp only
  refine ⟨by simp,?_⟩
  split
  ·simp
  ·omega
end Go.Dr.T
