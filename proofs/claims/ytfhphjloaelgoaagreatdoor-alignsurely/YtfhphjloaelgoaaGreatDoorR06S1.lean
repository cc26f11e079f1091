/- Chapter 06: Surely, walked. -/
import Derived.Test.YtfhphjloaelgoaaGreatDoorG6
import Derived.Test.YtfhphjloaelgoaaGreatDoorG6
import Derived.Test.YtfhphjloaelgoaaGreatDoorG6
import Derived.Test.YtfhphjloaelgoaaGreatDoorDrJ
namespace Go.Dr.T
attribute [local semireducible] zP zC
def kDown:MC:=.seq (.reg true 0 [⟨some 59,none,0,.mv (.t 9)⟩,⟨some 60,none,0,.mv (.t 13)⟩,⟨some 61,none,2,.bo .add (.t 60) (.c (.int .i64 1))⟩,⟨some 62,none,0,.mv (.t 14)⟩,⟨some 63,none,1,.nc (.t 59)⟩,⟨some 64,none,17,.fa 3 (.t 63)⟩,⟨some 65,none,55,.iaa 41 41 (.t 64) (.t 61)⟩,⟨some 66,none,127,.iaa 1 41 (.t 65) (.t 62)⟩,⟨some 67,none,255,.ld false 1 (.t 66)⟩,⟨some 68,none,0,.mv (.t 9)⟩,⟨some 69,none,0,.mv (.t 13)⟩,⟨some 70,none,0,.mv (.t 14)⟩,⟨some 71,none,512,.nc (.t 68)⟩,⟨some 72,none,4608,.fa 3 (.t 71)⟩,⟨some 73,none,13824,.iaa 41 41 (.t 72) (.t 69)⟩,⟨some 74,none,32256,.iaa 1 41 (.t 73) (.t 70)⟩,⟨some 75,none,65024,.ld false 1 (.t 74)⟩,⟨some 76,none,131071,.bo .eql (.t 67) (.t 75)⟩]) (.cond (.t 76) (.reg false 0 [⟨some 77,none,0,.mv (.t 13)⟩,⟨some 78,none,1,.bo .add (.t 77) (.c (.int .i64 1))⟩,⟨some 79,none,0,.mv (.t 14)⟩,⟨some 80,none,3,.iaa 41 41 (.t 12) (.t 78)⟩,⟨some 81,none,15,.iaa 1 41 (.t 80) (.t 79)⟩,⟨none,none,31,.st 1 (.t 81) (.c (.int .i64 1))⟩]) .skip)
def kRight:MC:=.seq (.reg true 0 [⟨some 82,none,0,.mv (.t 9)⟩,⟨some 83,none,0,.mv (.t 13)⟩,⟨some 84,none,0,.mv (.t 14)⟩,⟨some 85,none,4,.bo .add (.t 84) (.c (.int .i64 1))⟩,⟨some 86,none,1,.nc (.t 82)⟩,⟨some 87,none,17,.fa 3 (.t 86)⟩,⟨some 88,none,51,.iaa 41 41 (.t 87) (.t 83)⟩,⟨some 89,none,127,.iaa 1 41 (.t 88) (.t 85)⟩,⟨some 90,none,255,.ld false 1 (.t 89)⟩,⟨some 91,none,0,.mv (.t 9)⟩,⟨some 92,none,0,.mv (.t 13)⟩,⟨some 93,none,0,.mv (.t 14)⟩,⟨some 94,none,512,.nc (.t 91)⟩,⟨some 95,none,4608,.fa 3 (.t 94)⟩,⟨some 96,none,13824,.iaa 41 41 (.t 95) (.t 92)⟩,⟨some 97,none,32256,.iaa 1 41 (.t 96) (.t 93)⟩,⟨some 98,none,65024,.ld false 1 (.t 97)⟩,⟨some 99,none,131071,.bo .eql (.t 90) (.t 98)⟩]) (.cond (.t 99) (.reg false 0 [⟨some 100,none,0,.mv (.t 13)⟩,⟨some 101,none,0,.mv (.t 14)⟩,⟨some 102,none,2,.bo .add (.t 101) (.c (.int .i64 1))⟩,⟨some 103,none,1,.iaa 41 41 (.t 12) (.t 100)⟩,⟨some 104,none,15,.iaa 1 41 (.t 103) (.t 102)⟩,⟨none,none,31,.st 1 (.t 104) (.c (.int .i64 1))⟩]) .skip)
def kR3:MC:=.reg false 0 [⟨some 134,none,0,.mv (.t 13)⟩,⟨some 135,none,1,.bo .add (.t 134) (.c (.int .i64 1))⟩,⟨some 136,none,0,.mv (.t 14)⟩,⟨some 137,none,4,.bo .add (.t 136) (.c (.int .i64 1))⟩,⟨some 138,none,3,.iaa 41 41 (.t 12) (.t 135)⟩,⟨some 139,none,31,.iaa 1 41 (.t 138) (.t 137)⟩,⟨none,none,63,.st 1 (.t 139) (.c (.int .i64 1))⟩]
def kMay:MC:=.reg false 1 [⟨some 140,none,0,.mv (.t 7)⟩,⟨some 141,none,0,.ld true 2 (.t 15)⟩,⟨some 142,none,2,.bs 1 [.int .i64 0,.int .i64 0] [(0,2,.t 141)]⟩,⟨some 143,none,7,.app 0 2 16 true (.t 140) (.t 142)⟩,⟨some 7,none,15,.mv (.t 143)⟩]
def kFill:MC:=.reg false 0 [⟨some 144,none,0,.ld true 2 (.t 15)⟩,⟨some 145,none,1,.call (.c (.fn 80 [])) [.t 11,.t 144]⟩,⟨some 146,none,0,.mv (.t 10)⟩,⟨some 147,none,7,.bo .lss (.t 145) (.t 146)⟩]
def kSure:MC:=.cond (.t 147) (.reg false 1 [⟨some 148,none,0,.mv (.t 6)⟩,⟨some 149,none,0,.ld true 2 (.t 15)⟩,⟨some 150,none,2,.bs 1 [.int .i64 0,.int .i64 0] [(0,2,.t 149)]⟩,⟨some 151,none,7,.app 0 2 16 true (.t 148) (.t 150)⟩,⟨some 6,none,15,.mv (.t 151)⟩]) .skip
def kBody:MC:=.cond (.t 58) (.seq kDown (.seq kRight (.seq (.reg false 0 [⟨some 105,none,0,.mv (.t 9)⟩,⟨some 106,none,0,.mv (.t 13)⟩,⟨some 107,none,0,.mv (.t 14)⟩,⟨some 108,none,7,.call (.c (.fn 63 [])) [.t 105,.t 106,.t 107]⟩,⟨some 16,none,15,.mv (.t 108)⟩]) (.seq (.reg true 0 [⟨some 109,none,0,.mv (.t 16)⟩,⟨some 110,none,1,.bo .gtr (.t 109) (.c (.int .i64 0))⟩,⟨some 111,none,3,.mv (.t 110)⟩,⟨some 112,some (111,true),7,.mv (.t 16)⟩,⟨some 113,some (111,true),7,.mv (.t 9)⟩,⟨some 114,some (111,true),7,.mv (.t 13)⟩,⟨some 115,some (111,true),39,.bo .add (.t 114) (.c (.int .i64 1))⟩,⟨some 116,some (111,true),7,.mv (.t 14)⟩,⟨some 117,some (111,true),135,.bo .add (.t 116) (.c (.int .i64 1))⟩,⟨some 118,some (111,true),23,.nc (.t 113)⟩,⟨some 119,some (111,true),535,.fa 3 (.t 118)⟩,⟨some 120,some (111,true),1655,.iaa 41 41 (.t 119) (.t 115)⟩,⟨some 121,some (111,true),4087,.iaa 1 41 (.t 120) (.t 117)⟩,⟨some 122,some (111,true),8183,.ld false 1 (.t 121)⟩,⟨some 123,some (111,true),16383,.bo .add (.t 112) (.t 122)⟩,⟨some 124,some (111,true),7,.mv (.t 9)⟩,⟨some 125,some (111,true),7,.mv (.t 13)⟩,⟨some 126,some (111,true),7,.mv (.t 14)⟩,⟨some 127,some (111,true),32775,.nc (.t 124)⟩,⟨some 128,some (111,true),294919,.fa 3 (.t 127)⟩,⟨some 129,some (111,true),884743,.iaa 41 41 (.t 128) (.t 125)⟩,⟨some 130,some (111,true),2064391,.iaa 1 41 (.t 129) (.t 126)⟩,⟨some 131,some (111,true),4161543,.ld false 1 (.t 130)⟩,⟨some 132,some (111,true),8388607,.bo .eql (.t 123) (.t 131)⟩,⟨some 133,none,16777215,.pk (.t 111) (.t 132) (.c (.bool false))⟩]) (.cond (.t 133) (.seq kR3 (.seq kMay (.seq kFill kSure))) .skip))))) .skip
def kLoops:MC:=.block 0 (.loop (.seq (.reg false 0 [⟨some 42,none,0,.bo .lss (.t 41) (.t 40)⟩]) (.seq (.cond (.t 42) .skip (.exit 0)) (.seq (.block 1 (.seq (.reg false 0 [⟨some 43,none,0,.mv (.t 41)⟩,⟨some 13,none,1,.mv (.t 43)⟩]) (.seq (.reg false 0 [⟨some 44,none,0,.fa 1 (.t 4)⟩,⟨some 45,none,1,.ld false 1 (.t 44)⟩,⟨some 46,none,3,.len false (.t 45)⟩,⟨some 47,none,0,.mv (.c (.int .i64 0))⟩]) (.block 2 (.loop (.seq (.reg false 0 [⟨some 48,none,0,.bo .lss (.t 47) (.t 46)⟩]) (.seq (.cond (.t 48) .skip (.exit 2)) (.seq (.block 3 (.seq (.reg false 0 [⟨some 49,none,0,.mv (.t 47)⟩,⟨some 14,none,1,.mv (.t 49)⟩]) (.seq (.reg false 1 [⟨some 50,none,0,.mv (.t 13)⟩,⟨some 51,none,0,.mv (.t 14)⟩,⟨some 52,none,3,.bd [.int .i64 0,.int .i64 0] [(0,1,.t 50),(1,1,.t 51)]⟩,⟨some 15,none,0,.al 0 [.int .i64 0,.int .i64 0]⟩,⟨none,none,15,.st 2 (.t 15) (.t 52)⟩]) (.seq (.reg false 0 [⟨some 53,none,0,.mv (.t 13)⟩,⟨some 54,none,0,.mv (.t 14)⟩,⟨some 55,none,1,.iaa 41 41 (.t 12) (.t 53)⟩,⟨some 56,none,7,.iaa 1 41 (.t 55) (.t 54)⟩,⟨some 57,none,15,.ld false 1 (.t 56)⟩,⟨some 58,none,31,.bo .gtr (.t 57) (.c (.int .i64 0))⟩]) kBody)))) (.reg false 0 [⟨some 152,none,0,.bo .add (.t 47) (.c (.int .i64 1))⟩,⟨some 47,none,1,.mv (.t 152)⟩]))))))))) (.reg false 0 [⟨some 153,none,0,.bo .add (.t 41) (.c (.int .i64 1))⟩,⟨some 41,none,1,.mv (.t 153)⟩])))))
def oSt:List G:=[⟨none,none,2047,.st 1684 (.t 11) (.t 35)⟩]
def kPre:MC:=.reg true 1 (⟨some 27,none,0,.mv (.t 9)⟩ :: ⟨some 28,none,1,.nc (.t 27)⟩ :: ⟨some 29,none,3,.fa 3 (.t 28)⟩ :: ⟨some 30,none,7,.iaa 41 41 (.t 29) (.c (.int .i64 0))⟩ :: ⟨some 31,none,15,.iaa 1 41 (.t 30) (.c (.int .i64 0))⟩ :: ⟨some 32,none,31,.ld false 1 (.t 31)⟩ :: ⟨some 33,none,0,.mv (.t 9)⟩ :: ⟨some 34,none,64,.nc (.t 33)⟩ :: ⟨some 35,none,192,.ld true 1684 (.t 34)⟩ :: ⟨some 11,none,0,.al 0 zP⟩ :: ⟨some 10,none,575,.mv (.t 32)⟩ :: oSt)
def kZer:MC:=.reg false 1 [⟨some 12,none,0,.al 0 zC⟩]
def kOne:MC:=.reg false 0 [⟨some 36,none,0,.iaa 41 41 (.t 12) (.c (.int .i64 0))⟩,⟨some 37,none,1,.iaa 1 41 (.t 36) (.c (.int .i64 0))⟩,⟨none,none,3,.st 1 (.t 37) (.c (.int .i64 1))⟩]
def c45z:Fc:=⟨156,3,[.tmp 6,.tmp 7,.tmp 8],.seq (.reg false 2 [⟨some 3,none,0,.bx 0 (.t 0)⟩,⟨some 4,none,0,.bx 1 (.t 1)⟩,⟨some 6,none,0,.mv (.c .nilsl)⟩,⟨some 7,none,4,.mv (.c .nilsl)⟩,⟨some 8,none,12,.mv (.c (.int .i64 0))⟩]) (.seq (.reg false 0 [⟨some 18,none,0,.ld true 3 (.t 3)⟩,⟨some 19,none,0,.ld true 3 (.t 4)⟩,⟨some 20,none,0,.mv (.t 2)⟩,⟨some 21,none,7,.call (.c (.fn 53 [])) [.t 18,.t 19,.t 20]⟩,⟨some 17,none,15,.mv (.t 21)⟩,⟨some 22,none,31,.ex (.t 17) 0⟩,⟨some 23,none,31,.ex (.t 17) 1⟩,⟨some 9,none,63,.mv (.t 22)⟩,⟨some 8,none,255,.mv (.t 23)⟩]) (.seq (.seq (.reg false 0 [⟨some 24,none,0,.mv (.t 8)⟩,⟨some 25,none,1,.bo .neq (.t 24) (.c (.int .i64 0))⟩]) (.cond (.t 25) (.seq (.reg false 0 [⟨some 26,none,0,.mv (.t 8)⟩,⟨some 6,none,0,.mv (.c .nilsl)⟩,⟨some 7,none,2,.mv (.c .nilsl)⟩,⟨some 8,none,7,.mv (.t 26)⟩]) .ret) .skip)) (.seq kPre (.seq kZer (.seq kOne (.seq (.seq (.reg false 0 [⟨some 38,none,0,.fa 1 (.t 3)⟩,⟨some 39,none,1,.ld false 1 (.t 38)⟩,⟨some 40,none,3,.len false (.t 39)⟩,⟨some 41,none,0,.mv (.c (.int .i64 0))⟩]) kLoops) (.seq (.reg false 0 [⟨some 154,none,0,.mv (.t 6)⟩,⟨some 155,none,0,.mv (.t 7)⟩,⟨some 6,none,1,.mv (.t 154)⟩,⟨some 7,none,7,.mv (.t 155)⟩,⟨some 8,none,15,.mv (.c (.int .i64 0))⟩]) .ret))))))),none⟩
theorem c45_eq:FB 45=some c45z:=by with_unfolding_all rfl
attribute [irreducible] oSt kDown kRight kR3 kMay kFill kSure kBody kLoops kPre kZer kOne
def ms67:List (Option Nat):=[none,none,none,none,none,none,some 6,some 7]
def msPre:List (Option Nat):=[none,none,none,none,none,none,none,none,none,none,some 10,some 11,none,none,none,none,none,none,none,none,none,none,none,none,none,none,none,some 27,some 28,some 29,some 30,some 31,some 32,some 33,some 34,some 35]
def msBody:List (Option Nat):=[none,none,none,none,none,none,some 6,some 7,none,none,none,none,none,none,none,none,some 16,none,none,none,none,none,none,none,none,none,none,none,none,none,none,none,none,none,none,none,none,none,none,none,none,none,none,none,none,none,none,none,none,none,none,none,none,none,none,none,none,none,none,some 59,some 60,some 61,some 62,some 63,some 64,some 65,some 66,some 67,some 68,some 69,some 70,some 71,some 72,some 73,some 74,some 75,some 76,some 77,some 78,some 79,some 80,some 81,some 82,some 83,some 84,some 85,some 86,some 87,some 88,some 89,some 90,some 91,some 92,some 93,some 94,some 95,some 96,some 97,some 98,some 99,some 100,some 101,some 102,some 103,some 104,some 105,some 106,some 107,some 108,some 109,some 110,some 111,some 112,some 113,some 114,some 115,some 116,some 117,some 118,some 119,some 120,some 121,some 122,some 123,some 124,some 125,some 126,some 127,some 128,some 129,some 130,some 131,some 132,some 133,some 134,some 135,some 136,some 137,some 138,some 139,some 140,some 141,some 142,some 143,some 144,some 145,some 146,some 147,some 148,some 149,some 150,some 151]
def msDown:List (Option Nat):=[none,none,none,none,none,none,none,none,none,none,none,none,none,none,none,none,none,none,none,none,none,none,none,none,none,none,none,none,none,none,none,none,none,none,none,none,none,none,none,none,none,none,none,none,none,none,none,none,none,none,none,none,none,none,none,none,none,none,none,some 59,some 60,some 61,some 62,some 63,some 64,some 65,some 66,some 67,some 68,some 69,some 70,some 71,some 72,some 73,some 74,some 75,some 76,some 77,some 78,some 79,some 80,some 81]
def msRight:List (Option Nat):=[none,none,none,none,none,none,none,none,none,none,none,none,none,none,none,none,none,none,none,none,none,none,none,none,none,none,none,none,none,none,none,none,none,none,none,none,none,none,none,none,none,none,none,none,none,none,none,none,none,none,none,none,none,none,none,none,none,none,none,none,none,none,none,none,none,none,none,none,none,none,none,none,none,none,none,none,none,none,none,none,none,none,some 82,some 83,some 84,some 85,some 86,some 87,some 88,some 89,some 90,some 91,some 92,some 93,some 94,some 95,some 96,some 97,some 98,some 99,some 100,some 101,some 102,some 103,some 104]
def msR3:List (Option Nat):=[none,none,none,none,none,none,none,none,none,none,none,none,none,none,none,none,none,none,none,none,none,none,none,none,none,none,none,none,none,none,none,none,none,none,none,none,none,none,none,none,none,none,none,none,none,none,none,none,none,none,none,none,none,none,none,none,none,none,none,none,none,none,none,none,none,none,none,none,none,none,none,none,none,none,none,none,none,none,none,none,none,none,none,none,none,none,none,none,none,none,none,none,none,none,none,none,none,none,none,none,none,none,none,none,none,none,none,none,none,none,none,none,none,none,none,none,none,none,none,none,none,none,none,none,none,none,none,none,none,none,none,none,none,none,some 134,some 135,some 136,some 137,some 138,some 139]
def msMay:List (Option Nat):=[none,none,none,none,none,none,none,some 7,none,none,none,none,none,none,none,none,none,none,none,none,none,none,none,none,none,none,none,none,none,none,none,none,none,none,none,none,none,none,none,none,none,none,none,none,none,none,none,none,none,none,none,none,none,none,none,none,none,none,none,none,none,none,none,none,none,none,none,none,none,none,none,none,none,none,none,none,none,none,none,none,none,none,none,none,none,none,none,none,none,none,none,none,none,none,none,none,none,none,none,none,none,none,none,none,none,none,none,none,none,none,none,none,none,none,none,none,none,none,none,none,none,none,none,none,none,none,none,none,none,none,none,none,none,none,none,none,none,none,none,none,some 140,some 141,some 142,some 143]
def msFill:List (Option Nat):=[none,none,none,none,none,none,none,none,none,none,none,none,none,none,none,none,none,none,none,none,none,none,none,none,none,none,none,none,none,none,none,none,none,none,none,none,none,none,none,none,none,none,none,none,none,none,none,none,none,none,none,none,none,none,none,none,none,none,none,none,none,none,none,none,none,none,none,none,none,none,none,none,none,none,none,none,none,none,none,none,none,none,none,none,none,none,none,none,none,none,none,none,none,none,none,none,none,none,none,none,none,none,none,none,none,none,none,none,none,none,none,none,none,none,none,none,none,none,none,none,none,none,none,none,none,none,none,none,none,none,none,none,none,none,none,none,none,none,none,none,none,none,none,none,some 144,some 145,some 146,some 147]
theorem zP_len:zP.length=1684:=by unfold zP;rw [List.length_append,List.length_replicate];rfl
attribute [local irreducible] zP zC
theorem over_all:∀ {c d:List V},c.length=d.length→over c 0 d=d
 | [],[],_=>rfl
 | _ :: c,_ :: d,h=>by
  have:=over_all (c:=c) (d:=d) (by simpa using h)
  simp only [over,this]
theorem wDraw_stP {base i a n b id:Nat} {seen:List (Nat × Fp)} {tm:List V} {h:List B} {C Z:List V} {K:List V→List B→Prop} (h1:(O.t a).ev tm = .ref id Z.length 0) (h2:(O.t n).ev tm = .agg C) (hC:C.length=1684) (hZ:Z.length=1684) (ho:ones C=true) (hb:bget h id=some (.blk Z false))
  (hf:freeOf (.some [id] (some id)) b seen=true) (hk:K tm (bset h id (.blk C false))):wDraw FB md 0 base i seen [⟨none,none,b,.st 1684 (.t a) (.t n)⟩] tm h K:=by
 have e:fpS md base tm (.st 1684 (.t a) (.t n)) = .some [id] (some id):=by simp only [fpS,newOf,fpM];rw [h1]
 unfold wDraw wG
 simp only [wop]
 rw [h1,h2,e,hf]
 simp only [V.cells]
 refine fC.mk ?_
 refine Req.mk ⟨hC,ho⟩ ?_
 refine Get.mk _ hb ?_
 refine Req.mk ⟨rfl,by rw [hZ];decide⟩ ?_
 refine Req.mk (fun h=>nomatch h) ?_
 refine fV.mk ?_
 rw [over_all (by rw [hZ,hC])]
 refine fB.mk ?_
 exact hk
structure SS where
 R:Nat→Nat→Int
 M:List (Int × Int)
 S:List (Int × Int)
def sDown (W:Nat→Nat→Int) (i j:Nat) (R:Nat→Nat→Int):Nat→Nat→Int:=if W (i+1) j=W i j then upT R (i+1) j 1 else R
def sRight (W:Nat→Nat→Int) (i j:Nat) (R:Nat→Nat→Int):Nat→Nat→Int:=if W i (j+1)=W i j then upT R i (j+1) 1 else R
def prI (i j:Nat):Int × Int:=((i:Int),(j:Int))
def sStep (W Sh Wb:Nat→Nat→Int) (i j:Nat) (st:SS):SS :=
 if 0<st.R i j then
  (if 0<Sh i j∧Sh i j+W (i+1) (j+1)=W i j then ⟨upT (sRight W i j (sDown W i j st.R)) (i+1) (j+1) 1,st.M++[prI i j],if Wb i j<W 0 0 then st.S++[prI i j] else st.S⟩
  else ⟨sRight W i j (sDown W i j st.R),st.M,st.S⟩)
 else st
theorem upT_rg {R:Nat→Nat→Int} {i j:Nat} (h:∀ p q,0≤R p q∧R p q≤1):∀ p q,0≤upT R i j 1 p q∧upT R i j 1 p q≤1:=fun p q=>by
 unfold upT
 split
 ·exact ⟨by decide,by decide⟩
 ·exact h p q
theorem sDown_rg {W R:Nat→Nat→Int} {i j:Nat} (h:∀ p q,0≤R p q∧R p q≤1):∀ p q,0≤sDown W i j R p q∧sDown W i j R p q≤1:=by
 unfold sDown
 split
 ·exact upT_rg h
 ·exact h
theorem sRight_rg {W R:Nat→Nat→Int} {i j:Nat} (h:∀ p q,0≤R p q∧R p q≤1):∀ p q,0≤sRight W i j R p q∧sRight W i j R p q≤1:=by
 unfold sRight
 split
 ·exact upT_rg h
 ·exact h
theorem sStep_rg {W Sh Wb:Nat→Nat→Int} {i j:Nat} {st:SS} (h:∀ p q,0≤st.R p q∧st.R p q≤1):∀ p q,0≤(sStep W Sh Wb i j st).R p q∧(sStep W Sh Wb i j st).R p q≤1:=by
 unfold sStep
 split
 ·split
  ·exact upT_rg (sRight_rg (sDown_rg h))
  ·exact sRight_rg (sDown_rg h)
 ·exact h
theorem sStep_len {W Sh Wb:Nat→Nat→Int} {i j:Nat} {st:SS}:(sStep W Sh Wb i j st).M.length≤st.M.length+1∧(sStep W Sh Wb i j st).S.length≤st.S.length+1:=by
 unfold sStep
 split
 ·split
  ·dsimp only
   refine ⟨by simp,?_⟩
   split
   ·simp
   ·omega
  ·dsimp only;omega
 ·omega
def sRow (W Sh Wb:Nat→Nat→Int) (m i:Nat):Nat→SS→SS
 | 0,st=>st
 | l+1,st=>sRow W Sh Wb m i l (sStep W Sh Wb i (m - (l+1)) st)
def sAll (W Sh Wb:Nat→Nat→Int) (n m:Nat):Nat→SS→SS
 | 0,st=>st
 | k+1,st=>sAll W Sh Wb n m k (sRow W Sh Wb m (n - (k+1)) m st)
def wbT (a b:List (Int × Int)) (s:Int) (i j:Nat):Int:=wT a b s (i:Int) (j:Int) 0 0
def surelyS (x y:El) (s:Int):SS:=sAll (openT x y s) (shA x.l y.l s) (wbT x.l y.l s) x.l.length y.l.length x.l.length ⟨upT zT 0 0 1,[],[]⟩
def surelyV (x y:El) (s:Int):V :=
 if openE x y s≠0 then .tup [.sl true 0 [],.sl true 0 [],.int .i64 (openE x y s)] else .tup [lsP (surelyS x y s).S,lsP (surelyS x y s).M,.int .i64 0]
def Lv (h:List B) (l:List (Int × Int)) (v:V):Prop:=(l=[]∧v = .nilsl)∨∃ q,l≠[]∧v = .ms 2 (q+4) (l.length * 2) 0 l.length false∧bget h (q+4)=some (.blk (shC l) true)
structure SB (x y:El) (s:Int) (h:List B) (v6 v7:V) (st:SS) (g:Nat→Nat→Int):Prop where
 cl:Cl h
 b0:bget h 0=some (elB x)
 b1:bget h 1=some (elB y)
 b2:bget h 2=some (pB x.sh y.sh s g)
 b3:bget h 3=some (.blk (tC st.R) false)
 hg:∀ i j,x.l.length≤i∨y.l.length≤j→g i j=0
 l6:Lv h st.S v6
 l7:Lv h st.M v7
 sep:idOf v6≠idOf v7∨v6 = .nilsl∨v7 = .nilsl
theorem Lv.app {h:List B} {l:List (Int × Int)} {v:V} {b:B} (e:Lv h l v):Lv (h++[b]) l v:=by
 rcases e with e | ⟨q,e1,e2,e3⟩
 ·exact .inl e
 ·exact .inr ⟨q,e1,e2,bget_app e3⟩
theorem Lv.set {h:List B} {l:List (Int × Int)} {v:V} {b:B} {n:Nat} (e:Lv h l v) (hn:n<4∨idOf v≠n):Lv (bset h n b) l v:=by
 rcases e with e | ⟨q,e1,e2,e3⟩
 ·exact .inl e
 ·subst e2
  refine .inr ⟨q,e1,rfl,?_⟩
  have hne:n≠q+4:=by
   rcases hn with h | h
   ·omega
   ·exact fun e=>h e.symm
  rw [bset_other hne]
  exact e3
theorem Lv.view {h:List B} {l:List (Int × Int)} {v:V} {d:Nat} (e:Lv h l v):Vw h (d+2) v (lsP l):=by
 rcases e with ⟨rfl,rfl⟩ | ⟨q,e1,rfl,e3⟩
 ·exact Vw.nil
 ·unfold lsP
  rw [if_neg e1]
  refine Vw.ms (d:=d+1) e3 (shC_length _) (part_all (shC_length _)) ?_
  have key:∀ l:List (Int × Int),VwL h (d+1) (shC l) (shC l):=by
   intro l
   induction l with
   | nil=>exact VwL.nil
   | cons p l ih=>exact VwL.cons (Vw.int rfl) (VwL.cons (Vw.int rfl) ih)
  exact key l
theorem Lv.alive {h:List B} {l:List (Int × Int)} {v:V} (e:Lv h l v):v ≠ .dead:=by
 rcases e with ⟨_,rfl⟩ | ⟨q,_,rfl,_⟩ <;> simp
theorem Lv.norm {h:List B} {l:List (Int × Int)} {v:V} {m:List Bool} {n i:Nat} {tm:List V} (hn:n≤h.length) (e:Lv h l v) (hv:tg (masked m tm) i=v):Lv (norm m n ⟨tm,h⟩).h l v:=by
 rcases e with e | ⟨q,e1,rfl,e3⟩
 ·exact .inl e
 ·exact .inr ⟨q,e1,rfl,norm_keep (i:=i) hn (fun k hk=>by rw [hv] at hk;exact of_decide_eq_true hk) e3⟩
theorem SB.norm {x y:El} {s:Int} {h:List B} {v6 v7:V} {st:SS} {g:Nat→Nat→Int} {m:List Bool} {n:Nat} {tm:List V} {a b c d a' b' c' d' : Nat} (hn:n≤h.length) (e:SB x y s h v6 v7 st g)
  (h3:tg (masked m tm) 3 = .ref 0 a a') (h4:tg (masked m tm) 4 = .ref 1 b b') (h11:tg (masked m tm) 11 = .ref 2 c c') (h12:tg (masked m tm) 12 = .ref 3 d d') (h6:tg (masked m tm) 6=v6) (h7:tg (masked m tm) 7=v7):SB x y s (norm m n ⟨tm,h⟩).h v6 v7 st g :=
 ⟨norm_cl hn e.cl,norm_keep (i:=3) hn (fun k hk=>by rw [h3] at hk;exact of_decide_eq_true hk) e.b0,norm_keep (i:=4) hn (fun k hk=>by rw [h4] at hk;exact of_decide_eq_true hk) e.b1,norm_keep (i:=11) hn (fun k hk=>by rw [h11] at hk;exact of_decide_eq_true hk) e.b2,norm_keep (i:=12) hn (fun k hk=>by rw [h12] at hk;exact of_decide_eq_true hk) e.b3,e.hg,e.l6.norm hn h6,e.l7.norm hn h7,e.sep⟩
theorem SB.app {x y:El} {s:Int} {h:List B} {v6 v7:V} {st:SS} {g:Nat→Nat→Int} {b:B} (e:SB x y s h v6 v7 st g) (hb:b.blo h.length=true):SB x y s (h++[b]) v6 v7 st g :=
 ⟨e.cl.app hb,bget_app e.b0,bget_app e.b1,bget_app e.b2,bget_app e.b3,e.hg,e.l6.app,e.l7.app,e.sep⟩
theorem SB.setR {x y:El} {s:Int} {h:List B} {v6 v7:V} {R R' : Nat→Nat→Int} {M S:List (Int × Int)} {g:Nat→Nat→Int} (e:SB x y s h v6 v7 ⟨R,M,S⟩ g):SB x y s (bset h 3 (.blk (tC R') false)) v6 v7 ⟨R', M,S⟩ g :=
 ⟨e.cl.set tC_blk,by rw [bset_other (by decide)];exact e.b0,by rw [bset_other (by decide)];exact e.b1,by rw [bset_other (by decide)];exact e.b2,bget_same (bget_lt e.b3),e.hg,e.l6.set (.inl (by decide)),e.l7.set (.inl (by decide)),e.sep⟩
theorem SB.setG {x y:El} {s:Int} {h:List B} {v6 v7:V} {st:SS} {g g' : Nat→Nat→Int} (e:SB x y s h v6 v7 st g) (hg:∀ i j,x.l.length≤i∨y.l.length≤j→g' i j=0):SB x y s (bset h 2 (pB x.sh y.sh s g')) v6 v7 st g' :=
 ⟨e.cl.set (pB_blo _),by rw [bset_other (by decide)];exact e.b0,by rw [bset_other (by decide)];exact e.b1,bget_same (bget_lt e.b2),by rw [bset_other (by decide)];exact e.b3,hg,e.l6.set (.inl (by decide)),e.l7.set (.inl (by decide)),e.sep⟩
theorem blos_sh (n:Nat):∀ l:List (Int × Int),blos n (shC l)=true
 | []=>rfl
 | _ :: l=>by simp only [shC,blos,V.blo,Bool.true_and];exact blos_sh n l
theorem SB.newM {x y:El} {s:Int} {h:List B} {v6:V} {R:Nat→Nat→Int} {S:List (Int × Int)} {g:Nat→Nat→Int} {p:Int × Int} (e:SB x y s h v6 .nilsl ⟨R,[],S⟩ g):SB x y s (h++[.blk (shC [p]) true]) v6 (.ms 2 h.length 2 0 1 false) ⟨R,[p],S⟩ g:=by
 have hl:=bget_lt e.b3
 obtain ⟨q,hq⟩:∃ q,h.length=q+4:=⟨h.length - 4,by omega⟩
 have hn:bget (h++[.blk (shC [p]) true]) (q+4)=some (.blk (shC [p]) true):=by rw [← hq];exact bget_new (i:=0)
 refine ⟨e.cl.app rfl,bget_app e.b0,bget_app e.b1,bget_app e.b2,bget_app e.b3,e.hg,e.l6.app,.inr ⟨q,by simp,by rw [hq];rfl,hn⟩,?_⟩
 rw [hq]
 rcases e.l6 with ⟨_,h2⟩ | ⟨q', _,h2,h3⟩
 ·exact .inr (.inl h2)
 ·have:=bget_lt h3
  subst h2
  refine .inl (fun e => ?_)
  simp only [idOf] at e
  omega
theorem SB.growM {x y:El} {s:Int} {h:List B} {v6:V} {R:Nat→Nat→Int} {M S:List (Int × Int)} {g:Nat→Nat→Int} {p:Int × Int} {q:Nat} (hne:M≠[]) (e:SB x y s h v6 (.ms 2 (q+4) (M.length * 2) 0 M.length false) ⟨R,M,S⟩ g):SB x y s (bset h (q+4) (.blk (shC (M++[p])) true)) v6 (.ms 2 (q+4) ((M++[p]).length * 2) 0 (M++[p]).length false) ⟨R,M++[p],S⟩ g:=by
 have hid:idOf v6≠q+4∨v6 = .nilsl:=by
  rcases e.sep with h | h | h
  ·exact .inl h
  ·exact .inr h
  ·cases h
 have hb:bget h (q+4)=some (.blk (shC M) true):=by
  rcases e.l7 with ⟨h1,_⟩ | ⟨q', _,h2,h3⟩
  ·exact absurd h1 hne
  ·simp only [V.ms.injEq] at h2
   obtain ⟨_,h2,_⟩:=h2
   rw [h2];exact h3
 have hk:Lv (bset h (q+4) (.blk (shC (M++[p])) true)) S v6:=by
  rcases hid with h1 | h1
  ·exact e.l6.set (.inr h1)
  ·subst h1
   rcases e.l6 with h2 | ⟨_,_,h2,_⟩
   ·exact .inl h2
   ·cases h2
 refine ⟨e.cl.set (b:=.blk _ true) rfl,by rw [bset_other (by omega)];exact e.b0,by rw [bset_other (by omega)];exact e.b1,by rw [bset_other (by omega)];exact e.b2,by rw [bset_other (by omega)];exact e.b3,e.hg,hk,.inr ⟨q,by simp,rfl,bget_same (bget_lt hb)⟩,?_⟩
 rcases hid with h1 | h1
 ·exact .inl h1
 ·exact .inr (.inl h1)
theorem SB.newS {x y:El} {s:Int} {h:List B} {v7:V} {R:Nat→Nat→Int} {M:List (Int × Int)} {g:Nat→Nat→Int} {p:Int × Int} (e:SB x y s h .nilsl v7 ⟨R,M,[]⟩ g):SB x y s (h++[.blk (shC [p]) true]) (.ms 2 h.length 2 0 1 false) v7 ⟨R,M,[p]⟩ g:=by
 have hl:=bget_lt e.b3
 obtain ⟨q,hq⟩:∃ q,h.length=q+4:=⟨h.length - 4,by omega⟩
 have hn:bget (h++[.blk (shC [p]) true]) (q+4)=some (.blk (shC [p]) true):=by rw [← hq];exact bget_new (i:=0)
 refine ⟨e.cl.app rfl,bget_app e.b0,bget_app e.b1,bget_app e.b2,bget_app e.b3,e.hg,.inr ⟨q,by simp,by rw [hq];rfl,hn⟩,e.l7.app,?_⟩
 rw [hq]
 rcases e.l7 with ⟨_,h2⟩ | ⟨q', _,h2,h3⟩
 ·exact .inr (.inr h2)
 ·have:=bget_lt h3
  subst h2
  refine .inl (fun e => ?_)
  simp only [idOf] at e
  omega
theorem SB.growS {x y:El} {s:Int} {h:List B} {v7:V} {R:Nat→Nat→Int} {M S:List (Int × Int)} {g:Nat→Nat→Int} {p:Int × Int} {q:Nat} (hne:S≠[]) (e:SB x y s h (.ms 2 (q+4) (S.length * 2) 0 S.length false) v7 ⟨R,M,S⟩ g):SB x y s (bset h (q+4) (.blk (shC (S++[p])) true)) (.ms 2 (q+4) ((S++[p]).length * 2) 0 (S++[p]).length false) v7 ⟨R,M,S++[p]⟩ g:=by
 have hid:idOf v7≠q+4∨v7 = .nilsl:=by
  rcases e.sep with h | h | h
  ·exact .inl (fun e=>h e.symm)
  ·cases h
  ·exact .inr h
 have hb:bget h (q+4)=some (.blk (shC S) true):=by
  rcases e.l6 with ⟨h1,_⟩ | ⟨q', _,h2,h3⟩
  ·exact absurd h1 hne
  ·simp only [V.ms.injEq] at h2
   obtain ⟨_,h2,_⟩:=h2
   rw [h2];exact h3
 have hk:Lv (bset h (q+4) (.blk (shC (S++[p])) true)) M v7:=by
  rcases hid with h1 | h1
  ·exact e.l7.set (.inr h1)
  ·subst h1
   rcases e.l7 with h2 | ⟨_,_,h2,_⟩
   ·exact .inl h2
   ·cases h2
 refine ⟨e.cl.set (b:=.blk _ true) rfl,by rw [bset_other (by omega)];exact e.b0,by rw [bset_other (by omega)];exact e.b1,by rw [bset_other (by omega)];exact e.b2,by rw [bset_other (by omega)];exact e.b3,e.hg,.inr ⟨q,by simp,rfl,bget_same (bget_lt hb)⟩,hk,?_⟩
 rcases hid with h1 | h1
 ·exact .inl (fun e=>h1 e.symm)
 ·exact .inr (.inr h1)
end Go.Dr.T
