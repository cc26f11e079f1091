/- TopCensored: the cuts lead from shot to shot and back, plain. -/
import Derived.Test.YtcjhgcjmomildaaGreatDoorG9
import Derived.Test.YtcjhgcjmomildaaGreatDoorR16A8
import Derived.Test.YtcjhgcjmomildaaGreatDoorG10
import Derived.Test.YtcjhgcjmomildaaGreatDoorG7
namespace Go.Dr.T
theorem shS_ok {l:List (Int × Int)} {b:Int} (h:∀ p∈l,1≤p.2∧p.2≤200000):ShtOk (shS b l l.length):=by
 intro s hs
 unfold shS at hs
 rw [List.mem_map] at hs
 obtain ⟨i,hi,e⟩:=hs
 have hi:=List.mem_range.1 hi
 have:=h _ (List.getElem_mem hi)
 rw [List.getD_eq_getElem?_getD,List.getElem?_eq_getElem hi] at e
 subst e
 exact this.1
theorem outB_in {n lo hi:Int} (h1:lo≤n) (h2:n≤hi):outB n lo hi=false:=by
 simp only [outB,Bool.or_eq_false_iff,decide_eq_false_iff_not]
 omega
theorem frS_kT {l:List (Int × Int)} {b:Int}:∀ {k:Nat},frS (kT b l k)=leT b l k
 | 0=>rfl
 | k+1=>by
  cases h:bitB b k with
  | true=>rw [kT_t h,leT_t h,frS_append,frS_kT];simp [frS]
  | false=>rw [kT_f h,leT_f h,frS_kT]
section
variable {l:List (Int × Int)} {b:Int} {back:Bool}
theorem cens_mdF (h:∀ p∈l,1≤p.2∧p.2≤200000):mdF (atT b l l.length) (cuT b back l l.length)=(leT b l l.length,0):=by
 have hs:=shS_ok (b:=b) h
 unfold atT leT cuT
 cases back with
 | false =>
  have:=fwd_made (left:=0) hs (Int.le_refl _)
  rwa [Int.zero_add,Int.zero_add] at this
 | true =>
  have:=bwd_made (at' := 0) hs (Int.le_refl _)
  rwa [Int.zero_add,Int.zero_add] at this
theorem cens_made (h:∀ p∈l,1≤p.2∧p.2≤200000) (h1:1≤atT b l l.length) (h2:atT b l l.length≤200000) (h3:(cuT b back l l.length).length≤30):madeP (atT b l l.length) (cuT b back l l.length)=(leT b l l.length,0):=by
 unfold madeP
 rw [outB_in h1 h2,if_neg (by decide),if_neg (by omega),cens_mdF h]
theorem cens_after (h:∀ p∈l,1≤p.2∧p.2≤200000) (h1:1≤atT b l l.length) (h2:atT b l l.length≤200000) (h3:(cuT b back l l.length).length≤30) {p:Int × Int} (hp:p∈keptL 0 0 (shS b l l.length)):afV (atT b l l.length) (cuT b back l l.length) p.1=(p.2,0):=by
 have hs:=shS_ok (b:=b) h
 have hg:=keptL_ge hs p hp
 have hlt:p.1<atT b l l.length:=by
  show p.1<sumA _
  omega
 unfold afV
 rw [cens_made h h1 h2 h3,if_neg (fun e=>e rfl),outB_in (by omega) (by omega),if_neg (by decide)]
 have e:afF p.1 (cuT b back l l.length)=some p.2:=by
  unfold cuT
  cases back with
  | false =>
   have:=fwd_after hs p hp
   rwa [Int.sub_zero,Int.zero_add] at this
  | true =>
   have:=bwd_after hs p hp
   rwa [Int.sub_zero,Int.zero_add] at this
 rw [e]
theorem cens_before (h:∀ p∈l,1≤p.2∧p.2≤200000) (h1:1≤atT b l l.length) (h2:atT b l l.length≤200000) (h3:(cuT b back l l.length).length≤30) {p:Int × Int} (hp:p∈keptL 0 0 (shS b l l.length)):beV (atT b l l.length) (cuT b back l l.length) p.2=(p.1,0):=by
 have hs:=shS_ok (b:=b) h
 have hg:=keptL_ge hs p hp
 have hlt:p.2<leT b l l.length:=by
  show p.2<sumK _
  omega
 unfold beV
 rw [cens_made h h1 h2 h3,if_neg (fun e=>e rfl)]
 dsimp only
 rw [outB_in (by omega) (by omega),if_neg (by decide)]
 have e:beR p.2 (cuT b back l l.length)=p.1:=by
  unfold cuT
  cases back with
  | false =>
   have:=fwd_before hs p hp
   rwa [Int.sub_zero,Int.zero_add] at this
  | true =>
   have:=bwd_before hs p hp
   rwa [Int.sub_zero,Int.zero_add] at this
 rw [e]
theorem cens_end (h:∀ p∈l,1≤p.2∧p.2≤200000) (h1:1≤atT b l l.length) (h2:atT b l l.length≤200000) (h3:(cuT b back l l.length).length≤30):beV (atT b l l.length) (cuT b back l l.length) (leT b l l.length)=(0,7):=by
 unfold beV
 rw [cens_made h h1 h2 h3,if_neg (fun e=>e rfl)]
 dsimp only
 rw [if_pos (by simp only [outB,Bool.or_eq_true,decide_eq_true_eq];omega)]
theorem kept_mem {j:Nat} (hj:j<(ksT b l.length).length):∃ p∈keptL 0 0 (shS b l l.length),(bT b l l.length)[j]?=some p.1∧(aT b l l.length)[j]?=some p.2:=by
 have hl:j<(keptL 0 0 (shS b l l.length)).length:=by
  have:=(bT_len (b:=b) (l:=l) (k:=l.length)).1
  unfold bT at this
  rw [List.length_map] at this
  omega
 refine ⟨_,List.getElem_mem hl,?_,?_⟩
 ·unfold bT;rw [List.getElem?_map,List.getElem?_eq_getElem hl];rfl
 ·unfold aT;rw [List.getElem?_map,List.getElem?_eq_getElem hl];rfl
end
theorem cens_best {x:El} {b:Int} (he:x.e=0) (hp:∀ p∈x.l,0<p.1):bestV2 x (ptE x b) 0 = .tup [.int .i64 (leT b x.l x.l.length),.int .i64 1,.int .i64 0]∧allV x (ptE x b) 0 2 = .tup [vLL [wantL (ksT b x.l.length) 0],.int .i64 0]:=by
 have hy:=pt_e (b:=b) he hp
 have ho:openE x (ptE x b) 0=0:=by rw [openE_3 he hy];rfl
 obtain ⟨ha,hb,hs⟩:=open_good ho
 have hPt:=pt_is (b:=b) he hp
 obtain ⟨a1,a2,a3⟩:=cut_als hPt ha hb hs.1 _ 0 0 rfl ⟨Nat.zero_le _,fun _=>Nat.zero_le _⟩ (Nat.zero_le _)
 rw [List.drop_zero] at a3
 have a4:cAll (shA x.l (ptE x b).l 0) (openT x (ptE x b) 0) x.l.length (ptE x b).l.length (x.l.length+1) zT 0 0=1:=a2
 have a5:frS (ptE x b).l=leT b x.l x.l.length:=frS_kT
 constructor
 ·unfold bestV2
  rw [if_neg (fun h=>h ho),a3,a4,a5]
 ·unfold allV
  have hm2:outB 2 1 200=false:=rfl
  rw [if_neg (fun h=>h ho),hm2,if_neg (by decide)]
  have hall:allL x (ptE x b) 0 2=[wantL (ksT b x.l.length) 0]:=by unfold allL;rw [a1];rfl
  rw [hall]
end Go.Dr.T
namespace Go.Dr.T
def zC:List V:=List.replicate 1681 (.int .i64 0)
def c8z:Fc:=⟨87,3,[.tmp 6,.tmp 7,.tmp 8],.seq (.reg false 2 [⟨some 3,none,0,.bx 0 (.t 0)⟩,⟨some 4,none,0,.bx 1 (.t 1)⟩,⟨some 6,none,0,.mv (.c (.int .i64 0))⟩,⟨some 7,none,4,.mv (.c (.int .i64 0))⟩,⟨some 8,none,12,.mv (.c (.int .i64 0))⟩]) (.seq (.reg false 0 [⟨some 15,none,0,.ld true 3 (.t 3)⟩,⟨some 16,none,0,.ld true 3 (.t 4)⟩,⟨some 17,none,0,.mv (.t 2)⟩,⟨some 18,none,7,.call (.c (.fn 25 [])) [.t 15,.t 16,.t 17]⟩,⟨some 14,none,15,.mv (.t 18)⟩,⟨some 19,none,31,.ex (.t 14) 0⟩,⟨some 20,none,31,.ex (.t 14) 1⟩,⟨some 9,none,63,.mv (.t 19)⟩,⟨some 8,none,255,.mv (.t 20)⟩]) (.seq (.seq (.reg false 0 [⟨some 21,none,0,.mv (.t 8)⟩,⟨some 22,none,1,.bo .neq (.t 21) (.c (.int .i64 0))⟩]) (.cond (.t 22) (.seq (.reg false 0 [⟨some 23,none,0,.mv (.t 8)⟩,⟨some 6,none,0,.mv (.c (.int .i64 0))⟩,⟨some 7,none,2,.mv (.c (.int .i64 0))⟩,⟨some 8,none,7,.mv (.t 23)⟩]) .ret) .skip)) (.seq (.reg false 1 [⟨some 10,none,0,.al 0 zC⟩]) (.seq (.seq (.reg false 1 [⟨some 24,none,0,.fa 1 (.t 3)⟩,⟨some 25,none,1,.ld false 1 (.t 24)⟩,⟨some 26,none,3,.len false (.t 25)⟩,⟨some 11,none,0,.al 0 [.int .i64 0]⟩,⟨none,none,15,.st 1 (.t 11) (.t 26)⟩]) (.block 0 (.loop (.seq (.seq (.reg false 0 [⟨some 27,none,0,.ld false 1 (.t 11)⟩,⟨some 28,none,1,.bo .geq (.t 27) (.c (.int .i64 0))⟩]) (.cond (.t 28) .skip (.exit 0))) (.seq (.block 1 (.seq (.reg false 1 [⟨some 31,none,0,.fa 1 (.t 4)⟩,⟨some 32,none,1,.ld false 1 (.t 31)⟩,⟨some 33,none,3,.len false (.t 32)⟩,⟨some 12,none,0,.al 0 [.int .i64 0]⟩,⟨none,none,15,.st 1 (.t 12) (.t 33)⟩]) (.block 2 (.loop (.seq (.seq (.reg false 0 [⟨some 34,none,0,.ld false 1 (.t 12)⟩,⟨some 35,none,1,.bo .geq (.t 34) (.c (.int .i64 0))⟩]) (.cond (.t 35) .skip (.exit 2))) (.seq (.block 3 (.seq (.seq (.reg true 0 [⟨some 38,none,0,.mv (.t 9)⟩,⟨some 39,none,0,.ld false 1 (.t 11)⟩,⟨some 40,none,0,.ld false 1 (.t 12)⟩,⟨some 41,none,1,.nc (.t 38)⟩,⟨some 42,none,9,.fa 3 (.t 41)⟩,⟨some 43,none,27,.iaa 41 41 (.t 42) (.t 39)⟩,⟨some 44,none,63,.iaa 1 41 (.t 43) (.t 40)⟩,⟨some 45,none,127,.ld false 1 (.t 44)⟩,⟨some 46,none,255,.bo .eql (.t 45) (.c (.int .i64 0))⟩]) (.cond (.t 46) (.seq (.reg true 0 [⟨some 47,none,0,.ld false 1 (.t 11)⟩,⟨some 48,none,0,.ld false 1 (.t 12)⟩,⟨some 49,none,1,.iaa 41 41 (.t 10) (.t 47)⟩,⟨some 50,none,7,.iaa 1 41 (.t 49) (.t 48)⟩,⟨none,none,15,.st 1 (.t 50) (.c (.int .i64 1))⟩]) (.exit 3)) .skip)) (.seq (.reg false 0 [⟨some 51,none,0,.mv (.t 9)⟩,⟨some 52,none,0,.ld false 1 (.t 11)⟩,⟨some 53,none,0,.ld false 1 (.t 12)⟩,⟨some 54,none,7,.call (.c (.fn 26 [])) [.t 51,.t 52,.t 53]⟩]) (.block 4 (.rf (.t 54) [55] (.reg false 1 [⟨some 13,none,0,.al 0 [.int .i64 0,.int .i64 0]⟩,⟨none,none,1,.st 2 (.t 13) (.t 55)⟩]) (.block 5 (.reg true 0 [⟨some 56,none,0,.ld false 1 (.t 11)⟩,⟨some 57,none,0,.ld false 1 (.t 12)⟩,⟨some 58,none,0,.ld false 1 (.t 11)⟩,⟨some 59,none,0,.ld false 1 (.t 12)⟩,⟨some 60,none,4,.iaa 41 41 (.t 10) (.t 58)⟩,⟨some 61,none,28,.iaa 1 41 (.t 60) (.t 59)⟩,⟨some 62,none,60,.ld false 1 (.t 61)⟩,⟨some 63,none,0,.fa 0 (.t 13)⟩,⟨some 64,none,128,.ld false 1 (.t 63)⟩,⟨some 65,none,384,.bo .add (.t 64) (.c (.int .i64 1))⟩,⟨some 66,none,0,.fa 1 (.t 13)⟩,⟨some 67,none,1024,.ld false 1 (.t 66)⟩,⟨some 68,none,3072,.bo .add (.t 67) (.c (.int .i64 1))⟩,⟨some 69,none,896,.iaa 41 41 (.t 10) (.t 65)⟩,⟨some 70,none,16256,.iaa 1 41 (.t 69) (.t 68)⟩,⟨some 71,none,32640,.ld false 1 (.t 70)⟩,⟨some 72,none,65532,.bo .add (.t 62) (.t 71)⟩,⟨some 73,none,131068,.mm false [.c (.int .i64 1000000),.t 72]⟩,⟨some 74,none,1,.iaa 41 41 (.t 10) (.t 56)⟩,⟨some 75,none,524287,.iaa 1 41 (.t 74) (.t 57)⟩,⟨none,none,1048575,.st 1 (.t 75) (.t 73)⟩]))))))) (.seq (.seq (.reg false 0 [⟨some 76,none,0,.ld false 1 (.t 12)⟩]) (.reg false 1 [⟨some 12,none,0,.al 0 [.int .i64 0]⟩,⟨none,none,1,.st 1 (.t 12) (.t 76)⟩])) (.reg false 0 [⟨some 36,none,0,.ld false 1 (.t 12)⟩,⟨some 37,none,1,.bo .sub (.t 36) (.c (.int .i64 1))⟩,⟨none,none,3,.st 1 (.t 12) (.t 37)⟩])))))))) (.seq (.seq (.reg false 0 [⟨some 77,none,0,.ld false 1 (.t 11)⟩]) (.reg false 1 [⟨some 11,none,0,.al 0 [.int .i64 0]⟩,⟨none,none,1,.st 1 (.t 11) (.t 77)⟩])) (.reg false 0 [⟨some 29,none,0,.ld false 1 (.t 11)⟩,⟨some 30,none,1,.bo .sub (.t 29) (.c (.int .i64 1))⟩,⟨none,none,3,.st 1 (.t 11) (.t 30)⟩]))))))) (.seq (.reg true 0 [⟨some 78,none,0,.mv (.t 9)⟩,⟨some 79,none,1,.nc (.t 78)⟩,⟨some 80,none,3,.fa 3 (.t 79)⟩,⟨some 81,none,7,.iaa 41 41 (.t 80) (.c (.int .i64 0))⟩,⟨some 82,none,15,.iaa 1 41 (.t 81) (.c (.int .i64 0))⟩,⟨some 83,none,31,.ld false 1 (.t 82)⟩,⟨some 84,none,0,.iaa 41 41 (.t 10) (.c (.int .i64 0))⟩,⟨some 85,none,64,.iaa 1 41 (.t 84) (.c (.int .i64 0))⟩,⟨some 86,none,192,.ld false 1 (.t 85)⟩,⟨some 6,none,63,.mv (.t 83)⟩,⟨some 7,none,1023,.mv (.t 86)⟩,⟨some 8,none,2047,.mv (.c (.int .i64 0))⟩]) .ret))))),none⟩
theorem c8_eq:FB 8=some c8z:=rfl
theorem cells_ints:∀ {l:List Int} {n:Nat},n<l.length→∃ y,l[n]?=some y∧cellAt (ofInts l) n=some (.int .i64 y)
 | x :: l,0,_=>⟨x,rfl,rfl⟩
 | x :: l,n+1,h=>by
  obtain ⟨y,h1,h2⟩:=cells_ints (l:=l) (n:=n) (by simpa using h)
  exact ⟨y,by simpa using h1,by simpa [ofInts,cellAt] using h2⟩
theorem over_ints:∀ {M:List Int} {i:Nat} {y:Int},over (ofInts M) i [.int .i64 y]=ofInts (M.set i y)
 | [],i,y=>by cases i <;> rfl
 | m :: M,0,y=>by cases M <;> rfl
 | m :: M,i+1,y=>by
  have:=over_ints (M:=M) (i:=i) (y:=y)
  simp only [ofInts,List.map_cons,List.set_cons_succ,over] at this ⊢
  rw [this]
@[irreducible] def tC (f:Nat→Nat→Int):List V:=ofInts (tb f)
theorem tC_eq (f:Nat→Nat→Int):tC f=ofInts (tb f):=by unfold tC;rfl
theorem zC_eq:zC=tC zT:=by rw [tC_eq,tb_zero];rfl
theorem zC_len:zC.length=1681:=List.length_replicate
attribute [irreducible] zC
theorem tC_len {f:Nat→Nat→Int}:(tC f).length=1681:=by rw [tC_eq];simp [ofInts,tb_len]
theorem tC_get {f:Nat→Nat→Int} {i j:Nat} (hi:i<41) (hj:j<41):cellAt (tC f) (0+i * 41+j * 1)=some (.int .i64 (f i j)):=by
 rw [tC_eq,show 0+i * 41+j * 1=i * 41+j by omega]
 obtain ⟨y,h1,h2⟩:=cells_ints (l:=tb f) (n:=i * 41+j) (by rw [tb_len];omega)
 rw [tb_get hi hj] at h1
 cases h1;exact h2
theorem tC_set {f:Nat→Nat→Int} {i j:Nat} {v:Int} (hi:i<41) (hj:j<41):over (tC f) (0+i * 41+j * 1) [.int .i64 v]=tC (upT f i j v):=by
 rw [tC_eq,tC_eq,show 0+i * 41+j * 1=i * 41+j by omega,over_ints,tb_set hi hj]
theorem tC_blo {f:Nat→Nat→Int} (n:Nat):blos n (tC f)=true:=by rw [tC_eq];exact blos_int1 _ _
theorem tC_blk {T:Nat→Nat→Int} {n:Nat}:(B.blk (tC T) false).blo n=true:=tC_blo n
end Go.Dr.T
