/- Top, of chapter 08: arguments as programs. -/
import Derived.Test.YtbnmdlnkhghbpaaGreatDoorG36
import Derived.Test.YtbnmdlnkhghbpaaGreatDoorG4
import Derived.Test.YtbnmdlnkhghbpaaGreatDoorG23
import Derived.Test.YtbnmdlnkhghbpaaGreatDoorG0
import Derived.Test.YtbnmdlnkhghbpaaGreatDoorDrE
import Derived.Lib.LaidTab
namespace Go.Dr.T
abbrev TyBx:Ty:=.agg [.int .i64,.int .i64,.int .i64,.int .i64]
theorem bx_all {l:List V} (h:Ty.hasAll [.int .i64,.int .i64,.int .i64,.int .i64] l):∃ x:Bx,l=bxV x:=by
 simp only [Ty.hasAll] at h
 obtain ⟨a,b,rfl,ha,c,d,rfl,hc,e,f,rfl,he,g,i,rfl,hg,rfl⟩:=h
 obtain ⟨w,rfl⟩:=Q3e ha
 obtain ⟨h,rfl⟩:=Q3e hc
 obtain ⟨p,rfl⟩:=Q3e he
 obtain ⟨q,rfl⟩:=Q3e hg
 exact ⟨⟨w,h,p,q⟩,rfl⟩
theorem Qdk:∀ {xs:List (List V)},(∀ x∈xs,x.length=4∧TyBx.has x)→∃ l:List Bx,xs.flatten=bxC l∧xs.length=l.length
 | [],_=>⟨[],rfl,rfl⟩
 | x::xs,h=>by
  obtain ⟨l,h1,h2⟩:=Qdk (xs:=xs) fun y hy=>h y (by simp [hy])
  obtain ⟨_,hx⟩:=h x (by simp)
  obtain ⟨y,rfl⟩:=bx_all (by simpa only [Ty.has] using hx)
  exact ⟨y::l,by simp only [List.flatten_cons,h1];rfl,by simp [h2]⟩
theorem hasBxs {l:List V} (h:(Ty.slice 4 TyBx).has l):∃ p:List Bx,l=[.sl false p.length (bxC p)]:=by
 rw [Ty.has] at h
 obtain ⟨xs,rfl,hx⟩:=h
 obtain ⟨p,h1,h2⟩:=Qdk hx
 exact ⟨p,by rw [h1,h2]⟩
abbrev TySp:Ty:=.agg [.int .i64,.int .i64,.int .i64,.slice 4 TyBx,.int .i64,.int .i64,.int .i64,.slice 1 (.int .u8)]
theorem sp_all {l:List V} (h:Ty.hasAll [.int .i64,.int .i64,.int .i64,.slice 4 TyBx,.int .i64,.int .i64,.int .i64,.slice 1 (.int .u8)] l):∃ s:Sp,l=spV s:=by
 simp only [Ty.hasAll] at h
 obtain ⟨a1,b1,rfl,h1,a2,b2,rfl,h2,a3,b3,rfl,h3,a4,b4,rfl,h4,a5,b5,rfl,h5,a6,b6,rfl,h6,a7,b7,rfl,h7,a8,b8,rfl,h8,rfl⟩:=h
 obtain ⟨n1,rfl⟩:=Q3e h1
 obtain ⟨n2,rfl⟩:=Q3e h2
 obtain ⟨n3,rfl⟩:=Q3e h3
 obtain ⟨n4,rfl⟩:=hasBxs h4
 obtain ⟨n5,rfl⟩:=Q3e h5
 obtain ⟨n6,rfl⟩:=Q3e h6
 obtain ⟨n7,rfl⟩:=Q3e h7
 obtain ⟨n8,rfl⟩:=Qpu h8
 exact ⟨⟨n1,n2,n3,false,n4,n5,n6,n7,false,n8⟩,rfl⟩
theorem Qcb:∀ {xs:List (List V)},(∀ x∈xs,x.length=8∧TySp.has x)→∃ l:List Sp,xs.flatten=spC l∧xs.length=l.length
 | [],_=>⟨[],rfl,rfl⟩
 | x::xs,h=>by
  obtain ⟨l,h1,h2⟩:=Qcb (xs:=xs) fun y hy=>h y (by simp [hy])
  obtain ⟨_,hx⟩:=h x (by simp)
  obtain ⟨y,rfl⟩:=sp_all (by rw [TySp,Ty.has] at hx;exact hx)
  exact ⟨y::l,by simp only [List.flatten_cons,h1];rfl,by simp [h2]⟩
abbrev TySps:Ty:=.slice 8 TySp
end Go.Dr.T
namespace Go.Dr.T6
open Go.Dr.T
theorem Q9z:∀ {xs:List (List V)},(∀ x∈xs,x.length=1∧(Ty.int .i64).has x)→∃ l:List Int,xs.flatten=Q00 l∧xs.length=l.length
 | [],_=>⟨[],rfl,rfl⟩
 | x::xs,h=>by
  obtain ⟨l,h1,h2⟩:=Q9z (xs:=xs) fun y hy=>h y (by simp [hy])
  obtain ⟨_,hx⟩:=h x (by simp)
  obtain ⟨a,rfl⟩:=Q3e hx
  exact ⟨a::l,by simp only [List.flatten_cons,h1];rfl,by simp [h2]⟩
abbrev TyInts:Ty:=.slice 1 (.int .i64)
theorem ints_val {v:V} (h:TyInts.val v):∃ l:List Int,v=.sl false l.length (Q00 l):=by
 rw [TyInts] at h
 simp only [Ty.val] at h
 rw [Ty.has] at h
 obtain ⟨xs,e,hx⟩:=h
 simp only [List.cons.injEq,and_true] at e
 subst e
 obtain ⟨l,h1,h2⟩:=Q9z (xs:=xs) hx
 exact ⟨l,by rw [h1,h2]⟩
end Go.Dr.T6
namespace Go.Dr.T
abbrev TyRst:Ty:=.agg [.int .u8,.int .u8,TySps,.int .u8]
theorem Qsz {l:List V} (h:TySps.has l):∃ m:List Sp,l=[.sl false m.length (spC m)]:=by
 rw [TySps,Ty.has] at h
 obtain ⟨xs,e,hx⟩:=h
 obtain ⟨m,h1,h2⟩:=Qcb (xs:=xs) hx
 exact ⟨m,by rw [e,h1,h2]⟩
theorem Qu5 {l:List V} (h:(Ty.int .u8).has l):∃ b:Nat,b≤255∧l=[.int .u8 (b:Nat)]:=by
 simp only [Ty.has] at h
 obtain ⟨n,rfl,h3,h4⟩:=h
 simp only [IntKind.min,IntKind.max,IntKind.signed,IntKind.bits,Bool.false_eq_true,if_false] at h3 h4
 have h4':n≤255:=by simpa using h4
 obtain ⟨b,rfl⟩:=Int.eq_ofNat_of_zero_le (show 0≤n from h3)
 exact ⟨b,by omega,rfl⟩
theorem Qt3 {v:V} (h:TyRst.val v):∃ (wd hg px:Nat) (ss:List Sp),v=.agg [.int .u8 (wd:Nat),.int .u8 (hg:Nat),.sl false ss.length (spC ss),.int .u8 (px:Nat)]∧wd≤255∧hg≤255∧px≤255:=by
 rw [TyRst] at h
 simp only [Ty.val] at h
 obtain ⟨l,rfl,h⟩:=h
 simp only [Ty.hasAll] at h
 obtain ⟨_,_,rfl,ha,_,_,rfl,hb,_,_,rfl,hc,_,_,rfl,hd,rfl⟩:=h
 obtain ⟨wd,h1,rfl⟩:=Qu5 ha
 obtain ⟨hg,h2,rfl⟩:=Qu5 hb
 obtain ⟨ss,rfl⟩:=Qsz hc
 obtain ⟨px,h3,rfl⟩:=Qu5 hd
 exact ⟨wd,hg,px,ss,rfl,h1,h2,h3⟩
end Go.Dr.T
namespace Go.Dr.T
theorem tab_mono {P:Program} {name:String} {kk:IntKind} {zs:List Int} {g:Nat} (hg:P.globalNamed name=some g) {w w':World} (h:Go.RowKit.Below (g+1) w w') (t:Lib.TabIs P w name kk zs):Lib.TabIs P w' name kk zs:=by
 unfold Lib.TabIs World.var? at t ⊢
 rw [hg] at t ⊢
 simp only [Option.bind_some] at t ⊢
 rw [h.block g (Nat.lt_succ_self g)]
 exact t
theorem Qoq {P:Program} {name:String} {kk:IntKind} {zs:List Int} {g:Nat} (hg:P.globalNamed name=some g) {w:World} (t:Lib.TabIs P w name kk zs):g+1≤w.heap.size:=by
 unfold Lib.TabIs World.var? at t
 rw [hg] at t
 simp only [Option.bind_some] at t
 split at t
 ·rename_i h
  exact (jP.1 h).1
 ·cases t
theorem Qr9 {P:Program} {W:World} {name:String} {kk:IntKind} {zs:List Int} {g t e n:Nat}
  (hg:P.globalNamed name=some g) (hty:(P.globals[g]?).map (·.type)=some t) (ht:P.underlying t=some (.array n e)) (he:P.underlying e=some (.int kk)) (hce:P.cellsOf e=1) (hct:P.cellsOf t=n) :
  ∀ {l:List (String × DataW Unit)} {ps:List MemPlace},DataW.LaidVars P W l ps→(name,Lib.tabData kk zs)∈l→Lib.TabIs P W name kk zs
 | [],_,_,hm=>by cases hm
 | (n',d)::l,ps,h,hm=>by
  obtain ⟨g',t',cs,fuel,p,q,hg',ht',hvar,hd,hr,_⟩:=h
  rcases List.mem_cons.1 hm with e0|hm
  ·cases e0
   obtain rfl:=Option.some.inj (hg.symm.trans hg')
   obtain rfl:=Option.some.inj (hty.symm.trans ht')
   unfold Lib.TabIs
   rw [hvar,← Lib.cells_of_tab ht he hce hct hd]
  ·exact Qr9 hg hty ht he hce hct hr hm
end Go.Dr.T
