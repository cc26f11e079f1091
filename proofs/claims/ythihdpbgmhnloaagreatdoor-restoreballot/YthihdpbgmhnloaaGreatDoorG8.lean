/- Chapter 08: arguments as votes. -/
import Derived.Test.YthihdpbgmhnloaaGreatDoorG2
import Derived.Test.YthihdpbgmhnloaaGreatDoorDrE
import Derived.Test.YthihdpbgmhnloaaGreatDoorG0
import Derived.Lib.LaidTab
namespace Go.Dr.T
theorem hasInt {l:List V} (h:(Ty.int .i64).has l):∃ n:Int,l=[.int .i64 n]:=by
 simp only [Ty.has] at h
 obtain ⟨n,rfl,h1,h2⟩:=h
 exact ⟨n,rfl⟩
theorem hasStr {l:List V} (h:Ty.str.has l):∃ s,l=[.str s]:=by
 simpa only [Ty.has] using h
theorem hasBool {l:List V} (h:Ty.bool.has l):∃ b,l=[.bool b]:=by
 simpa only [Ty.has] using h
theorem int_val {v:V} (h:(Ty.int .i64).val v):∃ n,v = .int .i64 n:=by
 obtain ⟨n,e⟩:=hasInt (l:=[v]) h
 simp only [List.cons.injEq,and_true] at e
 exact ⟨n,e⟩
abbrev TyVt:Ty:=.agg [.str,.int .i64,.bool]
theorem vt_all {l:List V} (h:Ty.hasAll [.str,.int .i64,.bool] l):∃ x:Vt,l=[.str x.who,.int .i64 x.step,.bool x.yes]:=by
 simp only [Ty.hasAll] at h
 obtain ⟨a,b,rfl,ha,c,d,rfl,hc,e,f,rfl,he,rfl⟩:=h
 obtain ⟨s,rfl⟩:=hasStr ha
 obtain ⟨n,rfl⟩:=hasInt hc
 obtain ⟨y,rfl⟩:=hasBool he
 exact ⟨⟨s,n,y⟩,rfl⟩
theorem vts_cells:∀ {xs:List (List V)},(∀ x∈xs,x.length=3∧TyVt.has x)→∃ l:List Vt,xs.flatten=vtC l∧xs.length=l.length
 | [],_=>⟨[],rfl,rfl⟩
 | x :: xs,h=>by
  obtain ⟨l,h1,h2⟩:=vts_cells (xs:=xs) fun y hy=>h y (by simp [hy])
  obtain ⟨_,hx⟩:=h x (by simp)
  obtain ⟨y,rfl⟩:=vt_all (by simpa only [Ty.has] using hx)
  exact ⟨y :: l,by simp only [List.flatten_cons,h1];rfl,by simp [h2]⟩
abbrev TyVts:Ty:=.slice 3 TyVt
theorem vts_val {v:V} (h:TyVts.val v):∃ l:List Vt,v = .sl false l.length (vtC l):=by
 rw [TyVts] at h
 simp only [Ty.val] at h
 rw [Ty.has] at h
 obtain ⟨xs,e,hx⟩:=h
 simp only [List.cons.injEq,and_true] at e
 subst e
 obtain ⟨l,h1,h2⟩:=vts_cells (xs:=xs) hx
 exact ⟨l,by rw [h1,h2]⟩
theorem vts_has {l:List V} (h:TyVts.has l):∃ m:List Vt,l=[.sl false m.length (vtC m)]:=by
 rw [TyVts,Ty.has] at h
 obtain ⟨xs,e,hx⟩:=h
 obtain ⟨m,h1,h2⟩:=vts_cells (xs:=xs) hx
 exact ⟨m,by rw [e,h1,h2]⟩
theorem vt_val {v:V} (h:TyVt.val v):∃ x:Vt,v = .agg [.str x.who,.int .i64 x.step,.bool x.yes]:=by
 simp only [TyVt,Ty.val] at h
 obtain ⟨l,rfl,h⟩:=h
 obtain ⟨x,rfl⟩:=vt_all h
 exact ⟨x,rfl⟩
abbrev TyBal:Ty:=.agg [.int .i64,TyVts,.int .i64]
theorem bal_val {v:V} (h:TyBal.val v):∃ (n need:Int) (m:List Vt),v = .agg [.int .i64 n,.sl false m.length (vtC m),.int .i64 need]:=by
 simp only [TyBal,Ty.val] at h
 obtain ⟨l,rfl,h⟩:=h
 simp only [Ty.hasAll] at h
 obtain ⟨a,b,rfl,ha,c,d,rfl,hc,e,f,rfl,he,rfl⟩:=h
 obtain ⟨n,rfl⟩:=hasInt ha
 obtain ⟨m,rfl⟩:=vts_has hc
 obtain ⟨y,rfl⟩:=hasInt he
 exact ⟨n,y,m,rfl⟩
theorem u8_val {v:V} (h:(Ty.int .u8).val v):∃ n:Int,v = .int .u8 n∧0≤n∧n≤255:=by
 simp only [Ty.val,Ty.has] at h
 obtain ⟨n,e,h1,h2⟩:=h
 simp only [List.cons.injEq,and_true] at e
 exact ⟨n,e,h1,h2⟩
end Go.Dr.T
namespace Go.Dr.T
theorem tab_mono {P:Program} {name:String} {kk:IntKind} {zs:List Int} {g:Nat} (hg:P.globalNamed name=some g) {w w' : World} (h:Go.RowKit.Below (g+1) w w') (t:Lib.TabIs P w name kk zs):Lib.TabIs P w' name kk zs:=by
 unfold Lib.TabIs World.var? at t ⊢
 rw [hg] at t ⊢
 simp only [Option.bind_some] at t ⊢
 rw [h.block g (Nat.lt_succ_self g)]
 exact t
theorem tab_size {P:Program} {name:String} {kk:IntKind} {zs:List Int} {g:Nat} (hg:P.globalNamed name=some g) {w:World} (t:Lib.TabIs P w name kk zs):g+1≤w.heap.size:=by
 unfold Lib.TabIs World.var? at t
 rw [hg] at t
 simp only [Option.bind_some] at t
 split at t
 ·rename_i h
  exact (Array.getElem?_eq_some_iff.1 h).1
 ·cases t
theorem tab_in {P:Program} {W:World} {name:String} {kk:IntKind} {zs:List Int} {g t e n:Nat}
  (hg:P.globalNamed name=some g) (hty:(P.globals[g]?).map (·.type)=some t) (ht:P.underlying t=some (.array n e)) (he:P.underlying e=some (.int kk)) (hce:P.cellsOf e=1) (hct:P.cellsOf t=n) :
  ∀ {l:List (String × DataW Unit)} {ps:List MemPlace},DataW.LaidVars P W l ps→(name,Lib.tabData kk zs)∈l→Lib.TabIs P W name kk zs
 | [],_,_,hm=>by cases hm
 | (n', d) :: l,ps,h,hm=>by
  obtain ⟨g', t', cs,fuel,p,q,hg', ht', hvar,hd,hr,_⟩:=h
  rcases List.mem_cons.1 hm with e0 | hm
  ·cases e0
   obtain rfl:=Option.some.inj (hg.symm.trans hg')
   obtain rfl:=Option.some.inj (hty.symm.trans ht')
   unfold Lib.TabIs
   rw [hvar, ← Lib.cells_of_tab ht he hce hct hd]
  ·exact tab_in hg hty ht he hce hct hr hm
end Go.Dr.T
