/- Chapter 08: arguments as programs. -/
import Derived.Test.YthihdpbgmhnloaaGreatDoorG20
import Derived.Test.YthihdpbgmhnloaaGreatDoorG6
import Derived.Test.YthihdpbgmhnloaaGreatDoorG0
import Derived.Test.YthihdpbgmhnloaaGreatDoorDrE
import Derived.Lib.LaidTab
namespace Go.Dr.T
theorem sps_cells:∀ {xs:List (List V)},(∀ x∈xs,x.length=8∧TySp.has x)→∃ l:List Sp,xs.flatten=spC l∧xs.length=l.length
 | [],_=>⟨[],rfl,rfl⟩
 | x :: xs,h=>by
  obtain ⟨l,h1,h2⟩:=sps_cells (xs:=xs) fun y hy=>h y (by simp [hy])
  obtain ⟨_,hx⟩:=h x (by simp)
  obtain ⟨y,rfl⟩:=sp_all (by rw [TySp,Ty.has] at hx;exact hx)
  exact ⟨y :: l,by simp only [List.flatten_cons,h1];rfl,by simp [h2]⟩
abbrev TySps:Ty:=.slice 8 TySp
theorem sps_val {v:V} (h:TySps.val v):∃ l:List Sp,v = .sl false l.length (spC l):=by
 rw [TySps] at h
 simp only [Ty.val] at h
 rw [Ty.has] at h
 obtain ⟨xs,e,hx⟩:=h
 simp only [List.cons.injEq,and_true] at e
 subst e
 obtain ⟨l,h1,h2⟩:=sps_cells (xs:=xs) hx
 exact ⟨l,by rw [h1,h2]⟩
end Go.Dr.T
namespace Go.Dr.T
theorem tab_mono {P:Program} {name:String} {kk:IntKind} {zs:List Int} {g:Nat} (hg:P.globalNamed name=some g) {w w' : World} (h:Go.RowKit.Below (g+1) w w') (t:Lib.TabIs P w name kk zs):Lib.TabIs P w' name kk zs:=by
 unfold Lib.TabIs World.var? at t ⊢
 rw [hg] at t ⊢
 simp only [Option.bind_some] at t ⊢
 rw [h.block g (Nat.lt_succ_self g)]
 exact t
theorem tab_size {P:Program} {name:String} {kk:IntKind} {zs:List Int} {g:Nat} (hg:P.globalNamed name=some g) {w:World} (t:Lib.TabIs P w name kk zs):g+1≤w.heap.size:=by
 unfold Lib.TabIs World.var? at t
 rw [hg] at t
 simp only [Option.bind_some] at t
 split at t
 ·rename_i h
  exact (Array.getElem?_eq_some_iff.1 h).1
 ·cases t
theorem tab_in {P:Program} {W:World} {name:String} {kk:IntKind} {zs:List Int} {g t e n:Nat}
  (hg:P.globalNamed name=some g) (hty:(P.globals[g]?).map (·.type)=some t) (ht:P.underlying t=some (.array n e)) (he:P.underlying e=some (.int kk)) (hce:P.cellsOf e=1) (hct:P.cellsOf t=n) :
  ∀ {l:List (String × DataW Unit)} {ps:List MemPlace},DataW.LaidVars P W l ps→(name,Lib.tabData kk zs)∈l→Lib.TabIs P W name kk zs
 | [],_,_,hm=>by cases hm
 | (n', d) :: l,ps,h,hm=>by
  obtain ⟨g', t', cs,fuel,p,q,hg', ht', hvar,hd,hr,_⟩:=h
  rcases List.mem_cons.1 hm with e0 | hm
  ·cases e0
   obtain rfl:=Option.some.inj (hg.symm.trans hg')
   obtain rfl:=Option.some.inj (hty.symm.trans ht')
   unfold Lib.TabIs
   rw [hvar, ← Lib.cells_of_tab ht he hce hct hd]
  ·exact tab_in hg hty ht he hce hct hr hm
end Go.Dr.T
