/- Chapter 08: arguments as forged changes. -/
import Derived.Test.YthihdpbgmhnloaaGreatDoorG21
import Derived.Test.YthihdpbgmhnloaaGreatDoorG0
import Derived.Test.YthihdpbgmhnloaaGreatDoorDrE
import Derived.Lib.LaidTab
namespace Go.Dr.T
abbrev TyFg:Ty:=.agg [.int .u16,.int .u16,.int .u8,.bool]
theorem has16 {l:List V} (h:(Ty.int .u16).has l):∃ n:Nat,l=[.int .u16 (n:Nat)]∧n≤65535:=by
 simp only [Ty.has] at h
 obtain ⟨n,rfl,h3,h4⟩:=h
 simp only [IntKind.min,IntKind.max,IntKind.signed,IntKind.bits,Bool.false_eq_true,if_false] at h3 h4
 have h4' : n≤65535:=by simpa using h4
 exact ⟨n.toNat,by rw [Int.toNat_of_nonneg h3],by omega⟩
theorem has8 {l:List V} (h:(Ty.int .u8).has l):∃ y:UInt8,l=[.int .u8 (y.toNat:Nat)]:=by
 simp only [Ty.has] at h
 obtain ⟨n,rfl,h3,h4⟩:=h
 simp only [IntKind.min,IntKind.max,IntKind.signed,IntKind.bits,Bool.false_eq_true,if_false] at h3 h4
 have h4' : n≤255:=by simpa using h4
 refine ⟨UInt8.ofNat n.toNat,?_⟩
 have e:((UInt8.ofNat n.toNat).toNat:Int)=n:=by
  rw [UInt8.toNat_ofNat_of_lt' (by show n.toNat<256;omega)];omega
 rw [e]
theorem fg_val {v:V} (h:TyFg.val v):∃ (a b:Nat) (y:UInt8) (old:Bool),v = .agg [.int .u16 (a:Nat),.int .u16 (b:Nat),.int .u8 (y.toNat:Nat),.bool old]∧a≤65535∧b≤65535:=by
 simp only [TyFg,Ty.val] at h
 obtain ⟨l,rfl,h⟩:=h
 simp only [Ty.hasAll] at h
 obtain ⟨a1,b1,rfl,h1,a2,b2,rfl,h2,a3,b3,rfl,h3,a4,b4,rfl,h4,rfl⟩:=h
 obtain ⟨a,rfl,ha⟩:=has16 h1
 obtain ⟨b,rfl,hb⟩:=has16 h2
 obtain ⟨y,rfl⟩:=has8 h3
 obtain ⟨o,rfl⟩:=hasBool h4
 exact ⟨a,b,y,o,rfl,ha,hb⟩
end Go.Dr.T
namespace Go.Dr.T
theorem tab_mono {P:Program} {name:String} {kk:IntKind} {zs:List Int} {g:Nat} (hg:P.globalNamed name=some g) {w w' : World} (h:Go.RowKit.Below (g+1) w w') (t:Lib.TabIs P w name kk zs):Lib.TabIs P w' name kk zs:=by
 unfold Lib.TabIs World.var? at t ⊢
 rw [hg] at t ⊢
 simp only [Option.bind_some] at t ⊢
 rw [h.block g (Nat.lt_succ_self g)]
 exact t
theorem tab_size {P:Program} {name:String} {kk:IntKind} {zs:List Int} {g:Nat} (hg:P.globalNamed name=some g) {w:World} (t:Lib.TabIs P w name kk zs):g+1≤w.heap.size:=by
 unfold Lib.TabIs World.var? at t
 rw [hg] at t
 simp only [Option.bind_some] at t
 split at t
 ·rename_i h
  exact (Array.getElem?_eq_some_iff.1 h).1
 ·cases t
theorem tab_in {P:Program} {W:World} {name:String} {kk:IntKind} {zs:List Int} {g t e n:Nat}
  (hg:P.globalNamed name=some g) (hty:(P.globals[g]?).map (·.type)=some t) (ht:P.underlying t=some (.array n e)) (he:P.underlying e=some (.int kk)) (hce:P.cellsOf e=1) (hct:P.cellsOf t=n) :
  ∀ {l:List (String × DataW Unit)} {ps:List MemPlace},DataW.LaidVars P W l ps→(name,Lib.tabData kk zs)∈l→Lib.TabIs P W name kk zs
 | [],_,_,hm=>by cases hm
 | (n', d) :: l,ps,h,hm=>by
  obtain ⟨g', t', cs,fuel,p,q,hg', ht', hvar,hd,hr,_⟩:=h
  rcases List.mem_cons.1 hm with e0 | hm
  ·cases e0
   obtain rfl:=Option.some.inj (hg.symm.trans hg')
   obtain rfl:=Option.some.inj (hty.symm.trans ht')
   unfold Lib.TabIs
   rw [hvar, ← Lib.cells_of_tab ht he hce hct hd]
  ·exact tab_in hg hty ht he hce hct hr hm
end Go.Dr.T
