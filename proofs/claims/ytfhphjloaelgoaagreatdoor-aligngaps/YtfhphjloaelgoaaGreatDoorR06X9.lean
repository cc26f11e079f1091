/- Chapter 06: arguments as lists of numbers. -/
import Derived.Test.YtfhphjloaelgoaaGreatDoorG13
namespace Go.Dr.T
theorem ints_cells:∀ {xs:List (List V)},(∀ x∈xs,x.length=1∧(Ty.int .i64).has x)→∃ l:List Int,xs.flatten=ofInts l∧xs.length=l.length
 | [],_=>⟨[],rfl,rfl⟩
 | x :: xs,h=>by
  obtain ⟨l,h1,h2⟩:=ints_cells (xs:=xs) fun y hy=>h y (by simp [hy])
  obtain ⟨_,hx⟩:=h x (by simp)
  obtain ⟨a,rfl⟩:=hasInt hx
  exact ⟨a :: l,by simp only [List.flatten_cons,h1];rfl,by simp [h2]⟩
abbrev TyInts:Ty:=.slice 1 (.int .i64)
theorem ints_val {v:V} (h:TyInts.val v):∃ l:List Int,v = .sl false l.length (ofInts l):=by
 rw [TyInts] at h
 simp only [Ty.val] at h
 rw [Ty.has] at h
 obtain ⟨xs,e,hx⟩:=h
 simp only [List.cons.injEq,and_true] at e
 subst e
 obtain ⟨l,h1,h2⟩:=ints_cells (xs:=xs) hx
 exact ⟨l,by rw [h1,h2]⟩
end Go.Dr.T
