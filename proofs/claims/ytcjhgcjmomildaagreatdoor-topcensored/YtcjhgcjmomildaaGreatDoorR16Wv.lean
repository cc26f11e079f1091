/- TopCensored: the arguments. -/
import Derived.Test.YtcjhgcjmomildaaGreatDoorR16K7
import Derived.Test.YtcjhgcjmomildaaGreatDoorG23
namespace Go.Dr.T
theorem u64_val {v:V} (h:(Ty.int .u64).val v):∃ n,v = .int .u64 n:=by
 simp only [Ty.val,Ty.has] at h
 obtain ⟨n,h,_⟩:=h
 cases h
 exact ⟨n,rfl⟩
theorem bool_val {v:V} (h:Ty.bool.val v):∃ n,v = .bool n:=by
 simp only [Ty.val,Ty.has] at h
 obtain ⟨n,h⟩:=h
 cases h
 exact ⟨n,rfl⟩
end Go.Dr.T
