/- The functions of the door are those of the program. -/
import Derived.Test.YtokbdaiamhibeaaProg
import Derived.Test.YtokbdaiamhibeaaR09Lit
import Derived.Test.YtokbdaiamhibeaaDrD
import Derived.KernelRfl
namespace Go.Dr.T
open Go.Proofs
def OkAt (f : Nat) (fc : Fc) : Prop := ∃ fn, Try.prog.funcs[f]? = some fn ∧ cFunc Try.prog fn = some fc ∧ fn.name ≠ "runtime.NumGoroutine"
theorem ok12 : OkAt 12 c12 := ⟨Try.f12, Try.func12, by kernel_rfl, by decide +kernel⟩
theorem ok13 : OkAt 13 c13 := ⟨Try.f13, Try.func13, by kernel_rfl, by decide +kernel⟩
theorem ok14 : OkAt 14 c14 := ⟨Try.f14, Try.func14, by kernel_rfl, by decide +kernel⟩
theorem ok17 : OkAt 17 c17 := ⟨Try.f17, Try.func17, by kernel_rfl, by decide +kernel⟩
theorem ok19 : OkAt 19 c19 := ⟨Try.f19, Try.func19, by kernel_rfl, by decide +kernel⟩
theorem ok20 : OkAt 20 c20 := ⟨Try.f20, Try.func20, by kernel_rfl, by decide +kernel⟩
theorem ok21 : OkAt 21 c21 := ⟨Try.f21, Try.func21, by kernel_rfl, by decide +kernel⟩
theorem ok23 : OkAt 23 c23 := ⟨Try.f23, Try.func23, by kernel_rfl, by decide +kernel⟩
theorem ok24 : OkAt 24 c24 := ⟨Try.f24, Try.func24, by kernel_rfl, by decide +kernel⟩
theorem ok29 : OkAt 29 c29 := ⟨Try.f29, Try.func29, by kernel_rfl, by decide +kernel⟩
theorem ok33 : OkAt 33 c33 := ⟨Try.f33, Try.func33, by kernel_rfl, by decide +kernel⟩
theorem ok39 : OkAt 39 c39 := ⟨Try.f39, Try.func39, by kernel_rfl, by decide +kernel⟩
theorem ok40 : OkAt 40 c40 := ⟨Try.f40, Try.func40, by kernel_rfl, by decide +kernel⟩
theorem ok41 : OkAt 41 c41 := ⟨Try.f41, Try.func41, by kernel_rfl, by decide +kernel⟩
theorem ok42 : OkAt 42 c42 := ⟨Try.f42, Try.func42, by kernel_rfl, by decide +kernel⟩
theorem ok43 : OkAt 43 c43 := ⟨Try.f43, Try.func43, by kernel_rfl, by decide +kernel⟩
theorem ok44 : OkAt 44 c44 := ⟨Try.f44, Try.func44, by kernel_rfl, by decide +kernel⟩
theorem ok45 : OkAt 45 c45 := ⟨Try.f45, Try.func45, by kernel_rfl, by decide +kernel⟩
theorem ok46 : OkAt 46 c46 := ⟨Try.f46, Try.func46, by kernel_rfl, by decide +kernel⟩
theorem ok47 : OkAt 47 c47 := ⟨Try.f47, Try.func47, by kernel_rfl, by decide +kernel⟩
theorem ok48 : OkAt 48 c48 := ⟨Try.f48, Try.func48, by kernel_rfl, by decide +kernel⟩
theorem ok49 : OkAt 49 c49 := ⟨Try.f49, Try.func49, by kernel_rfl, by decide +kernel⟩
theorem ok50 : OkAt 50 c50 := ⟨Try.f50, Try.func50, by kernel_rfl, by decide +kernel⟩
theorem ok51 : OkAt 51 c51 := ⟨Try.f51, Try.func51, by kernel_rfl, by decide +kernel⟩
theorem ok52 : OkAt 52 c52 := ⟨Try.f52, Try.func52, by kernel_rfl, by decide +kernel⟩
theorem ok53 : OkAt 53 c53 := ⟨Try.f53, Try.func53, by kernel_rfl, by decide +kernel⟩
theorem ok54 : OkAt 54 c54 := ⟨Try.f54, Try.func54, by kernel_rfl, by decide +kernel⟩
theorem ok55 : OkAt 55 c55 := ⟨Try.f55, Try.func55, by kernel_rfl, by decide +kernel⟩
theorem ok56 : OkAt 56 c56 := ⟨Try.f56, Try.func56, by kernel_rfl, by decide +kernel⟩
theorem ok57 : OkAt 57 c57 := ⟨Try.f57, Try.func57, by kernel_rfl, by decide +kernel⟩
theorem ok58 : OkAt 58 c58 := ⟨Try.f58, Try.func58, by kernel_rfl, by decide +kernel⟩
theorem ok59 : OkAt 59 c59 := ⟨Try.f59, Try.func59, by kernel_rfl, by decide +kernel⟩
theorem ok60 : OkAt 60 c60 := ⟨Try.f60, Try.func60, by kernel_rfl, by decide +kernel⟩
theorem ok61 : OkAt 61 c61 := ⟨Try.f61, Try.func61, by kernel_rfl, by decide +kernel⟩
theorem ok63 : OkAt 63 c63 := ⟨Try.f63, Try.func63, by kernel_rfl, by decide +kernel⟩
theorem ok64 : OkAt 64 c64 := ⟨Try.f64, Try.func64, by kernel_rfl, by decide +kernel⟩
theorem ok67 : OkAt 67 c67 := ⟨Try.f67, Try.func67, by kernel_rfl, by decide +kernel⟩
theorem ok70 : OkAt 70 c70 := ⟨Try.f70, Try.func70, by kernel_rfl, by decide +kernel⟩
theorem ok71 : OkAt 71 c71 := ⟨Try.f71, Try.func71, by kernel_rfl, by decide +kernel⟩
theorem ok73 : OkAt 73 c73 := ⟨Try.f73, Try.func73, by kernel_rfl, by decide +kernel⟩
theorem ok74 : OkAt 74 c74 := ⟨Try.f74, Try.func74, by kernel_rfl, by decide +kernel⟩
theorem ok75 : OkAt 75 c75 := ⟨Try.f75, Try.func75, by kernel_rfl, by decide +kernel⟩
theorem ok76 : OkAt 76 c76 := ⟨Try.f76, Try.func76, by kernel_rfl, by decide +kernel⟩
theorem ok77 : OkAt 77 c77 := ⟨Try.f77, Try.func77, by kernel_rfl, by decide +kernel⟩
theorem ok78 : OkAt 78 c78 := ⟨Try.f78, Try.func78, by kernel_rfl, by decide +kernel⟩
theorem ok79 : OkAt 79 c79 := ⟨Try.f79, Try.func79, by kernel_rfl, by decide +kernel⟩
theorem ok80 : OkAt 80 c80 := ⟨Try.f80, Try.func80, by kernel_rfl, by decide +kernel⟩
theorem ok81 : OkAt 81 c81 := ⟨Try.f81, Try.func81, by kernel_rfl, by decide +kernel⟩
theorem ok82 : OkAt 82 c82 := ⟨Try.f82, Try.func82, by kernel_rfl, by decide +kernel⟩
theorem ok83 : OkAt 83 c83 := ⟨Try.f83, Try.func83, by kernel_rfl, by decide +kernel⟩
theorem ok84 : OkAt 84 c84 := ⟨Try.f84, Try.func84, by kernel_rfl, by decide +kernel⟩
theorem ok85 : OkAt 85 c85 := ⟨Try.f85, Try.func85, by kernel_rfl, by decide +kernel⟩
theorem ok86 : OkAt 86 c86 := ⟨Try.f86, Try.func86, by kernel_rfl, by decide +kernel⟩
theorem ok87 : OkAt 87 c87 := ⟨Try.f87, Try.func87, by kernel_rfl, by decide +kernel⟩
theorem ok88 : OkAt 88 c88 := ⟨Try.f88, Try.func88, by kernel_rfl, by decide +kernel⟩
theorem ok89 : OkAt 89 c89 := ⟨Try.f89, Try.func89, by kernel_rfl, by decide +kernel⟩
theorem ok92 : OkAt 92 c92 := ⟨Try.f92, Try.func92, by kernel_rfl, by decide +kernel⟩
theorem ok93 : OkAt 93 c93 := ⟨Try.f93, Try.func93, by kernel_rfl, by decide +kernel⟩
theorem ok94 : OkAt 94 c94 := ⟨Try.f94, Try.func94, by kernel_rfl, by decide +kernel⟩
theorem ok96 : OkAt 96 c96 := ⟨Try.f96, Try.func96, by kernel_rfl, by decide +kernel⟩
theorem ok97 : OkAt 97 c97 := ⟨Try.f97, Try.func97, by kernel_rfl, by decide +kernel⟩
theorem ok99 : OkAt 99 c99 := ⟨Try.f99, Try.func99, by kernel_rfl, by decide +kernel⟩
theorem ok100 : OkAt 100 c100 := ⟨Try.f100, Try.func100, by kernel_rfl, by decide +kernel⟩
theorem ok101 : OkAt 101 c101 := ⟨Try.f101, Try.func101, by kernel_rfl, by decide +kernel⟩
theorem ok102 : OkAt 102 c102 := ⟨Try.f102, Try.func102, by kernel_rfl, by decide +kernel⟩
theorem ok103 : OkAt 103 c103 := ⟨Try.f103, Try.func103, by kernel_rfl, by decide +kernel⟩
theorem ok119 : OkAt 119 c119 := ⟨Try.f119, Try.func119, by kernel_rfl, by decide +kernel⟩
theorem ok120 : OkAt 120 c120 := ⟨Try.f120, Try.func120, by kernel_rfl, by decide +kernel⟩
set_option maxRecDepth 100000 in
theorem tableOk : TableOk Try.prog F := by
  intro f fc h
  unfold F at h
  split at h
  · cases h; exact ok12
  · cases h; exact ok13
  · cases h; exact ok14
  · cases h; exact ok17
  · cases h; exact ok19
  · cases h; exact ok20
  · cases h; exact ok21
  · cases h; exact ok23
  · cases h; exact ok24
  · cases h; exact ok29
  · cases h; exact ok33
  · cases h; exact ok39
  · cases h; exact ok40
  · cases h; exact ok41
  · cases h; exact ok42
  · cases h; exact ok43
  · cases h; exact ok44
  · cases h; exact ok45
  · cases h; exact ok46
  · cases h; exact ok47
  · cases h; exact ok48
  · cases h; exact ok49
  · cases h; exact ok50
  · cases h; exact ok51
  · cases h; exact ok52
  · cases h; exact ok53
  · cases h; exact ok54
  · cases h; exact ok55
  · cases h; exact ok56
  · cases h; exact ok57
  · cases h; exact ok58
  · cases h; exact ok59
  · cases h; exact ok60
  · cases h; exact ok61
  · cases h; exact ok63
  · cases h; exact ok64
  · cases h; exact ok67
  · cases h; exact ok70
  · cases h; exact ok71
  · cases h; exact ok73
  · cases h; exact ok74
  · cases h; exact ok75
  · cases h; exact ok76
  · cases h; exact ok77
  · cases h; exact ok78
  · cases h; exact ok79
  · cases h; exact ok80
  · cases h; exact ok81
  · cases h; exact ok82
  · cases h; exact ok83
  · cases h; exact ok84
  · cases h; exact ok85
  · cases h; exact ok86
  · cases h; exact ok87
  · cases h; exact ok88
  · cases h; exact ok89
  · cases h; exact ok92
  · cases h; exact ok93
  · cases h; exact ok94
  · cases h; exact ok96
  · cases h; exact ok97
  · cases h; exact ok99
  · cases h; exact ok100
  · cases h; exact ok101
  · cases h; exact ok102
  · cases h; exact ok103
  · cases h; exact ok119
  · cases h; exact ok120
  · cases h
end Go.Dr.T
