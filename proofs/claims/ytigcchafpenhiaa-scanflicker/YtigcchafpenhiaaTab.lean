/- The functions of the door are those of the program. -/
import Derived.Test.YtigcchafpenhiaaProg
import Derived.Test.YtigcchafpenhiaaR07Lit
import Derived.Test.YtigcchafpenhiaaDrD
import Derived.KernelRfl
namespace Go.Dr.T
open Go.Proofs
def OkAt (f : Nat) (fc : Fc) : Prop := ∃ fn, Try.prog.funcs[f]? = some fn ∧ cFunc Try.prog fn = some fc ∧ fn.name ≠ "runtime.NumGoroutine"
theorem ok9 : OkAt 9 c9 := ⟨Try.f9, Try.func9, by kernel_rfl, by decide +kernel⟩
theorem ok12 : OkAt 12 c12 := ⟨Try.f12, Try.func12, by kernel_rfl, by decide +kernel⟩
theorem ok13 : OkAt 13 c13 := ⟨Try.f13, Try.func13, by kernel_rfl, by decide +kernel⟩
theorem ok17 : OkAt 17 c17 := ⟨Try.f17, Try.func17, by kernel_rfl, by decide +kernel⟩
theorem ok18 : OkAt 18 c18 := ⟨Try.f18, Try.func18, by kernel_rfl, by decide +kernel⟩
theorem ok19 : OkAt 19 c19 := ⟨Try.f19, Try.func19, by kernel_rfl, by decide +kernel⟩
theorem ok20 : OkAt 20 c20 := ⟨Try.f20, Try.func20, by kernel_rfl, by decide +kernel⟩
theorem ok21 : OkAt 21 c21 := ⟨Try.f21, Try.func21, by kernel_rfl, by decide +kernel⟩
theorem ok23 : OkAt 23 c23 := ⟨Try.f23, Try.func23, by kernel_rfl, by decide +kernel⟩
theorem ok24 : OkAt 24 c24 := ⟨Try.f24, Try.func24, by kernel_rfl, by decide +kernel⟩
theorem ok26 : OkAt 26 c26 := ⟨Try.f26, Try.func26, by kernel_rfl, by decide +kernel⟩
theorem ok28 : OkAt 28 c28 := ⟨Try.f28, Try.func28, by kernel_rfl, by decide +kernel⟩
theorem ok29 : OkAt 29 c29 := ⟨Try.f29, Try.func29, by kernel_rfl, by decide +kernel⟩
theorem ok31 : OkAt 31 c31 := ⟨Try.f31, Try.func31, by kernel_rfl, by decide +kernel⟩
theorem ok32 : OkAt 32 c32 := ⟨Try.f32, Try.func32, by kernel_rfl, by decide +kernel⟩
theorem ok35 : OkAt 35 c35 := ⟨Try.f35, Try.func35, by kernel_rfl, by decide +kernel⟩
theorem ok39 : OkAt 39 c39 := ⟨Try.f39, Try.func39, by kernel_rfl, by decide +kernel⟩
theorem ok40 : OkAt 40 c40 := ⟨Try.f40, Try.func40, by kernel_rfl, by decide +kernel⟩
theorem ok41 : OkAt 41 c41 := ⟨Try.f41, Try.func41, by kernel_rfl, by decide +kernel⟩
theorem ok42 : OkAt 42 c42 := ⟨Try.f42, Try.func42, by kernel_rfl, by decide +kernel⟩
theorem ok43 : OkAt 43 c43 := ⟨Try.f43, Try.func43, by kernel_rfl, by decide +kernel⟩
theorem ok44 : OkAt 44 c44 := ⟨Try.f44, Try.func44, by kernel_rfl, by decide +kernel⟩
theorem ok45 : OkAt 45 c45 := ⟨Try.f45, Try.func45, by kernel_rfl, by decide +kernel⟩
theorem ok46 : OkAt 46 c46 := ⟨Try.f46, Try.func46, by kernel_rfl, by decide +kernel⟩
theorem ok48 : OkAt 48 c48 := ⟨Try.f48, Try.func48, by kernel_rfl, by decide +kernel⟩
theorem ok49 : OkAt 49 c49 := ⟨Try.f49, Try.func49, by kernel_rfl, by decide +kernel⟩
theorem ok55 : OkAt 55 c55 := ⟨Try.f55, Try.func55, by kernel_rfl, by decide +kernel⟩
theorem ok56 : OkAt 56 c56 := ⟨Try.f56, Try.func56, by kernel_rfl, by decide +kernel⟩
theorem ok57 : OkAt 57 c57 := ⟨Try.f57, Try.func57, by kernel_rfl, by decide +kernel⟩
theorem ok58 : OkAt 58 c58 := ⟨Try.f58, Try.func58, by kernel_rfl, by decide +kernel⟩
theorem ok59 : OkAt 59 c59 := ⟨Try.f59, Try.func59, by kernel_rfl, by decide +kernel⟩
theorem ok60 : OkAt 60 c60 := ⟨Try.f60, Try.func60, by kernel_rfl, by decide +kernel⟩
theorem ok61 : OkAt 61 c61 := ⟨Try.f61, Try.func61, by kernel_rfl, by decide +kernel⟩
theorem ok62 : OkAt 62 c62 := ⟨Try.f62, Try.func62, by kernel_rfl, by decide +kernel⟩
theorem ok63 : OkAt 63 c63 := ⟨Try.f63, Try.func63, by kernel_rfl, by decide +kernel⟩
theorem ok64 : OkAt 64 c64 := ⟨Try.f64, Try.func64, by kernel_rfl, by decide +kernel⟩
theorem ok65 : OkAt 65 c65 := ⟨Try.f65, Try.func65, by kernel_rfl, by decide +kernel⟩
theorem ok66 : OkAt 66 c66 := ⟨Try.f66, Try.func66, by kernel_rfl, by decide +kernel⟩
theorem ok67 : OkAt 67 c67 := ⟨Try.f67, Try.func67, by kernel_rfl, by decide +kernel⟩
theorem ok68 : OkAt 68 c68 := ⟨Try.f68, Try.func68, by kernel_rfl, by decide +kernel⟩
theorem ok69 : OkAt 69 c69 := ⟨Try.f69, Try.func69, by kernel_rfl, by decide +kernel⟩
theorem ok70 : OkAt 70 c70 := ⟨Try.f70, Try.func70, by kernel_rfl, by decide +kernel⟩
theorem ok71 : OkAt 71 c71 := ⟨Try.f71, Try.func71, by kernel_rfl, by decide +kernel⟩
theorem ok72 : OkAt 72 c72 := ⟨Try.f72, Try.func72, by kernel_rfl, by decide +kernel⟩
theorem ok73 : OkAt 73 c73 := ⟨Try.f73, Try.func73, by kernel_rfl, by decide +kernel⟩
theorem ok75 : OkAt 75 c75 := ⟨Try.f75, Try.func75, by kernel_rfl, by decide +kernel⟩
theorem ok76 : OkAt 76 c76 := ⟨Try.f76, Try.func76, by kernel_rfl, by decide +kernel⟩
theorem ok77 : OkAt 77 c77 := ⟨Try.f77, Try.func77, by kernel_rfl, by decide +kernel⟩
theorem ok78 : OkAt 78 c78 := ⟨Try.f78, Try.func78, by kernel_rfl, by decide +kernel⟩
theorem ok79 : OkAt 79 c79 := ⟨Try.f79, Try.func79, by kernel_rfl, by decide +kernel⟩
theorem ok80 : OkAt 80 c80 := ⟨Try.f80, Try.func80, by kernel_rfl, by decide +kernel⟩
theorem ok81 : OkAt 81 c81 := ⟨Try.f81, Try.func81, by kernel_rfl, by decide +kernel⟩
theorem ok82 : OkAt 82 c82 := ⟨Try.f82, Try.func82, by kernel_rfl, by decide +kernel⟩
theorem ok83 : OkAt 83 c83 := ⟨Try.f83, Try.func83, by kernel_rfl, by decide +kernel⟩
theorem ok89 : OkAt 89 c89 := ⟨Try.f89, Try.func89, by kernel_rfl, by decide +kernel⟩
theorem ok90 : OkAt 90 c90 := ⟨Try.f90, Try.func90, by kernel_rfl, by decide +kernel⟩
theorem ok91 : OkAt 91 c91 := ⟨Try.f91, Try.func91, by kernel_rfl, by decide +kernel⟩
theorem ok92 : OkAt 92 c92 := ⟨Try.f92, Try.func92, by kernel_rfl, by decide +kernel⟩
theorem ok93 : OkAt 93 c93 := ⟨Try.f93, Try.func93, by kernel_rfl, by decide +kernel⟩
theorem ok94 : OkAt 94 c94 := ⟨Try.f94, Try.func94, by kernel_rfl, by decide +kernel⟩
theorem ok95 : OkAt 95 c95 := ⟨Try.f95, Try.func95, by kernel_rfl, by decide +kernel⟩
theorem ok96 : OkAt 96 c96 := ⟨Try.f96, Try.func96, by kernel_rfl, by decide +kernel⟩
theorem ok100 : OkAt 100 c100 := ⟨Try.f100, Try.func100, by kernel_rfl, by decide +kernel⟩
theorem ok101 : OkAt 101 c101 := ⟨Try.f101, Try.func101, by kernel_rfl, by decide +kernel⟩
theorem ok102 : OkAt 102 c102 := ⟨Try.f102, Try.func102, by kernel_rfl, by decide +kernel⟩
set_option maxRecDepth 100000 in
theorem tableOk : TableOk Try.prog F := by
  intro f fc h
  unfold F at h
  split at h
  · cases h; exact ok9
  · cases h; exact ok12
  · cases h; exact ok13
  · cases h; exact ok17
  · cases h; exact ok18
  · cases h; exact ok19
  · cases h; exact ok20
  · cases h; exact ok21
  · cases h; exact ok23
  · cases h; exact ok24
  · cases h; exact ok26
  · cases h; exact ok28
  · cases h; exact ok29
  · cases h; exact ok31
  · cases h; exact ok32
  · cases h; exact ok35
  · cases h; exact ok39
  · cases h; exact ok40
  · cases h; exact ok41
  · cases h; exact ok42
  · cases h; exact ok43
  · cases h; exact ok44
  · cases h; exact ok45
  · cases h; exact ok46
  · cases h; exact ok48
  · cases h; exact ok49
  · cases h; exact ok55
  · cases h; exact ok56
  · cases h; exact ok57
  · cases h; exact ok58
  · cases h; exact ok59
  · cases h; exact ok60
  · cases h; exact ok61
  · cases h; exact ok62
  · cases h; exact ok63
  · cases h; exact ok64
  · cases h; exact ok65
  · cases h; exact ok66
  · cases h; exact ok67
  · cases h; exact ok68
  · cases h; exact ok69
  · cases h; exact ok70
  · cases h; exact ok71
  · cases h; exact ok72
  · cases h; exact ok73
  · cases h; exact ok75
  · cases h; exact ok76
  · cases h; exact ok77
  · cases h; exact ok78
  · cases h; exact ok79
  · cases h; exact ok80
  · cases h; exact ok81
  · cases h; exact ok82
  · cases h; exact ok83
  · cases h; exact ok89
  · cases h; exact ok90
  · cases h; exact ok91
  · cases h; exact ok92
  · cases h; exact ok93
  · cases h; exact ok94
  · cases h; exact ok95
  · cases h; exact ok96
  · cases h; exact ok100
  · cases h; exact ok101
  · cases h; exact ok102
  · cases h
end Go.Dr.T
