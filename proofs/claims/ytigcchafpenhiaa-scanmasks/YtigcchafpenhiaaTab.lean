/- The functions of the door are those of the program. -/
import Derived.Test.YtigcchafpenhiaaProg
import Derived.Test.YtigcchafpenhiaaR07Lit
import Derived.Test.YtigcchafpenhiaaDrD
import Derived.KernelRfl
namespace Go.Dr.T
open Go.Proofs
def OkAt (f : Nat) (fc : Fc) : Prop := ∃ fn, Try.prog.funcs[f]? = some fn ∧ cFunc Try.prog fn = some fc ∧ fn.name ≠ "runtime.NumGoroutine"
theorem ok10 : OkAt 10 c10 := ⟨Try.f10, Try.func10, by kernel_rfl, by decide +kernel⟩
theorem ok11 : OkAt 11 c11 := ⟨Try.f11, Try.func11, by kernel_rfl, by decide +kernel⟩
theorem ok17 : OkAt 17 c17 := ⟨Try.f17, Try.func17, by kernel_rfl, by decide +kernel⟩
theorem ok18 : OkAt 18 c18 := ⟨Try.f18, Try.func18, by kernel_rfl, by decide +kernel⟩
theorem ok19 : OkAt 19 c19 := ⟨Try.f19, Try.func19, by kernel_rfl, by decide +kernel⟩
theorem ok20 : OkAt 20 c20 := ⟨Try.f20, Try.func20, by kernel_rfl, by decide +kernel⟩
theorem ok21 : OkAt 21 c21 := ⟨Try.f21, Try.func21, by kernel_rfl, by decide +kernel⟩
theorem ok23 : OkAt 23 c23 := ⟨Try.f23, Try.func23, by kernel_rfl, by decide +kernel⟩
theorem ok24 : OkAt 24 c24 := ⟨Try.f24, Try.func24, by kernel_rfl, by decide +kernel⟩
theorem ok26 : OkAt 26 c26 := ⟨Try.f26, Try.func26, by kernel_rfl, by decide +kernel⟩
theorem ok29 : OkAt 29 c29 := ⟨Try.f29, Try.func29, by kernel_rfl, by decide +kernel⟩
theorem ok32 : OkAt 32 c32 := ⟨Try.f32, Try.func32, by kernel_rfl, by decide +kernel⟩
theorem ok33 : OkAt 33 c33 := ⟨Try.f33, Try.func33, by kernel_rfl, by decide +kernel⟩
theorem ok34 : OkAt 34 c34 := ⟨Try.f34, Try.func34, by kernel_rfl, by decide +kernel⟩
theorem ok35 : OkAt 35 c35 := ⟨Try.f35, Try.func35, by kernel_rfl, by decide +kernel⟩
theorem ok36 : OkAt 36 c36 := ⟨Try.f36, Try.func36, by kernel_rfl, by decide +kernel⟩
theorem ok37 : OkAt 37 c37 := ⟨Try.f37, Try.func37, by kernel_rfl, by decide +kernel⟩
theorem ok38 : OkAt 38 c38 := ⟨Try.f38, Try.func38, by kernel_rfl, by decide +kernel⟩
theorem ok43 : OkAt 43 c43 := ⟨Try.f43, Try.func43, by kernel_rfl, by decide +kernel⟩
theorem ok44 : OkAt 44 c44 := ⟨Try.f44, Try.func44, by kernel_rfl, by decide +kernel⟩
theorem ok45 : OkAt 45 c45 := ⟨Try.f45, Try.func45, by kernel_rfl, by decide +kernel⟩
theorem ok46 : OkAt 46 c46 := ⟨Try.f46, Try.func46, by kernel_rfl, by decide +kernel⟩
theorem ok48 : OkAt 48 c48 := ⟨Try.f48, Try.func48, by kernel_rfl, by decide +kernel⟩
theorem ok49 : OkAt 49 c49 := ⟨Try.f49, Try.func49, by kernel_rfl, by decide +kernel⟩
theorem ok55 : OkAt 55 c55 := ⟨Try.f55, Try.func55, by kernel_rfl, by decide +kernel⟩
theorem ok56 : OkAt 56 c56 := ⟨Try.f56, Try.func56, by kernel_rfl, by decide +kernel⟩
theorem ok57 : OkAt 57 c57 := ⟨Try.f57, Try.func57, by kernel_rfl, by decide +kernel⟩
theorem ok58 : OkAt 58 c58 := ⟨Try.f58, Try.func58, by kernel_rfl, by decide +kernel⟩
theorem ok59 : OkAt 59 c59 := ⟨Try.f59, Try.func59, by kernel_rfl, by decide +kernel⟩
theorem ok60 : OkAt 60 c60 := ⟨Try.f60, Try.func60, by kernel_rfl, by decide +kernel⟩
theorem ok61 : OkAt 61 c61 := ⟨Try.f61, Try.func61, by kernel_rfl, by decide +kernel⟩
theorem ok62 : OkAt 62 c62 := ⟨Try.f62, Try.func62, by kernel_rfl, by decide +kernel⟩
theorem ok63 : OkAt 63 c63 := ⟨Try.f63, Try.func63, by kernel_rfl, by decide +kernel⟩
theorem ok64 : OkAt 64 c64 := ⟨Try.f64, Try.func64, by kernel_rfl, by decide +kernel⟩
theorem ok65 : OkAt 65 c65 := ⟨Try.f65, Try.func65, by kernel_rfl, by decide +kernel⟩
theorem ok66 : OkAt 66 c66 := ⟨Try.f66, Try.func66, by kernel_rfl, by decide +kernel⟩
theorem ok70 : OkAt 70 c70 := ⟨Try.f70, Try.func70, by kernel_rfl, by decide +kernel⟩
theorem ok71 : OkAt 71 c71 := ⟨Try.f71, Try.func71, by kernel_rfl, by decide +kernel⟩
theorem ok72 : OkAt 72 c72 := ⟨Try.f72, Try.func72, by kernel_rfl, by decide +kernel⟩
theorem ok74 : OkAt 74 c74 := ⟨Try.f74, Try.func74, by kernel_rfl, by decide +kernel⟩
theorem ok75 : OkAt 75 c75 := ⟨Try.f75, Try.func75, by kernel_rfl, by decide +kernel⟩
theorem ok76 : OkAt 76 c76 := ⟨Try.f76, Try.func76, by kernel_rfl, by decide +kernel⟩
theorem ok77 : OkAt 77 c77 := ⟨Try.f77, Try.func77, by kernel_rfl, by decide +kernel⟩
theorem ok78 : OkAt 78 c78 := ⟨Try.f78, Try.func78, by kernel_rfl, by decide +kernel⟩
theorem ok82 : OkAt 82 c82 := ⟨Try.f82, Try.func82, by kernel_rfl, by decide +kernel⟩
theorem ok83 : OkAt 83 c83 := ⟨Try.f83, Try.func83, by kernel_rfl, by decide +kernel⟩
theorem ok89 : OkAt 89 c89 := ⟨Try.f89, Try.func89, by kernel_rfl, by decide +kernel⟩
theorem ok94 : OkAt 94 c94 := ⟨Try.f94, Try.func94, by kernel_rfl, by decide +kernel⟩
theorem ok95 : OkAt 95 c95 := ⟨Try.f95, Try.func95, by kernel_rfl, by decide +kernel⟩
theorem ok96 : OkAt 96 c96 := ⟨Try.f96, Try.func96, by kernel_rfl, by decide +kernel⟩
theorem ok100 : OkAt 100 c100 := ⟨Try.f100, Try.func100, by kernel_rfl, by decide +kernel⟩
theorem ok101 : OkAt 101 c101 := ⟨Try.f101, Try.func101, by kernel_rfl, by decide +kernel⟩
theorem ok102 : OkAt 102 c102 := ⟨Try.f102, Try.func102, by kernel_rfl, by decide +kernel⟩
set_option maxRecDepth 100000 in
theorem tableOk : TableOk Try.prog F := by
  intro f fc h
  unfold F at h
  split at h
  · cases h; exact ok10
  · cases h; exact ok11
  · cases h; exact ok17
  · cases h; exact ok18
  · cases h; exact ok19
  · cases h; exact ok20
  · cases h; exact ok21
  · cases h; exact ok23
  · cases h; exact ok24
  · cases h; exact ok26
  · cases h; exact ok29
  · cases h; exact ok32
  · cases h; exact ok33
  · cases h; exact ok34
  · cases h; exact ok35
  · cases h; exact ok36
  · cases h; exact ok37
  · cases h; exact ok38
  · cases h; exact ok43
  · cases h; exact ok44
  · cases h; exact ok45
  · cases h; exact ok46
  · cases h; exact ok48
  · cases h; exact ok49
  · cases h; exact ok55
  · cases h; exact ok56
  · cases h; exact ok57
  · cases h; exact ok58
  · cases h; exact ok59
  · cases h; exact ok60
  · cases h; exact ok61
  · cases h; exact ok62
  · cases h; exact ok63
  · cases h; exact ok64
  · cases h; exact ok65
  · cases h; exact ok66
  · cases h; exact ok70
  · cases h; exact ok71
  · cases h; exact ok72
  · cases h; exact ok74
  · cases h; exact ok75
  · cases h; exact ok76
  · cases h; exact ok77
  · cases h; exact ok78
  · cases h; exact ok82
  · cases h; exact ok83
  · cases h; exact ok89
  · cases h; exact ok94
  · cases h; exact ok95
  · cases h; exact ok96
  · cases h; exact ok100
  · cases h; exact ok101
  · cases h; exact ok102
  · cases h
end Go.Dr.T
