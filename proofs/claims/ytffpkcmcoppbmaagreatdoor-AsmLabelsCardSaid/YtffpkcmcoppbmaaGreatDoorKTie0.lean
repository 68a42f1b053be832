/-
  WRITTEN BY PROGRAM (ktie.py): the small machine's code is the program's.
-/
import Derived.Test.YtffpkcmcoppbmaaGreatDoorKData
import Derived.Test.YtffpkcmcoppbmaaGreatDoorKTop
import Derived.Test.YtffpkcmcoppbmaaGreatDoorChecked
import Derived.KernelRfl
namespace Go.KM.Tryz
open Go.Proofs
theorem c23 : kfunc Tryz.prog Tryz.f23 = some kf23 := by kernel_rfl
theorem n23 : Tryz.f23.name ≠ "runtime.NumGoroutine" := by decide +kernel
theorem t23 : Tied Tryz.prog 23 kf23 := ⟨_, Tryz.func23, c23, n23⟩
theorem c48 : kfunc Tryz.prog Tryz.f48 = some kf48 := by kernel_rfl
theorem n48 : Tryz.f48.name ≠ "runtime.NumGoroutine" := by decide +kernel
theorem t48 : Tied Tryz.prog 48 kf48 := ⟨_, Tryz.func48, c48, n48⟩
theorem c69 : kfunc Tryz.prog Tryz.f69 = some kf69 := by kernel_rfl
theorem n69 : Tryz.f69.name ≠ "runtime.NumGoroutine" := by decide +kernel
theorem t69 : Tied Tryz.prog 69 kf69 := ⟨_, Tryz.func69, c69, n69⟩
theorem c104 : kfunc Tryz.prog Tryz.f104 = some kf104 := by kernel_rfl
theorem n104 : Tryz.f104.name ≠ "runtime.NumGoroutine" := by decide +kernel
theorem t104 : Tied Tryz.prog 104 kf104 := ⟨_, Tryz.func104, c104, n104⟩
theorem c108 : kfunc Tryz.prog Tryz.f108 = some kf108 := by kernel_rfl
theorem n108 : Tryz.f108.name ≠ "runtime.NumGoroutine" := by decide +kernel
theorem t108 : Tied Tryz.prog 108 kf108 := ⟨_, Tryz.func108, c108, n108⟩
theorem c118 : kfunc Tryz.prog Tryz.f118 = some kf118 := by kernel_rfl
theorem n118 : Tryz.f118.name ≠ "runtime.NumGoroutine" := by decide +kernel
theorem t118 : Tied Tryz.prog 118 kf118 := ⟨_, Tryz.func118, c118, n118⟩
theorem c124 : kfunc Tryz.prog Tryz.f124 = some kf124 := by kernel_rfl
theorem n124 : Tryz.f124.name ≠ "runtime.NumGoroutine" := by decide +kernel
theorem t124 : Tied Tryz.prog 124 kf124 := ⟨_, Tryz.func124, c124, n124⟩
theorem c140 : kfunc Tryz.prog Tryz.f140 = some kf140 := by kernel_rfl
theorem n140 : Tryz.f140.name ≠ "runtime.NumGoroutine" := by decide +kernel
theorem t140 : Tied Tryz.prog 140 kf140 := ⟨_, Tryz.func140, c140, n140⟩
theorem c147 : kfunc Tryz.prog Tryz.f147 = some kf147 := by kernel_rfl
theorem n147 : Tryz.f147.name ≠ "runtime.NumGoroutine" := by decide +kernel
theorem t147 : Tied Tryz.prog 147 kf147 := ⟨_, Tryz.func147, c147, n147⟩
theorem c165 : kfunc Tryz.prog Tryz.f165 = some kf165 := by kernel_rfl
theorem n165 : Tryz.f165.name ≠ "runtime.NumGoroutine" := by decide +kernel
theorem t165 : Tied Tryz.prog 165 kf165 := ⟨_, Tryz.func165, c165, n165⟩
theorem c166 : kfunc Tryz.prog Tryz.f166 = some kf166 := by kernel_rfl
theorem n166 : Tryz.f166.name ≠ "runtime.NumGoroutine" := by decide +kernel
theorem t166 : Tied Tryz.prog 166 kf166 := ⟨_, Tryz.func166, c166, n166⟩
theorem c178 : kfunc Tryz.prog Tryz.f178 = some kf178 := by kernel_rfl
theorem n178 : Tryz.f178.name ≠ "runtime.NumGoroutine" := by decide +kernel
theorem t178 : Tied Tryz.prog 178 kf178 := ⟨_, Tryz.func178, c178, n178⟩
theorem c186 : kfunc Tryz.prog Tryz.f186 = some kf186 := by kernel_rfl
theorem n186 : Tryz.f186.name ≠ "runtime.NumGoroutine" := by decide +kernel
theorem t186 : Tied Tryz.prog 186 kf186 := ⟨_, Tryz.func186, c186, n186⟩
end Go.KM.Tryz
