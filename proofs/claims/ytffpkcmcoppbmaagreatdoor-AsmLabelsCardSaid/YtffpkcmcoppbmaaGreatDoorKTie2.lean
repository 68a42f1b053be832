/-
  WRITTEN BY PROGRAM (ktie.py): the small machine's code is the program's.
-/
import Derived.Test.YtffpkcmcoppbmaaGreatDoorKData
import Derived.Test.YtffpkcmcoppbmaaGreatDoorKTop
import Derived.Test.YtffpkcmcoppbmaaGreatDoorChecked
import Derived.KernelRfl
namespace Go.KM.Tryz
open Go.Proofs
theorem c5 : kfunc Tryz.prog Tryz.f5 = some kf5 := by kernel_rfl
theorem n5 : Tryz.f5.name ≠ "runtime.NumGoroutine" := by decide +kernel
theorem t5 : Tied Tryz.prog 5 kf5 := ⟨_, Tryz.func5, c5, n5⟩
theorem c13 : kfunc Tryz.prog Tryz.f13 = some kf13 := by kernel_rfl
theorem n13 : Tryz.f13.name ≠ "runtime.NumGoroutine" := by decide +kernel
theorem t13 : Tied Tryz.prog 13 kf13 := ⟨_, Tryz.func13, c13, n13⟩
theorem c28 : kfunc Tryz.prog Tryz.f28 = some kf28 := by kernel_rfl
theorem n28 : Tryz.f28.name ≠ "runtime.NumGoroutine" := by decide +kernel
theorem t28 : Tied Tryz.prog 28 kf28 := ⟨_, Tryz.func28, c28, n28⟩
theorem c51 : kfunc Tryz.prog Tryz.f51 = some kf51 := by kernel_rfl
theorem n51 : Tryz.f51.name ≠ "runtime.NumGoroutine" := by decide +kernel
theorem t51 : Tied Tryz.prog 51 kf51 := ⟨_, Tryz.func51, c51, n51⟩
theorem c62 : kfunc Tryz.prog Tryz.f62 = some kf62 := by kernel_rfl
theorem n62 : Tryz.f62.name ≠ "runtime.NumGoroutine" := by decide +kernel
theorem t62 : Tied Tryz.prog 62 kf62 := ⟨_, Tryz.func62, c62, n62⟩
theorem c64 : kfunc Tryz.prog Tryz.f64 = some kf64 := by kernel_rfl
theorem n64 : Tryz.f64.name ≠ "runtime.NumGoroutine" := by decide +kernel
theorem t64 : Tied Tryz.prog 64 kf64 := ⟨_, Tryz.func64, c64, n64⟩
theorem c101 : kfunc Tryz.prog Tryz.f101 = some kf101 := by kernel_rfl
theorem n101 : Tryz.f101.name ≠ "runtime.NumGoroutine" := by decide +kernel
theorem t101 : Tied Tryz.prog 101 kf101 := ⟨_, Tryz.func101, c101, n101⟩
theorem c122 : kfunc Tryz.prog Tryz.f122 = some kf122 := by kernel_rfl
theorem n122 : Tryz.f122.name ≠ "runtime.NumGoroutine" := by decide +kernel
theorem t122 : Tied Tryz.prog 122 kf122 := ⟨_, Tryz.func122, c122, n122⟩
theorem c144 : kfunc Tryz.prog Tryz.f144 = some kf144 := by kernel_rfl
theorem n144 : Tryz.f144.name ≠ "runtime.NumGoroutine" := by decide +kernel
theorem t144 : Tied Tryz.prog 144 kf144 := ⟨_, Tryz.func144, c144, n144⟩
theorem c149 : kfunc Tryz.prog Tryz.f149 = some kf149 := by kernel_rfl
theorem n149 : Tryz.f149.name ≠ "runtime.NumGoroutine" := by decide +kernel
theorem t149 : Tied Tryz.prog 149 kf149 := ⟨_, Tryz.func149, c149, n149⟩
theorem c153 : kfunc Tryz.prog Tryz.f153 = some kf153 := by kernel_rfl
theorem n153 : Tryz.f153.name ≠ "runtime.NumGoroutine" := by decide +kernel
theorem t153 : Tied Tryz.prog 153 kf153 := ⟨_, Tryz.func153, c153, n153⟩
theorem c161 : kfunc Tryz.prog Tryz.f161 = some kf161 := by kernel_rfl
theorem n161 : Tryz.f161.name ≠ "runtime.NumGoroutine" := by decide +kernel
theorem t161 : Tied Tryz.prog 161 kf161 := ⟨_, Tryz.func161, c161, n161⟩
theorem c162 : kfunc Tryz.prog Tryz.f162 = some kf162 := by kernel_rfl
theorem n162 : Tryz.f162.name ≠ "runtime.NumGoroutine" := by decide +kernel
theorem t162 : Tied Tryz.prog 162 kf162 := ⟨_, Tryz.func162, c162, n162⟩
theorem c163 : kfunc Tryz.prog Tryz.f163 = some kf163 := by kernel_rfl
theorem n163 : Tryz.f163.name ≠ "runtime.NumGoroutine" := by decide +kernel
theorem t163 : Tied Tryz.prog 163 kf163 := ⟨_, Tryz.func163, c163, n163⟩
theorem c164 : kfunc Tryz.prog Tryz.f164 = some kf164 := by kernel_rfl
theorem n164 : Tryz.f164.name ≠ "runtime.NumGoroutine" := by decide +kernel
theorem t164 : Tied Tryz.prog 164 kf164 := ⟨_, Tryz.func164, c164, n164⟩
theorem c177 : kfunc Tryz.prog Tryz.f177 = some kf177 := by kernel_rfl
theorem n177 : Tryz.f177.name ≠ "runtime.NumGoroutine" := by decide +kernel
theorem t177 : Tied Tryz.prog 177 kf177 := ⟨_, Tryz.func177, c177, n177⟩
end Go.KM.Tryz
