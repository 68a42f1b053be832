/-
  WRITTEN BY PROGRAM (ktie.py): the small machine's code is the program's.
-/
import Derived.Test.YtlcjlppdhjelfaaKData
import Derived.Test.YtlcjlppdhjelfaaKTop
import Derived.Test.YtlcjlppdhjelfaaChecked
import Derived.KernelRfl
namespace Go.KM.Try
open Go.Proofs
theorem c10 : kfunc Try.prog Try.f10 = some kf10 := by kernel_rfl
theorem n10 : Try.f10.name ≠ "runtime.NumGoroutine" := by decide +kernel
theorem t10 : Tied Try.prog 10 kf10 := ⟨_, Try.func10, c10, n10⟩
theorem c13 : kfunc Try.prog Try.f13 = some kf13 := by kernel_rfl
theorem n13 : Try.f13.name ≠ "runtime.NumGoroutine" := by decide +kernel
theorem t13 : Tied Try.prog 13 kf13 := ⟨_, Try.func13, c13, n13⟩
theorem c32 : kfunc Try.prog Try.f32 = some kf32 := by kernel_rfl
theorem n32 : Try.f32.name ≠ "runtime.NumGoroutine" := by decide +kernel
theorem t32 : Tied Try.prog 32 kf32 := ⟨_, Try.func32, c32, n32⟩
theorem c34 : kfunc Try.prog Try.f34 = some kf34 := by kernel_rfl
theorem n34 : Try.f34.name ≠ "runtime.NumGoroutine" := by decide +kernel
theorem t34 : Tied Try.prog 34 kf34 := ⟨_, Try.func34, c34, n34⟩
theorem c38 : kfunc Try.prog Try.f38 = some kf38 := by kernel_rfl
theorem n38 : Try.f38.name ≠ "runtime.NumGoroutine" := by decide +kernel
theorem t38 : Tied Try.prog 38 kf38 := ⟨_, Try.func38, c38, n38⟩
theorem c62 : kfunc Try.prog Try.f62 = some kf62 := by kernel_rfl
theorem n62 : Try.f62.name ≠ "runtime.NumGoroutine" := by decide +kernel
theorem t62 : Tied Try.prog 62 kf62 := ⟨_, Try.func62, c62, n62⟩
theorem c65 : kfunc Try.prog Try.f65 = some kf65 := by kernel_rfl
theorem n65 : Try.f65.name ≠ "runtime.NumGoroutine" := by decide +kernel
theorem t65 : Tied Try.prog 65 kf65 := ⟨_, Try.func65, c65, n65⟩
theorem c68 : kfunc Try.prog Try.f68 = some kf68 := by kernel_rfl
theorem n68 : Try.f68.name ≠ "runtime.NumGoroutine" := by decide +kernel
theorem t68 : Tied Try.prog 68 kf68 := ⟨_, Try.func68, c68, n68⟩
theorem c72 : kfunc Try.prog Try.f72 = some kf72 := by kernel_rfl
theorem n72 : Try.f72.name ≠ "runtime.NumGoroutine" := by decide +kernel
theorem t72 : Tied Try.prog 72 kf72 := ⟨_, Try.func72, c72, n72⟩
theorem c84 : kfunc Try.prog Try.f84 = some kf84 := by kernel_rfl
theorem n84 : Try.f84.name ≠ "runtime.NumGoroutine" := by decide +kernel
theorem t84 : Tied Try.prog 84 kf84 := ⟨_, Try.func84, c84, n84⟩
theorem c88 : kfunc Try.prog Try.f88 = some kf88 := by kernel_rfl
theorem n88 : Try.f88.name ≠ "runtime.NumGoroutine" := by decide +kernel
theorem t88 : Tied Try.prog 88 kf88 := ⟨_, Try.func88, c88, n88⟩
theorem c90 : kfunc Try.prog Try.f90 = some kf90 := by kernel_rfl
theorem n90 : Try.f90.name ≠ "runtime.NumGoroutine" := by decide +kernel
theorem t90 : Tied Try.prog 90 kf90 := ⟨_, Try.func90, c90, n90⟩
theorem c91 : kfunc Try.prog Try.f91 = some kf91 := by kernel_rfl
theorem n91 : Try.f91.name ≠ "runtime.NumGoroutine" := by decide +kernel
theorem t91 : Tied Try.prog 91 kf91 := ⟨_, Try.func91, c91, n91⟩
theorem c95 : kfunc Try.prog Try.f95 = some kf95 := by kernel_rfl
theorem n95 : Try.f95.name ≠ "runtime.NumGoroutine" := by decide +kernel
theorem t95 : Tied Try.prog 95 kf95 := ⟨_, Try.func95, c95, n95⟩
theorem c101 : kfunc Try.prog Try.f101 = some kf101 := by kernel_rfl
theorem n101 : Try.f101.name ≠ "runtime.NumGoroutine" := by decide +kernel
theorem t101 : Tied Try.prog 101 kf101 := ⟨_, Try.func101, c101, n101⟩
end Go.KM.Try
