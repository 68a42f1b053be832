/-
  WRITTEN BY PROGRAM (ktie.py): the small machine's code is the program's.
-/
import Derived.Test.YtlcjlppdhjelfaaKData
import Derived.Test.YtlcjlppdhjelfaaKTop
import Derived.Test.YtlcjlppdhjelfaaChecked
import Derived.KernelRfl
namespace Go.KM.Try
open Go.Proofs
theorem c8 : kfunc Try.prog Try.f8 = some kf8 := by kernel_rfl
theorem n8 : Try.f8.name ≠ "runtime.NumGoroutine" := by decide +kernel
theorem t8 : Tied Try.prog 8 kf8 := ⟨_, Try.func8, c8, n8⟩
theorem c9 : kfunc Try.prog Try.f9 = some kf9 := by kernel_rfl
theorem n9 : Try.f9.name ≠ "runtime.NumGoroutine" := by decide +kernel
theorem t9 : Tied Try.prog 9 kf9 := ⟨_, Try.func9, c9, n9⟩
theorem c12 : kfunc Try.prog Try.f12 = some kf12 := by kernel_rfl
theorem n12 : Try.f12.name ≠ "runtime.NumGoroutine" := by decide +kernel
theorem t12 : Tied Try.prog 12 kf12 := ⟨_, Try.func12, c12, n12⟩
theorem c26 : kfunc Try.prog Try.f26 = some kf26 := by kernel_rfl
theorem n26 : Try.f26.name ≠ "runtime.NumGoroutine" := by decide +kernel
theorem t26 : Tied Try.prog 26 kf26 := ⟨_, Try.func26, c26, n26⟩
theorem c29 : kfunc Try.prog Try.f29 = some kf29 := by kernel_rfl
theorem n29 : Try.f29.name ≠ "runtime.NumGoroutine" := by decide +kernel
theorem t29 : Tied Try.prog 29 kf29 := ⟨_, Try.func29, c29, n29⟩
theorem c30 : kfunc Try.prog Try.f30 = some kf30 := by kernel_rfl
theorem n30 : Try.f30.name ≠ "runtime.NumGoroutine" := by decide +kernel
theorem t30 : Tied Try.prog 30 kf30 := ⟨_, Try.func30, c30, n30⟩
theorem c36 : kfunc Try.prog Try.f36 = some kf36 := by kernel_rfl
theorem n36 : Try.f36.name ≠ "runtime.NumGoroutine" := by decide +kernel
theorem t36 : Tied Try.prog 36 kf36 := ⟨_, Try.func36, c36, n36⟩
theorem c66 : kfunc Try.prog Try.f66 = some kf66 := by kernel_rfl
theorem n66 : Try.f66.name ≠ "runtime.NumGoroutine" := by decide +kernel
theorem t66 : Tied Try.prog 66 kf66 := ⟨_, Try.func66, c66, n66⟩
theorem c71 : kfunc Try.prog Try.f71 = some kf71 := by kernel_rfl
theorem n71 : Try.f71.name ≠ "runtime.NumGoroutine" := by decide +kernel
theorem t71 : Tied Try.prog 71 kf71 := ⟨_, Try.func71, c71, n71⟩
theorem c73 : kfunc Try.prog Try.f73 = some kf73 := by kernel_rfl
theorem n73 : Try.f73.name ≠ "runtime.NumGoroutine" := by decide +kernel
theorem t73 : Tied Try.prog 73 kf73 := ⟨_, Try.func73, c73, n73⟩
theorem c76 : kfunc Try.prog Try.f76 = some kf76 := by kernel_rfl
theorem n76 : Try.f76.name ≠ "runtime.NumGoroutine" := by decide +kernel
theorem t76 : Tied Try.prog 76 kf76 := ⟨_, Try.func76, c76, n76⟩
theorem c96 : kfunc Try.prog Try.f96 = some kf96 := by kernel_rfl
theorem n96 : Try.f96.name ≠ "runtime.NumGoroutine" := by decide +kernel
theorem t96 : Tied Try.prog 96 kf96 := ⟨_, Try.func96, c96, n96⟩
theorem c102 : kfunc Try.prog Try.f102 = some kf102 := by kernel_rfl
theorem n102 : Try.f102.name ≠ "runtime.NumGoroutine" := by decide +kernel
theorem t102 : Tied Try.prog 102 kf102 := ⟨_, Try.func102, c102, n102⟩
theorem c106 : kfunc Try.prog Try.f106 = some kf106 := by kernel_rfl
theorem n106 : Try.f106.name ≠ "runtime.NumGoroutine" := by decide +kernel
theorem t106 : Tied Try.prog 106 kf106 := ⟨_, Try.func106, c106, n106⟩
theorem c107 : kfunc Try.prog Try.f107 = some kf107 := by kernel_rfl
theorem n107 : Try.f107.name ≠ "runtime.NumGoroutine" := by decide +kernel
theorem t107 : Tied Try.prog 107 kf107 := ⟨_, Try.func107, c107, n107⟩
theorem c108 : kfunc Try.prog Try.f108 = some kf108 := by kernel_rfl
theorem n108 : Try.f108.name ≠ "runtime.NumGoroutine" := by decide +kernel
theorem t108 : Tied Try.prog 108 kf108 := ⟨_, Try.func108, c108, n108⟩
end Go.KM.Try
