/-
  WRITTEN BY PROGRAM (ktie.py): the small machine's code is the program's.
-/
import Derived.Test.YtlcjlppdhjelfaaKData
import Derived.Test.YtlcjlppdhjelfaaKTop
import Derived.Test.YtlcjlppdhjelfaaChecked
import Derived.KernelRfl
namespace Go.KM.Try
open Go.Proofs
theorem c3 : kfunc Try.prog Try.f3 = some kf3 := by kernel_rfl
theorem n3 : Try.f3.name ≠ "runtime.NumGoroutine" := by decide +kernel
theorem t3 : Tied Try.prog 3 kf3 := ⟨_, Try.func3, c3, n3⟩
theorem c11 : kfunc Try.prog Try.f11 = some kf11 := by kernel_rfl
theorem n11 : Try.f11.name ≠ "runtime.NumGoroutine" := by decide +kernel
theorem t11 : Tied Try.prog 11 kf11 := ⟨_, Try.func11, c11, n11⟩
theorem c23 : kfunc Try.prog Try.f23 = some kf23 := by kernel_rfl
theorem n23 : Try.f23.name ≠ "runtime.NumGoroutine" := by decide +kernel
theorem t23 : Tied Try.prog 23 kf23 := ⟨_, Try.func23, c23, n23⟩
theorem c31 : kfunc Try.prog Try.f31 = some kf31 := by kernel_rfl
theorem n31 : Try.f31.name ≠ "runtime.NumGoroutine" := by decide +kernel
theorem t31 : Tied Try.prog 31 kf31 := ⟨_, Try.func31, c31, n31⟩
theorem c33 : kfunc Try.prog Try.f33 = some kf33 := by kernel_rfl
theorem n33 : Try.f33.name ≠ "runtime.NumGoroutine" := by decide +kernel
theorem t33 : Tied Try.prog 33 kf33 := ⟨_, Try.func33, c33, n33⟩
theorem c35 : kfunc Try.prog Try.f35 = some kf35 := by kernel_rfl
theorem n35 : Try.f35.name ≠ "runtime.NumGoroutine" := by decide +kernel
theorem t35 : Tied Try.prog 35 kf35 := ⟨_, Try.func35, c35, n35⟩
theorem c39 : kfunc Try.prog Try.f39 = some kf39 := by kernel_rfl
theorem n39 : Try.f39.name ≠ "runtime.NumGoroutine" := by decide +kernel
theorem t39 : Tied Try.prog 39 kf39 := ⟨_, Try.func39, c39, n39⟩
theorem c40 : kfunc Try.prog Try.f40 = some kf40 := by kernel_rfl
theorem n40 : Try.f40.name ≠ "runtime.NumGoroutine" := by decide +kernel
theorem t40 : Tied Try.prog 40 kf40 := ⟨_, Try.func40, c40, n40⟩
theorem c41 : kfunc Try.prog Try.f41 = some kf41 := by kernel_rfl
theorem n41 : Try.f41.name ≠ "runtime.NumGoroutine" := by decide +kernel
theorem t41 : Tied Try.prog 41 kf41 := ⟨_, Try.func41, c41, n41⟩
theorem c63 : kfunc Try.prog Try.f63 = some kf63 := by kernel_rfl
theorem n63 : Try.f63.name ≠ "runtime.NumGoroutine" := by decide +kernel
theorem t63 : Tied Try.prog 63 kf63 := ⟨_, Try.func63, c63, n63⟩
theorem c70 : kfunc Try.prog Try.f70 = some kf70 := by kernel_rfl
theorem n70 : Try.f70.name ≠ "runtime.NumGoroutine" := by decide +kernel
theorem t70 : Tied Try.prog 70 kf70 := ⟨_, Try.func70, c70, n70⟩
theorem c75 : kfunc Try.prog Try.f75 = some kf75 := by kernel_rfl
theorem n75 : Try.f75.name ≠ "runtime.NumGoroutine" := by decide +kernel
theorem t75 : Tied Try.prog 75 kf75 := ⟨_, Try.func75, c75, n75⟩
theorem c77 : kfunc Try.prog Try.f77 = some kf77 := by kernel_rfl
theorem n77 : Try.f77.name ≠ "runtime.NumGoroutine" := by decide +kernel
theorem t77 : Tied Try.prog 77 kf77 := ⟨_, Try.func77, c77, n77⟩
theorem c94 : kfunc Try.prog Try.f94 = some kf94 := by kernel_rfl
theorem n94 : Try.f94.name ≠ "runtime.NumGoroutine" := by decide +kernel
theorem t94 : Tied Try.prog 94 kf94 := ⟨_, Try.func94, c94, n94⟩
theorem c103 : kfunc Try.prog Try.f103 = some kf103 := by kernel_rfl
theorem n103 : Try.f103.name ≠ "runtime.NumGoroutine" := by decide +kernel
theorem t103 : Tied Try.prog 103 kf103 := ⟨_, Try.func103, c103, n103⟩
end Go.KM.Try
