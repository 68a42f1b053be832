/-
  WRITTEN BY PROGRAM (ktie.py): the small machine's code is the program's.
-/
import Derived.Test.YtlcjlppdhjelfaaKData
import Derived.Test.YtlcjlppdhjelfaaKTop
import Derived.Test.YtlcjlppdhjelfaaChecked
import Derived.KernelRfl
namespace Go.KM.Try
open Go.Proofs
theorem c27 : kfunc Try.prog Try.f27 = some kf27 := by kernel_rfl
theorem n27 : Try.f27.name ≠ "runtime.NumGoroutine" := by decide +kernel
theorem t27 : Tied Try.prog 27 kf27 := ⟨_, Try.func27, c27, n27⟩
theorem c28 : kfunc Try.prog Try.f28 = some kf28 := by kernel_rfl
theorem n28 : Try.f28.name ≠ "runtime.NumGoroutine" := by decide +kernel
theorem t28 : Tied Try.prog 28 kf28 := ⟨_, Try.func28, c28, n28⟩
theorem c37 : kfunc Try.prog Try.f37 = some kf37 := by kernel_rfl
theorem n37 : Try.f37.name ≠ "runtime.NumGoroutine" := by decide +kernel
theorem t37 : Tied Try.prog 37 kf37 := ⟨_, Try.func37, c37, n37⟩
theorem c58 : kfunc Try.prog Try.f58 = some kf58 := by kernel_rfl
theorem n58 : Try.f58.name ≠ "runtime.NumGoroutine" := by decide +kernel
theorem t58 : Tied Try.prog 58 kf58 := ⟨_, Try.func58, c58, n58⟩
theorem c59 : kfunc Try.prog Try.f59 = some kf59 := by kernel_rfl
theorem n59 : Try.f59.name ≠ "runtime.NumGoroutine" := by decide +kernel
theorem t59 : Tied Try.prog 59 kf59 := ⟨_, Try.func59, c59, n59⟩
theorem c60 : kfunc Try.prog Try.f60 = some kf60 := by kernel_rfl
theorem n60 : Try.f60.name ≠ "runtime.NumGoroutine" := by decide +kernel
theorem t60 : Tied Try.prog 60 kf60 := ⟨_, Try.func60, c60, n60⟩
theorem c61 : kfunc Try.prog Try.f61 = some kf61 := by kernel_rfl
theorem n61 : Try.f61.name ≠ "runtime.NumGoroutine" := by decide +kernel
theorem t61 : Tied Try.prog 61 kf61 := ⟨_, Try.func61, c61, n61⟩
theorem c67 : kfunc Try.prog Try.f67 = some kf67 := by kernel_rfl
theorem n67 : Try.f67.name ≠ "runtime.NumGoroutine" := by decide +kernel
theorem t67 : Tied Try.prog 67 kf67 := ⟨_, Try.func67, c67, n67⟩
theorem c69 : kfunc Try.prog Try.f69 = some kf69 := by kernel_rfl
theorem n69 : Try.f69.name ≠ "runtime.NumGoroutine" := by decide +kernel
theorem t69 : Tied Try.prog 69 kf69 := ⟨_, Try.func69, c69, n69⟩
theorem c74 : kfunc Try.prog Try.f74 = some kf74 := by kernel_rfl
theorem n74 : Try.f74.name ≠ "runtime.NumGoroutine" := by decide +kernel
theorem t74 : Tied Try.prog 74 kf74 := ⟨_, Try.func74, c74, n74⟩
theorem c89 : kfunc Try.prog Try.f89 = some kf89 := by kernel_rfl
theorem n89 : Try.f89.name ≠ "runtime.NumGoroutine" := by decide +kernel
theorem t89 : Tied Try.prog 89 kf89 := ⟨_, Try.func89, c89, n89⟩
theorem c92 : kfunc Try.prog Try.f92 = some kf92 := by kernel_rfl
theorem n92 : Try.f92.name ≠ "runtime.NumGoroutine" := by decide +kernel
theorem t92 : Tied Try.prog 92 kf92 := ⟨_, Try.func92, c92, n92⟩
theorem c93 : kfunc Try.prog Try.f93 = some kf93 := by kernel_rfl
theorem n93 : Try.f93.name ≠ "runtime.NumGoroutine" := by decide +kernel
theorem t93 : Tied Try.prog 93 kf93 := ⟨_, Try.func93, c93, n93⟩
theorem c104 : kfunc Try.prog Try.f104 = some kf104 := by kernel_rfl
theorem n104 : Try.f104.name ≠ "runtime.NumGoroutine" := by decide +kernel
theorem t104 : Tied Try.prog 104 kf104 := ⟨_, Try.func104, c104, n104⟩
theorem c105 : kfunc Try.prog Try.f105 = some kf105 := by kernel_rfl
theorem n105 : Try.f105.name ≠ "runtime.NumGoroutine" := by decide +kernel
theorem t105 : Tied Try.prog 105 kf105 := ⟨_, Try.func105, c105, n105⟩
theorem c109 : kfunc Try.prog Try.f109 = some kf109 := by kernel_rfl
theorem n109 : Try.f109.name ≠ "runtime.NumGoroutine" := by decide +kernel
theorem t109 : Tied Try.prog 109 kf109 := ⟨_, Try.func109, c109, n109⟩
end Go.KM.Try
