/-
  WRITTEN BY PROGRAM (ktie.py): the small machine's code is the program's.
-/
import Derived.Test.YtffpkcmcoppbmaaGreatDoorKData
import Derived.Test.YtffpkcmcoppbmaaGreatDoorKTop
import Derived.Test.YtffpkcmcoppbmaaGreatDoorChecked
import Derived.KernelRfl
namespace Go.KM.Tryz
open Go.Proofs
theorem c10 : kfunc Tryz.prog Tryz.f10 = some kf10 := by kernel_rfl
theorem n10 : Tryz.f10.name ≠ "runtime.NumGoroutine" := by decide +kernel
theorem t10 : Tied Tryz.prog 10 kf10 := ⟨_, Tryz.func10, c10, n10⟩
theorem c29 : kfunc Tryz.prog Tryz.f29 = some kf29 := by kernel_rfl
theorem n29 : Tryz.f29.name ≠ "runtime.NumGoroutine" := by decide +kernel
theorem t29 : Tied Tryz.prog 29 kf29 := ⟨_, Tryz.func29, c29, n29⟩
theorem c30 : kfunc Tryz.prog Tryz.f30 = some kf30 := by kernel_rfl
theorem n30 : Tryz.f30.name ≠ "runtime.NumGoroutine" := by decide +kernel
theorem t30 : Tied Tryz.prog 30 kf30 := ⟨_, Tryz.func30, c30, n30⟩
theorem c49 : kfunc Tryz.prog Tryz.f49 = some kf49 := by kernel_rfl
theorem n49 : Tryz.f49.name ≠ "runtime.NumGoroutine" := by decide +kernel
theorem t49 : Tied Tryz.prog 49 kf49 := ⟨_, Tryz.func49, c49, n49⟩
theorem c50 : kfunc Tryz.prog Tryz.f50 = some kf50 := by kernel_rfl
theorem n50 : Tryz.f50.name ≠ "runtime.NumGoroutine" := by decide +kernel
theorem t50 : Tied Tryz.prog 50 kf50 := ⟨_, Tryz.func50, c50, n50⟩
theorem c65 : kfunc Tryz.prog Tryz.f65 = some kf65 := by kernel_rfl
theorem n65 : Tryz.f65.name ≠ "runtime.NumGoroutine" := by decide +kernel
theorem t65 : Tied Tryz.prog 65 kf65 := ⟨_, Tryz.func65, c65, n65⟩
theorem c102 : kfunc Tryz.prog Tryz.f102 = some kf102 := by kernel_rfl
theorem n102 : Tryz.f102.name ≠ "runtime.NumGoroutine" := by decide +kernel
theorem t102 : Tied Tryz.prog 102 kf102 := ⟨_, Tryz.func102, c102, n102⟩
theorem c105 : kfunc Tryz.prog Tryz.f105 = some kf105 := by kernel_rfl
theorem n105 : Tryz.f105.name ≠ "runtime.NumGoroutine" := by decide +kernel
theorem t105 : Tied Tryz.prog 105 kf105 := ⟨_, Tryz.func105, c105, n105⟩
theorem c106 : kfunc Tryz.prog Tryz.f106 = some kf106 := by kernel_rfl
theorem n106 : Tryz.f106.name ≠ "runtime.NumGoroutine" := by decide +kernel
theorem t106 : Tied Tryz.prog 106 kf106 := ⟨_, Tryz.func106, c106, n106⟩
theorem c107 : kfunc Tryz.prog Tryz.f107 = some kf107 := by kernel_rfl
theorem n107 : Tryz.f107.name ≠ "runtime.NumGoroutine" := by decide +kernel
theorem t107 : Tied Tryz.prog 107 kf107 := ⟨_, Tryz.func107, c107, n107⟩
theorem c138 : kfunc Tryz.prog Tryz.f138 = some kf138 := by kernel_rfl
theorem n138 : Tryz.f138.name ≠ "runtime.NumGoroutine" := by decide +kernel
theorem t138 : Tied Tryz.prog 138 kf138 := ⟨_, Tryz.func138, c138, n138⟩
theorem c142 : kfunc Tryz.prog Tryz.f142 = some kf142 := by kernel_rfl
theorem n142 : Tryz.f142.name ≠ "runtime.NumGoroutine" := by decide +kernel
theorem t142 : Tied Tryz.prog 142 kf142 := ⟨_, Tryz.func142, c142, n142⟩
theorem c145 : kfunc Tryz.prog Tryz.f145 = some kf145 := by kernel_rfl
theorem n145 : Tryz.f145.name ≠ "runtime.NumGoroutine" := by decide +kernel
theorem t145 : Tied Tryz.prog 145 kf145 := ⟨_, Tryz.func145, c145, n145⟩
theorem c150 : kfunc Tryz.prog Tryz.f150 = some kf150 := by kernel_rfl
theorem n150 : Tryz.f150.name ≠ "runtime.NumGoroutine" := by decide +kernel
theorem t150 : Tied Tryz.prog 150 kf150 := ⟨_, Tryz.func150, c150, n150⟩
theorem c151 : kfunc Tryz.prog Tryz.f151 = some kf151 := by kernel_rfl
theorem n151 : Tryz.f151.name ≠ "runtime.NumGoroutine" := by decide +kernel
theorem t151 : Tied Tryz.prog 151 kf151 := ⟨_, Tryz.func151, c151, n151⟩
theorem c174 : kfunc Tryz.prog Tryz.f174 = some kf174 := by kernel_rfl
theorem n174 : Tryz.f174.name ≠ "runtime.NumGoroutine" := by decide +kernel
theorem t174 : Tied Tryz.prog 174 kf174 := ⟨_, Tryz.func174, c174, n174⟩
end Go.KM.Tryz
