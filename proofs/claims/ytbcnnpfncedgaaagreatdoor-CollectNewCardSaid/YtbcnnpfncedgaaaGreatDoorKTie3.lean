/-
  WRITTEN BY PROGRAM (ktie.py): the small machine's code is the program's.
-/
import Derived.Test.YtbcnnpfncedgaaaGreatDoorKData
import Derived.Test.YtbcnnpfncedgaaaGreatDoorKTop
import Derived.Test.YtbcnnpfncedgaaaGreatDoorChecked
import Derived.KernelRfl
namespace Go.KM.Tryz
open Go.Proofs
theorem c26 : kfunc Tryz.prog Tryz.f26 = some kf26 := by kernel_rfl
theorem n26 : Tryz.f26.name ≠ "runtime.NumGoroutine" := by decide +kernel
theorem t26 : Tied Tryz.prog 26 kf26 := ⟨_, Tryz.func26, c26, n26⟩
theorem c33 : kfunc Tryz.prog Tryz.f33 = some kf33 := by kernel_rfl
theorem n33 : Tryz.f33.name ≠ "runtime.NumGoroutine" := by decide +kernel
theorem t33 : Tied Tryz.prog 33 kf33 := ⟨_, Tryz.func33, c33, n33⟩
theorem c40 : kfunc Tryz.prog Tryz.f40 = some kf40 := by kernel_rfl
theorem n40 : Tryz.f40.name ≠ "runtime.NumGoroutine" := by decide +kernel
theorem t40 : Tied Tryz.prog 40 kf40 := ⟨_, Tryz.func40, c40, n40⟩
theorem c48 : kfunc Tryz.prog Tryz.f48 = some kf48 := by kernel_rfl
theorem n48 : Tryz.f48.name ≠ "runtime.NumGoroutine" := by decide +kernel
theorem t48 : Tied Tryz.prog 48 kf48 := ⟨_, Tryz.func48, c48, n48⟩
theorem c50 : kfunc Tryz.prog Tryz.f50 = some kf50 := by kernel_rfl
theorem n50 : Tryz.f50.name ≠ "runtime.NumGoroutine" := by decide +kernel
theorem t50 : Tied Tryz.prog 50 kf50 := ⟨_, Tryz.func50, c50, n50⟩
theorem c53 : kfunc Tryz.prog Tryz.f53 = some kf53 := by kernel_rfl
theorem n53 : Tryz.f53.name ≠ "runtime.NumGoroutine" := by decide +kernel
theorem t53 : Tied Tryz.prog 53 kf53 := ⟨_, Tryz.func53, c53, n53⟩
theorem c60 : kfunc Tryz.prog Tryz.f60 = some kf60 := by kernel_rfl
theorem n60 : Tryz.f60.name ≠ "runtime.NumGoroutine" := by decide +kernel
theorem t60 : Tied Tryz.prog 60 kf60 := ⟨_, Tryz.func60, c60, n60⟩
theorem c89 : kfunc Tryz.prog Tryz.f89 = some kf89 := by kernel_rfl
theorem n89 : Tryz.f89.name ≠ "runtime.NumGoroutine" := by decide +kernel
theorem t89 : Tied Tryz.prog 89 kf89 := ⟨_, Tryz.func89, c89, n89⟩
theorem c106 : kfunc Tryz.prog Tryz.f106 = some kf106 := by kernel_rfl
theorem n106 : Tryz.f106.name ≠ "runtime.NumGoroutine" := by decide +kernel
theorem t106 : Tied Tryz.prog 106 kf106 := ⟨_, Tryz.func106, c106, n106⟩
theorem c116 : kfunc Tryz.prog Tryz.f116 = some kf116 := by kernel_rfl
theorem n116 : Tryz.f116.name ≠ "runtime.NumGoroutine" := by decide +kernel
theorem t116 : Tied Tryz.prog 116 kf116 := ⟨_, Tryz.func116, c116, n116⟩
theorem c117 : kfunc Tryz.prog Tryz.f117 = some kf117 := by kernel_rfl
theorem n117 : Tryz.f117.name ≠ "runtime.NumGoroutine" := by decide +kernel
theorem t117 : Tied Tryz.prog 117 kf117 := ⟨_, Tryz.func117, c117, n117⟩
theorem c118 : kfunc Tryz.prog Tryz.f118 = some kf118 := by kernel_rfl
theorem n118 : Tryz.f118.name ≠ "runtime.NumGoroutine" := by decide +kernel
theorem t118 : Tied Tryz.prog 118 kf118 := ⟨_, Tryz.func118, c118, n118⟩
theorem c120 : kfunc Tryz.prog Tryz.f120 = some kf120 := by kernel_rfl
theorem n120 : Tryz.f120.name ≠ "runtime.NumGoroutine" := by decide +kernel
theorem t120 : Tied Tryz.prog 120 kf120 := ⟨_, Tryz.func120, c120, n120⟩
theorem c122 : kfunc Tryz.prog Tryz.f122 = some kf122 := by kernel_rfl
theorem n122 : Tryz.f122.name ≠ "runtime.NumGoroutine" := by decide +kernel
theorem t122 : Tied Tryz.prog 122 kf122 := ⟨_, Tryz.func122, c122, n122⟩
theorem c148 : kfunc Tryz.prog Tryz.f148 = some kf148 := by kernel_rfl
theorem n148 : Tryz.f148.name ≠ "runtime.NumGoroutine" := by decide +kernel
theorem t148 : Tied Tryz.prog 148 kf148 := ⟨_, Tryz.func148, c148, n148⟩
theorem c154 : kfunc Tryz.prog Tryz.f154 = some kf154 := by kernel_rfl
theorem n154 : Tryz.f154.name ≠ "runtime.NumGoroutine" := by decide +kernel
theorem t154 : Tied Tryz.prog 154 kf154 := ⟨_, Tryz.func154, c154, n154⟩
theorem c161 : kfunc Tryz.prog Tryz.f161 = some kf161 := by kernel_rfl
theorem n161 : Tryz.f161.name ≠ "runtime.NumGoroutine" := by decide +kernel
theorem t161 : Tied Tryz.prog 161 kf161 := ⟨_, Tryz.func161, c161, n161⟩
theorem c162 : kfunc Tryz.prog Tryz.f162 = some kf162 := by kernel_rfl
theorem n162 : Tryz.f162.name ≠ "runtime.NumGoroutine" := by decide +kernel
theorem t162 : Tied Tryz.prog 162 kf162 := ⟨_, Tryz.func162, c162, n162⟩
theorem c163 : kfunc Tryz.prog Tryz.f163 = some kf163 := by kernel_rfl
theorem n163 : Tryz.f163.name ≠ "runtime.NumGoroutine" := by decide +kernel
theorem t163 : Tied Tryz.prog 163 kf163 := ⟨_, Tryz.func163, c163, n163⟩
theorem c165 : kfunc Tryz.prog Tryz.f165 = some kf165 := by kernel_rfl
theorem n165 : Tryz.f165.name ≠ "runtime.NumGoroutine" := by decide +kernel
theorem t165 : Tied Tryz.prog 165 kf165 := ⟨_, Tryz.func165, c165, n165⟩
theorem c167 : kfunc Tryz.prog Tryz.f167 = some kf167 := by kernel_rfl
theorem n167 : Tryz.f167.name ≠ "runtime.NumGoroutine" := by decide +kernel
theorem t167 : Tied Tryz.prog 167 kf167 := ⟨_, Tryz.func167, c167, n167⟩
theorem c173 : kfunc Tryz.prog Tryz.f173 = some kf173 := by kernel_rfl
theorem n173 : Tryz.f173.name ≠ "runtime.NumGoroutine" := by decide +kernel
theorem t173 : Tied Tryz.prog 173 kf173 := ⟨_, Tryz.func173, c173, n173⟩
theorem c203 : kfunc Tryz.prog Tryz.f203 = some kf203 := by kernel_rfl
theorem n203 : Tryz.f203.name ≠ "runtime.NumGoroutine" := by decide +kernel
theorem t203 : Tied Tryz.prog 203 kf203 := ⟨_, Tryz.func203, c203, n203⟩
theorem c213 : kfunc Tryz.prog Tryz.f213 = some kf213 := by kernel_rfl
theorem n213 : Tryz.f213.name ≠ "runtime.NumGoroutine" := by decide +kernel
theorem t213 : Tied Tryz.prog 213 kf213 := ⟨_, Tryz.func213, c213, n213⟩
theorem c218 : kfunc Tryz.prog Tryz.f218 = some kf218 := by kernel_rfl
theorem n218 : Tryz.f218.name ≠ "runtime.NumGoroutine" := by decide +kernel
theorem t218 : Tied Tryz.prog 218 kf218 := ⟨_, Tryz.func218, c218, n218⟩
theorem c220 : kfunc Tryz.prog Tryz.f220 = some kf220 := by kernel_rfl
theorem n220 : Tryz.f220.name ≠ "runtime.NumGoroutine" := by decide +kernel
theorem t220 : Tied Tryz.prog 220 kf220 := ⟨_, Tryz.func220, c220, n220⟩
theorem c229 : kfunc Tryz.prog Tryz.f229 = some kf229 := by kernel_rfl
theorem n229 : Tryz.f229.name ≠ "runtime.NumGoroutine" := by decide +kernel
theorem t229 : Tied Tryz.prog 229 kf229 := ⟨_, Tryz.func229, c229, n229⟩
theorem c234 : kfunc Tryz.prog Tryz.f234 = some kf234 := by kernel_rfl
theorem n234 : Tryz.f234.name ≠ "runtime.NumGoroutine" := by decide +kernel
theorem t234 : Tied Tryz.prog 234 kf234 := ⟨_, Tryz.func234, c234, n234⟩
theorem c236 : kfunc Tryz.prog Tryz.f236 = some kf236 := by kernel_rfl
theorem n236 : Tryz.f236.name ≠ "runtime.NumGoroutine" := by decide +kernel
theorem t236 : Tied Tryz.prog 236 kf236 := ⟨_, Tryz.func236, c236, n236⟩
theorem c254 : kfunc Tryz.prog Tryz.f254 = some kf254 := by kernel_rfl
theorem n254 : Tryz.f254.name ≠ "runtime.NumGoroutine" := by decide +kernel
theorem t254 : Tied Tryz.prog 254 kf254 := ⟨_, Tryz.func254, c254, n254⟩
theorem c265 : kfunc Tryz.prog Tryz.f265 = some kf265 := by kernel_rfl
theorem n265 : Tryz.f265.name ≠ "runtime.NumGoroutine" := by decide +kernel
theorem t265 : Tied Tryz.prog 265 kf265 := ⟨_, Tryz.func265, c265, n265⟩
theorem c266 : kfunc Tryz.prog Tryz.f266 = some kf266 := by kernel_rfl
theorem n266 : Tryz.f266.name ≠ "runtime.NumGoroutine" := by decide +kernel
theorem t266 : Tied Tryz.prog 266 kf266 := ⟨_, Tryz.func266, c266, n266⟩
theorem c278 : kfunc Tryz.prog Tryz.f278 = some kf278 := by kernel_rfl
theorem n278 : Tryz.f278.name ≠ "runtime.NumGoroutine" := by decide +kernel
theorem t278 : Tied Tryz.prog 278 kf278 := ⟨_, Tryz.func278, c278, n278⟩
theorem c284 : kfunc Tryz.prog Tryz.f284 = some kf284 := by kernel_rfl
theorem n284 : Tryz.f284.name ≠ "runtime.NumGoroutine" := by decide +kernel
theorem t284 : Tied Tryz.prog 284 kf284 := ⟨_, Tryz.func284, c284, n284⟩
end Go.KM.Tryz
