/-
  WRITTEN BY PROGRAM (ktie.py): the small machine's code is the program's.
-/
import Derived.Test.YtbcnnpfncedgaaaGreatDoorKData
import Derived.Test.YtbcnnpfncedgaaaGreatDoorKTop
import Derived.Test.YtbcnnpfncedgaaaGreatDoorChecked
import Derived.KernelRfl
namespace Go.KM.Tryz
open Go.Proofs
theorem c47 : kfunc Tryz.prog Tryz.f47 = some kf47 := by kernel_rfl
theorem n47 : Tryz.f47.name ≠ "runtime.NumGoroutine" := by decide +kernel
theorem t47 : Tied Tryz.prog 47 kf47 := ⟨_, Tryz.func47, c47, n47⟩
theorem c51 : kfunc Tryz.prog Tryz.f51 = some kf51 := by kernel_rfl
theorem n51 : Tryz.f51.name ≠ "runtime.NumGoroutine" := by decide +kernel
theorem t51 : Tied Tryz.prog 51 kf51 := ⟨_, Tryz.func51, c51, n51⟩
theorem c52 : kfunc Tryz.prog Tryz.f52 = some kf52 := by kernel_rfl
theorem n52 : Tryz.f52.name ≠ "runtime.NumGoroutine" := by decide +kernel
theorem t52 : Tied Tryz.prog 52 kf52 := ⟨_, Tryz.func52, c52, n52⟩
theorem c54 : kfunc Tryz.prog Tryz.f54 = some kf54 := by kernel_rfl
theorem n54 : Tryz.f54.name ≠ "runtime.NumGoroutine" := by decide +kernel
theorem t54 : Tied Tryz.prog 54 kf54 := ⟨_, Tryz.func54, c54, n54⟩
theorem c56 : kfunc Tryz.prog Tryz.f56 = some kf56 := by kernel_rfl
theorem n56 : Tryz.f56.name ≠ "runtime.NumGoroutine" := by decide +kernel
theorem t56 : Tied Tryz.prog 56 kf56 := ⟨_, Tryz.func56, c56, n56⟩
theorem c59 : kfunc Tryz.prog Tryz.f59 = some kf59 := by kernel_rfl
theorem n59 : Tryz.f59.name ≠ "runtime.NumGoroutine" := by decide +kernel
theorem t59 : Tied Tryz.prog 59 kf59 := ⟨_, Tryz.func59, c59, n59⟩
theorem c61 : kfunc Tryz.prog Tryz.f61 = some kf61 := by kernel_rfl
theorem n61 : Tryz.f61.name ≠ "runtime.NumGoroutine" := by decide +kernel
theorem t61 : Tied Tryz.prog 61 kf61 := ⟨_, Tryz.func61, c61, n61⟩
theorem c77 : kfunc Tryz.prog Tryz.f77 = some kf77 := by kernel_rfl
theorem n77 : Tryz.f77.name ≠ "runtime.NumGoroutine" := by decide +kernel
theorem t77 : Tied Tryz.prog 77 kf77 := ⟨_, Tryz.func77, c77, n77⟩
theorem c95 : kfunc Tryz.prog Tryz.f95 = some kf95 := by kernel_rfl
theorem n95 : Tryz.f95.name ≠ "runtime.NumGoroutine" := by decide +kernel
theorem t95 : Tied Tryz.prog 95 kf95 := ⟨_, Tryz.func95, c95, n95⟩
theorem c98 : kfunc Tryz.prog Tryz.f98 = some kf98 := by kernel_rfl
theorem n98 : Tryz.f98.name ≠ "runtime.NumGoroutine" := by decide +kernel
theorem t98 : Tied Tryz.prog 98 kf98 := ⟨_, Tryz.func98, c98, n98⟩
theorem c101 : kfunc Tryz.prog Tryz.f101 = some kf101 := by kernel_rfl
theorem n101 : Tryz.f101.name ≠ "runtime.NumGoroutine" := by decide +kernel
theorem t101 : Tied Tryz.prog 101 kf101 := ⟨_, Tryz.func101, c101, n101⟩
theorem c103 : kfunc Tryz.prog Tryz.f103 = some kf103 := by kernel_rfl
theorem n103 : Tryz.f103.name ≠ "runtime.NumGoroutine" := by decide +kernel
theorem t103 : Tied Tryz.prog 103 kf103 := ⟨_, Tryz.func103, c103, n103⟩
theorem c109 : kfunc Tryz.prog Tryz.f109 = some kf109 := by kernel_rfl
theorem n109 : Tryz.f109.name ≠ "runtime.NumGoroutine" := by decide +kernel
theorem t109 : Tied Tryz.prog 109 kf109 := ⟨_, Tryz.func109, c109, n109⟩
theorem c110 : kfunc Tryz.prog Tryz.f110 = some kf110 := by kernel_rfl
theorem n110 : Tryz.f110.name ≠ "runtime.NumGoroutine" := by decide +kernel
theorem t110 : Tied Tryz.prog 110 kf110 := ⟨_, Tryz.func110, c110, n110⟩
theorem c119 : kfunc Tryz.prog Tryz.f119 = some kf119 := by kernel_rfl
theorem n119 : Tryz.f119.name ≠ "runtime.NumGoroutine" := by decide +kernel
theorem t119 : Tied Tryz.prog 119 kf119 := ⟨_, Tryz.func119, c119, n119⟩
theorem c158 : kfunc Tryz.prog Tryz.f158 = some kf158 := by kernel_rfl
theorem n158 : Tryz.f158.name ≠ "runtime.NumGoroutine" := by decide +kernel
theorem t158 : Tied Tryz.prog 158 kf158 := ⟨_, Tryz.func158, c158, n158⟩
theorem c160 : kfunc Tryz.prog Tryz.f160 = some kf160 := by kernel_rfl
theorem n160 : Tryz.f160.name ≠ "runtime.NumGoroutine" := by decide +kernel
theorem t160 : Tied Tryz.prog 160 kf160 := ⟨_, Tryz.func160, c160, n160⟩
theorem c174 : kfunc Tryz.prog Tryz.f174 = some kf174 := by kernel_rfl
theorem n174 : Tryz.f174.name ≠ "runtime.NumGoroutine" := by decide +kernel
theorem t174 : Tied Tryz.prog 174 kf174 := ⟨_, Tryz.func174, c174, n174⟩
theorem c189 : kfunc Tryz.prog Tryz.f189 = some kf189 := by kernel_rfl
theorem n189 : Tryz.f189.name ≠ "runtime.NumGoroutine" := by decide +kernel
theorem t189 : Tied Tryz.prog 189 kf189 := ⟨_, Tryz.func189, c189, n189⟩
theorem c190 : kfunc Tryz.prog Tryz.f190 = some kf190 := by kernel_rfl
theorem n190 : Tryz.f190.name ≠ "runtime.NumGoroutine" := by decide +kernel
theorem t190 : Tied Tryz.prog 190 kf190 := ⟨_, Tryz.func190, c190, n190⟩
theorem c215 : kfunc Tryz.prog Tryz.f215 = some kf215 := by kernel_rfl
theorem n215 : Tryz.f215.name ≠ "runtime.NumGoroutine" := by decide +kernel
theorem t215 : Tied Tryz.prog 215 kf215 := ⟨_, Tryz.func215, c215, n215⟩
theorem c221 : kfunc Tryz.prog Tryz.f221 = some kf221 := by kernel_rfl
theorem n221 : Tryz.f221.name ≠ "runtime.NumGoroutine" := by decide +kernel
theorem t221 : Tied Tryz.prog 221 kf221 := ⟨_, Tryz.func221, c221, n221⟩
theorem c235 : kfunc Tryz.prog Tryz.f235 = some kf235 := by kernel_rfl
theorem n235 : Tryz.f235.name ≠ "runtime.NumGoroutine" := by decide +kernel
theorem t235 : Tied Tryz.prog 235 kf235 := ⟨_, Tryz.func235, c235, n235⟩
theorem c237 : kfunc Tryz.prog Tryz.f237 = some kf237 := by kernel_rfl
theorem n237 : Tryz.f237.name ≠ "runtime.NumGoroutine" := by decide +kernel
theorem t237 : Tied Tryz.prog 237 kf237 := ⟨_, Tryz.func237, c237, n237⟩
theorem c238 : kfunc Tryz.prog Tryz.f238 = some kf238 := by kernel_rfl
theorem n238 : Tryz.f238.name ≠ "runtime.NumGoroutine" := by decide +kernel
theorem t238 : Tied Tryz.prog 238 kf238 := ⟨_, Tryz.func238, c238, n238⟩
theorem c259 : kfunc Tryz.prog Tryz.f259 = some kf259 := by kernel_rfl
theorem n259 : Tryz.f259.name ≠ "runtime.NumGoroutine" := by decide +kernel
theorem t259 : Tied Tryz.prog 259 kf259 := ⟨_, Tryz.func259, c259, n259⟩
theorem c260 : kfunc Tryz.prog Tryz.f260 = some kf260 := by kernel_rfl
theorem n260 : Tryz.f260.name ≠ "runtime.NumGoroutine" := by decide +kernel
theorem t260 : Tied Tryz.prog 260 kf260 := ⟨_, Tryz.func260, c260, n260⟩
theorem c272 : kfunc Tryz.prog Tryz.f272 = some kf272 := by kernel_rfl
theorem n272 : Tryz.f272.name ≠ "runtime.NumGoroutine" := by decide +kernel
theorem t272 : Tied Tryz.prog 272 kf272 := ⟨_, Tryz.func272, c272, n272⟩
theorem c276 : kfunc Tryz.prog Tryz.f276 = some kf276 := by kernel_rfl
theorem n276 : Tryz.f276.name ≠ "runtime.NumGoroutine" := by decide +kernel
theorem t276 : Tied Tryz.prog 276 kf276 := ⟨_, Tryz.func276, c276, n276⟩
theorem c277 : kfunc Tryz.prog Tryz.f277 = some kf277 := by kernel_rfl
theorem n277 : Tryz.f277.name ≠ "runtime.NumGoroutine" := by decide +kernel
theorem t277 : Tied Tryz.prog 277 kf277 := ⟨_, Tryz.func277, c277, n277⟩
theorem c279 : kfunc Tryz.prog Tryz.f279 = some kf279 := by kernel_rfl
theorem n279 : Tryz.f279.name ≠ "runtime.NumGoroutine" := by decide +kernel
theorem t279 : Tied Tryz.prog 279 kf279 := ⟨_, Tryz.func279, c279, n279⟩
theorem c282 : kfunc Tryz.prog Tryz.f282 = some kf282 := by kernel_rfl
theorem n282 : Tryz.f282.name ≠ "runtime.NumGoroutine" := by decide +kernel
theorem t282 : Tied Tryz.prog 282 kf282 := ⟨_, Tryz.func282, c282, n282⟩
end Go.KM.Tryz
