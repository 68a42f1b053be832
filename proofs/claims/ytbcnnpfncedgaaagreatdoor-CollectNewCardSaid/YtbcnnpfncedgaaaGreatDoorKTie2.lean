/-
  WRITTEN BY PROGRAM (ktie.py): the small machine's code is the program's.
-/
import Derived.Test.YtbcnnpfncedgaaaGreatDoorKData
import Derived.Test.YtbcnnpfncedgaaaGreatDoorKTop
import Derived.Test.YtbcnnpfncedgaaaGreatDoorChecked
import Derived.KernelRfl
namespace Go.KM.Tryz
open Go.Proofs
theorem c9 : kfunc Tryz.prog Tryz.f9 = some kf9 := by kernel_rfl
theorem n9 : Tryz.f9.name ≠ "runtime.NumGoroutine" := by decide +kernel
theorem t9 : Tied Tryz.prog 9 kf9 := ⟨_, Tryz.func9, c9, n9⟩
theorem c15 : kfunc Tryz.prog Tryz.f15 = some kf15 := by kernel_rfl
theorem n15 : Tryz.f15.name ≠ "runtime.NumGoroutine" := by decide +kernel
theorem t15 : Tied Tryz.prog 15 kf15 := ⟨_, Tryz.func15, c15, n15⟩
theorem c35 : kfunc Tryz.prog Tryz.f35 = some kf35 := by kernel_rfl
theorem n35 : Tryz.f35.name ≠ "runtime.NumGoroutine" := by decide +kernel
theorem t35 : Tied Tryz.prog 35 kf35 := ⟨_, Tryz.func35, c35, n35⟩
theorem c38 : kfunc Tryz.prog Tryz.f38 = some kf38 := by kernel_rfl
theorem n38 : Tryz.f38.name ≠ "runtime.NumGoroutine" := by decide +kernel
theorem t38 : Tied Tryz.prog 38 kf38 := ⟨_, Tryz.func38, c38, n38⟩
theorem c55 : kfunc Tryz.prog Tryz.f55 = some kf55 := by kernel_rfl
theorem n55 : Tryz.f55.name ≠ "runtime.NumGoroutine" := by decide +kernel
theorem t55 : Tied Tryz.prog 55 kf55 := ⟨_, Tryz.func55, c55, n55⟩
theorem c58 : kfunc Tryz.prog Tryz.f58 = some kf58 := by kernel_rfl
theorem n58 : Tryz.f58.name ≠ "runtime.NumGoroutine" := by decide +kernel
theorem t58 : Tied Tryz.prog 58 kf58 := ⟨_, Tryz.func58, c58, n58⟩
theorem c83 : kfunc Tryz.prog Tryz.f83 = some kf83 := by kernel_rfl
theorem n83 : Tryz.f83.name ≠ "runtime.NumGoroutine" := by decide +kernel
theorem t83 : Tied Tryz.prog 83 kf83 := ⟨_, Tryz.func83, c83, n83⟩
theorem c93 : kfunc Tryz.prog Tryz.f93 = some kf93 := by kernel_rfl
theorem n93 : Tryz.f93.name ≠ "runtime.NumGoroutine" := by decide +kernel
theorem t93 : Tied Tryz.prog 93 kf93 := ⟨_, Tryz.func93, c93, n93⟩
theorem c97 : kfunc Tryz.prog Tryz.f97 = some kf97 := by kernel_rfl
theorem n97 : Tryz.f97.name ≠ "runtime.NumGoroutine" := by decide +kernel
theorem t97 : Tied Tryz.prog 97 kf97 := ⟨_, Tryz.func97, c97, n97⟩
theorem c100 : kfunc Tryz.prog Tryz.f100 = some kf100 := by kernel_rfl
theorem n100 : Tryz.f100.name ≠ "runtime.NumGoroutine" := by decide +kernel
theorem t100 : Tied Tryz.prog 100 kf100 := ⟨_, Tryz.func100, c100, n100⟩
theorem c104 : kfunc Tryz.prog Tryz.f104 = some kf104 := by kernel_rfl
theorem n104 : Tryz.f104.name ≠ "runtime.NumGoroutine" := by decide +kernel
theorem t104 : Tied Tryz.prog 104 kf104 := ⟨_, Tryz.func104, c104, n104⟩
theorem c105 : kfunc Tryz.prog Tryz.f105 = some kf105 := by kernel_rfl
theorem n105 : Tryz.f105.name ≠ "runtime.NumGoroutine" := by decide +kernel
theorem t105 : Tied Tryz.prog 105 kf105 := ⟨_, Tryz.func105, c105, n105⟩
theorem c121 : kfunc Tryz.prog Tryz.f121 = some kf121 := by kernel_rfl
theorem n121 : Tryz.f121.name ≠ "runtime.NumGoroutine" := by decide +kernel
theorem t121 : Tied Tryz.prog 121 kf121 := ⟨_, Tryz.func121, c121, n121⟩
theorem c123 : kfunc Tryz.prog Tryz.f123 = some kf123 := by kernel_rfl
theorem n123 : Tryz.f123.name ≠ "runtime.NumGoroutine" := by decide +kernel
theorem t123 : Tied Tryz.prog 123 kf123 := ⟨_, Tryz.func123, c123, n123⟩
theorem c134 : kfunc Tryz.prog Tryz.f134 = some kf134 := by kernel_rfl
theorem n134 : Tryz.f134.name ≠ "runtime.NumGoroutine" := by decide +kernel
theorem t134 : Tied Tryz.prog 134 kf134 := ⟨_, Tryz.func134, c134, n134⟩
theorem c146 : kfunc Tryz.prog Tryz.f146 = some kf146 := by kernel_rfl
theorem n146 : Tryz.f146.name ≠ "runtime.NumGoroutine" := by decide +kernel
theorem t146 : Tied Tryz.prog 146 kf146 := ⟨_, Tryz.func146, c146, n146⟩
theorem c147 : kfunc Tryz.prog Tryz.f147 = some kf147 := by kernel_rfl
theorem n147 : Tryz.f147.name ≠ "runtime.NumGoroutine" := by decide +kernel
theorem t147 : Tied Tryz.prog 147 kf147 := ⟨_, Tryz.func147, c147, n147⟩
theorem c157 : kfunc Tryz.prog Tryz.f157 = some kf157 := by kernel_rfl
theorem n157 : Tryz.f157.name ≠ "runtime.NumGoroutine" := by decide +kernel
theorem t157 : Tied Tryz.prog 157 kf157 := ⟨_, Tryz.func157, c157, n157⟩
theorem c172 : kfunc Tryz.prog Tryz.f172 = some kf172 := by kernel_rfl
theorem n172 : Tryz.f172.name ≠ "runtime.NumGoroutine" := by decide +kernel
theorem t172 : Tied Tryz.prog 172 kf172 := ⟨_, Tryz.func172, c172, n172⟩
theorem c192 : kfunc Tryz.prog Tryz.f192 = some kf192 := by kernel_rfl
theorem n192 : Tryz.f192.name ≠ "runtime.NumGoroutine" := by decide +kernel
theorem t192 : Tied Tryz.prog 192 kf192 := ⟨_, Tryz.func192, c192, n192⟩
theorem c198 : kfunc Tryz.prog Tryz.f198 = some kf198 := by kernel_rfl
theorem n198 : Tryz.f198.name ≠ "runtime.NumGoroutine" := by decide +kernel
theorem t198 : Tied Tryz.prog 198 kf198 := ⟨_, Tryz.func198, c198, n198⟩
theorem c204 : kfunc Tryz.prog Tryz.f204 = some kf204 := by kernel_rfl
theorem n204 : Tryz.f204.name ≠ "runtime.NumGoroutine" := by decide +kernel
theorem t204 : Tied Tryz.prog 204 kf204 := ⟨_, Tryz.func204, c204, n204⟩
theorem c217 : kfunc Tryz.prog Tryz.f217 = some kf217 := by kernel_rfl
theorem n217 : Tryz.f217.name ≠ "runtime.NumGoroutine" := by decide +kernel
theorem t217 : Tied Tryz.prog 217 kf217 := ⟨_, Tryz.func217, c217, n217⟩
theorem c219 : kfunc Tryz.prog Tryz.f219 = some kf219 := by kernel_rfl
theorem n219 : Tryz.f219.name ≠ "runtime.NumGoroutine" := by decide +kernel
theorem t219 : Tied Tryz.prog 219 kf219 := ⟨_, Tryz.func219, c219, n219⟩
theorem c230 : kfunc Tryz.prog Tryz.f230 = some kf230 := by kernel_rfl
theorem n230 : Tryz.f230.name ≠ "runtime.NumGoroutine" := by decide +kernel
theorem t230 : Tied Tryz.prog 230 kf230 := ⟨_, Tryz.func230, c230, n230⟩
theorem c231 : kfunc Tryz.prog Tryz.f231 = some kf231 := by kernel_rfl
theorem n231 : Tryz.f231.name ≠ "runtime.NumGoroutine" := by decide +kernel
theorem t231 : Tied Tryz.prog 231 kf231 := ⟨_, Tryz.func231, c231, n231⟩
theorem c233 : kfunc Tryz.prog Tryz.f233 = some kf233 := by kernel_rfl
theorem n233 : Tryz.f233.name ≠ "runtime.NumGoroutine" := by decide +kernel
theorem t233 : Tied Tryz.prog 233 kf233 := ⟨_, Tryz.func233, c233, n233⟩
theorem c255 : kfunc Tryz.prog Tryz.f255 = some kf255 := by kernel_rfl
theorem n255 : Tryz.f255.name ≠ "runtime.NumGoroutine" := by decide +kernel
theorem t255 : Tied Tryz.prog 255 kf255 := ⟨_, Tryz.func255, c255, n255⟩
theorem c261 : kfunc Tryz.prog Tryz.f261 = some kf261 := by kernel_rfl
theorem n261 : Tryz.f261.name ≠ "runtime.NumGoroutine" := by decide +kernel
theorem t261 : Tied Tryz.prog 261 kf261 := ⟨_, Tryz.func261, c261, n261⟩
theorem c262 : kfunc Tryz.prog Tryz.f262 = some kf262 := by kernel_rfl
theorem n262 : Tryz.f262.name ≠ "runtime.NumGoroutine" := by decide +kernel
theorem t262 : Tied Tryz.prog 262 kf262 := ⟨_, Tryz.func262, c262, n262⟩
theorem c269 : kfunc Tryz.prog Tryz.f269 = some kf269 := by kernel_rfl
theorem n269 : Tryz.f269.name ≠ "runtime.NumGoroutine" := by decide +kernel
theorem t269 : Tied Tryz.prog 269 kf269 := ⟨_, Tryz.func269, c269, n269⟩
theorem c274 : kfunc Tryz.prog Tryz.f274 = some kf274 := by kernel_rfl
theorem n274 : Tryz.f274.name ≠ "runtime.NumGoroutine" := by decide +kernel
theorem t274 : Tied Tryz.prog 274 kf274 := ⟨_, Tryz.func274, c274, n274⟩
theorem c275 : kfunc Tryz.prog Tryz.f275 = some kf275 := by kernel_rfl
theorem n275 : Tryz.f275.name ≠ "runtime.NumGoroutine" := by decide +kernel
theorem t275 : Tied Tryz.prog 275 kf275 := ⟨_, Tryz.func275, c275, n275⟩
theorem c280 : kfunc Tryz.prog Tryz.f280 = some kf280 := by kernel_rfl
theorem n280 : Tryz.f280.name ≠ "runtime.NumGoroutine" := by decide +kernel
theorem t280 : Tied Tryz.prog 280 kf280 := ⟨_, Tryz.func280, c280, n280⟩
end Go.KM.Tryz
