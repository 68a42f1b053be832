/-
  WRITTEN BY PROGRAM (ktie.py): the small machine's code is the program's.
-/
import Derived.Test.YtffpkcmcoppbmaaGreatDoorKData
import Derived.Test.YtffpkcmcoppbmaaGreatDoorKTop
import Derived.Test.YtffpkcmcoppbmaaGreatDoorChecked
import Derived.KernelRfl
namespace Go.KM.Tryz
open Go.Proofs
theorem c52 : kfunc Tryz.prog Tryz.f52 = some kf52 := by kernel_rfl
theorem n52 : Tryz.f52.name ≠ "runtime.NumGoroutine" := by decide +kernel
theorem t52 : Tied Tryz.prog 52 kf52 := ⟨_, Tryz.func52, c52, n52⟩
theorem c63 : kfunc Tryz.prog Tryz.f63 = some kf63 := by kernel_rfl
theorem n63 : Tryz.f63.name ≠ "runtime.NumGoroutine" := by decide +kernel
theorem t63 : Tied Tryz.prog 63 kf63 := ⟨_, Tryz.func63, c63, n63⟩
theorem c97 : kfunc Tryz.prog Tryz.f97 = some kf97 := by kernel_rfl
theorem n97 : Tryz.f97.name ≠ "runtime.NumGoroutine" := by decide +kernel
theorem t97 : Tied Tryz.prog 97 kf97 := ⟨_, Tryz.func97, c97, n97⟩
theorem c98 : kfunc Tryz.prog Tryz.f98 = some kf98 := by kernel_rfl
theorem n98 : Tryz.f98.name ≠ "runtime.NumGoroutine" := by decide +kernel
theorem t98 : Tied Tryz.prog 98 kf98 := ⟨_, Tryz.func98, c98, n98⟩
theorem c100 : kfunc Tryz.prog Tryz.f100 = some kf100 := by kernel_rfl
theorem n100 : Tryz.f100.name ≠ "runtime.NumGoroutine" := by decide +kernel
theorem t100 : Tied Tryz.prog 100 kf100 := ⟨_, Tryz.func100, c100, n100⟩
theorem c103 : kfunc Tryz.prog Tryz.f103 = some kf103 := by kernel_rfl
theorem n103 : Tryz.f103.name ≠ "runtime.NumGoroutine" := by decide +kernel
theorem t103 : Tied Tryz.prog 103 kf103 := ⟨_, Tryz.func103, c103, n103⟩
theorem c109 : kfunc Tryz.prog Tryz.f109 = some kf109 := by kernel_rfl
theorem n109 : Tryz.f109.name ≠ "runtime.NumGoroutine" := by decide +kernel
theorem t109 : Tied Tryz.prog 109 kf109 := ⟨_, Tryz.func109, c109, n109⟩
theorem c121 : kfunc Tryz.prog Tryz.f121 = some kf121 := by kernel_rfl
theorem n121 : Tryz.f121.name ≠ "runtime.NumGoroutine" := by decide +kernel
theorem t121 : Tied Tryz.prog 121 kf121 := ⟨_, Tryz.func121, c121, n121⟩
theorem c143 : kfunc Tryz.prog Tryz.f143 = some kf143 := by kernel_rfl
theorem n143 : Tryz.f143.name ≠ "runtime.NumGoroutine" := by decide +kernel
theorem t143 : Tied Tryz.prog 143 kf143 := ⟨_, Tryz.func143, c143, n143⟩
theorem c146 : kfunc Tryz.prog Tryz.f146 = some kf146 := by kernel_rfl
theorem n146 : Tryz.f146.name ≠ "runtime.NumGoroutine" := by decide +kernel
theorem t146 : Tied Tryz.prog 146 kf146 := ⟨_, Tryz.func146, c146, n146⟩
theorem c148 : kfunc Tryz.prog Tryz.f148 = some kf148 := by kernel_rfl
theorem n148 : Tryz.f148.name ≠ "runtime.NumGoroutine" := by decide +kernel
theorem t148 : Tied Tryz.prog 148 kf148 := ⟨_, Tryz.func148, c148, n148⟩
theorem c157 : kfunc Tryz.prog Tryz.f157 = some kf157 := by kernel_rfl
theorem n157 : Tryz.f157.name ≠ "runtime.NumGoroutine" := by decide +kernel
theorem t157 : Tied Tryz.prog 157 kf157 := ⟨_, Tryz.func157, c157, n157⟩
theorem c167 : kfunc Tryz.prog Tryz.f167 = some kf167 := by kernel_rfl
theorem n167 : Tryz.f167.name ≠ "runtime.NumGoroutine" := by decide +kernel
theorem t167 : Tied Tryz.prog 167 kf167 := ⟨_, Tryz.func167, c167, n167⟩
theorem c168 : kfunc Tryz.prog Tryz.f168 = some kf168 := by kernel_rfl
theorem n168 : Tryz.f168.name ≠ "runtime.NumGoroutine" := by decide +kernel
theorem t168 : Tied Tryz.prog 168 kf168 := ⟨_, Tryz.func168, c168, n168⟩
theorem c175 : kfunc Tryz.prog Tryz.f175 = some kf175 := by kernel_rfl
theorem n175 : Tryz.f175.name ≠ "runtime.NumGoroutine" := by decide +kernel
theorem t175 : Tied Tryz.prog 175 kf175 := ⟨_, Tryz.func175, c175, n175⟩
theorem c176 : kfunc Tryz.prog Tryz.f176 = some kf176 := by kernel_rfl
theorem n176 : Tryz.f176.name ≠ "runtime.NumGoroutine" := by decide +kernel
theorem t176 : Tied Tryz.prog 176 kf176 := ⟨_, Tryz.func176, c176, n176⟩
theorem c185 : kfunc Tryz.prog Tryz.f185 = some kf185 := by kernel_rfl
theorem n185 : Tryz.f185.name ≠ "runtime.NumGoroutine" := by decide +kernel
theorem t185 : Tied Tryz.prog 185 kf185 := ⟨_, Tryz.func185, c185, n185⟩
end Go.KM.Tryz
