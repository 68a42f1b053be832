/-
  WRITTEN BY PROGRAM (ktie.py): the small machine's code is the program's.
-/
import Derived.Test.YtbcnnpfncedgaaaGreatDoorKData
import Derived.Test.YtbcnnpfncedgaaaGreatDoorKTop
import Derived.Test.YtbcnnpfncedgaaaGreatDoorChecked
import Derived.KernelRfl
namespace Go.KM.Tryz
open Go.Proofs
theorem c36 : kfunc Tryz.prog Tryz.f36 = some kf36 := by kernel_rfl
theorem n36 : Tryz.f36.name ≠ "runtime.NumGoroutine" := by decide +kernel
theorem t36 : Tied Tryz.prog 36 kf36 := ⟨_, Tryz.func36, c36, n36⟩
theorem c39 : kfunc Tryz.prog Tryz.f39 = some kf39 := by kernel_rfl
theorem n39 : Tryz.f39.name ≠ "runtime.NumGoroutine" := by decide +kernel
theorem t39 : Tied Tryz.prog 39 kf39 := ⟨_, Tryz.func39, c39, n39⟩
theorem c49 : kfunc Tryz.prog Tryz.f49 = some kf49 := by kernel_rfl
theorem n49 : Tryz.f49.name ≠ "runtime.NumGoroutine" := by decide +kernel
theorem t49 : Tied Tryz.prog 49 kf49 := ⟨_, Tryz.func49, c49, n49⟩
theorem c63 : kfunc Tryz.prog Tryz.f63 = some kf63 := by kernel_rfl
theorem n63 : Tryz.f63.name ≠ "runtime.NumGoroutine" := by decide +kernel
theorem t63 : Tied Tryz.prog 63 kf63 := ⟨_, Tryz.func63, c63, n63⟩
theorem c88 : kfunc Tryz.prog Tryz.f88 = some kf88 := by kernel_rfl
theorem n88 : Tryz.f88.name ≠ "runtime.NumGoroutine" := by decide +kernel
theorem t88 : Tied Tryz.prog 88 kf88 := ⟨_, Tryz.func88, c88, n88⟩
theorem c96 : kfunc Tryz.prog Tryz.f96 = some kf96 := by kernel_rfl
theorem n96 : Tryz.f96.name ≠ "runtime.NumGoroutine" := by decide +kernel
theorem t96 : Tied Tryz.prog 96 kf96 := ⟨_, Tryz.func96, c96, n96⟩
theorem c102 : kfunc Tryz.prog Tryz.f102 = some kf102 := by kernel_rfl
theorem n102 : Tryz.f102.name ≠ "runtime.NumGoroutine" := by decide +kernel
theorem t102 : Tied Tryz.prog 102 kf102 := ⟨_, Tryz.func102, c102, n102⟩
theorem c107 : kfunc Tryz.prog Tryz.f107 = some kf107 := by kernel_rfl
theorem n107 : Tryz.f107.name ≠ "runtime.NumGoroutine" := by decide +kernel
theorem t107 : Tied Tryz.prog 107 kf107 := ⟨_, Tryz.func107, c107, n107⟩
theorem c108 : kfunc Tryz.prog Tryz.f108 = some kf108 := by kernel_rfl
theorem n108 : Tryz.f108.name ≠ "runtime.NumGoroutine" := by decide +kernel
theorem t108 : Tied Tryz.prog 108 kf108 := ⟨_, Tryz.func108, c108, n108⟩
theorem c111 : kfunc Tryz.prog Tryz.f111 = some kf111 := by kernel_rfl
theorem n111 : Tryz.f111.name ≠ "runtime.NumGoroutine" := by decide +kernel
theorem t111 : Tied Tryz.prog 111 kf111 := ⟨_, Tryz.func111, c111, n111⟩
theorem c112 : kfunc Tryz.prog Tryz.f112 = some kf112 := by kernel_rfl
theorem n112 : Tryz.f112.name ≠ "runtime.NumGoroutine" := by decide +kernel
theorem t112 : Tied Tryz.prog 112 kf112 := ⟨_, Tryz.func112, c112, n112⟩
theorem c155 : kfunc Tryz.prog Tryz.f155 = some kf155 := by kernel_rfl
theorem n155 : Tryz.f155.name ≠ "runtime.NumGoroutine" := by decide +kernel
theorem t155 : Tied Tryz.prog 155 kf155 := ⟨_, Tryz.func155, c155, n155⟩
theorem c156 : kfunc Tryz.prog Tryz.f156 = some kf156 := by kernel_rfl
theorem n156 : Tryz.f156.name ≠ "runtime.NumGoroutine" := by decide +kernel
theorem t156 : Tied Tryz.prog 156 kf156 := ⟨_, Tryz.func156, c156, n156⟩
theorem c166 : kfunc Tryz.prog Tryz.f166 = some kf166 := by kernel_rfl
theorem n166 : Tryz.f166.name ≠ "runtime.NumGoroutine" := by decide +kernel
theorem t166 : Tied Tryz.prog 166 kf166 := ⟨_, Tryz.func166, c166, n166⟩
theorem c168 : kfunc Tryz.prog Tryz.f168 = some kf168 := by kernel_rfl
theorem n168 : Tryz.f168.name ≠ "runtime.NumGoroutine" := by decide +kernel
theorem t168 : Tied Tryz.prog 168 kf168 := ⟨_, Tryz.func168, c168, n168⟩
theorem c170 : kfunc Tryz.prog Tryz.f170 = some kf170 := by kernel_rfl
theorem n170 : Tryz.f170.name ≠ "runtime.NumGoroutine" := by decide +kernel
theorem t170 : Tied Tryz.prog 170 kf170 := ⟨_, Tryz.func170, c170, n170⟩
theorem c194 : kfunc Tryz.prog Tryz.f194 = some kf194 := by kernel_rfl
theorem n194 : Tryz.f194.name ≠ "runtime.NumGoroutine" := by decide +kernel
theorem t194 : Tied Tryz.prog 194 kf194 := ⟨_, Tryz.func194, c194, n194⟩
theorem c201 : kfunc Tryz.prog Tryz.f201 = some kf201 := by kernel_rfl
theorem n201 : Tryz.f201.name ≠ "runtime.NumGoroutine" := by decide +kernel
theorem t201 : Tied Tryz.prog 201 kf201 := ⟨_, Tryz.func201, c201, n201⟩
theorem c214 : kfunc Tryz.prog Tryz.f214 = some kf214 := by kernel_rfl
theorem n214 : Tryz.f214.name ≠ "runtime.NumGoroutine" := by decide +kernel
theorem t214 : Tied Tryz.prog 214 kf214 := ⟨_, Tryz.func214, c214, n214⟩
theorem c216 : kfunc Tryz.prog Tryz.f216 = some kf216 := by kernel_rfl
theorem n216 : Tryz.f216.name ≠ "runtime.NumGoroutine" := by decide +kernel
theorem t216 : Tied Tryz.prog 216 kf216 := ⟨_, Tryz.func216, c216, n216⟩
theorem c224 : kfunc Tryz.prog Tryz.f224 = some kf224 := by kernel_rfl
theorem n224 : Tryz.f224.name ≠ "runtime.NumGoroutine" := by decide +kernel
theorem t224 : Tied Tryz.prog 224 kf224 := ⟨_, Tryz.func224, c224, n224⟩
theorem c225 : kfunc Tryz.prog Tryz.f225 = some kf225 := by kernel_rfl
theorem n225 : Tryz.f225.name ≠ "runtime.NumGoroutine" := by decide +kernel
theorem t225 : Tied Tryz.prog 225 kf225 := ⟨_, Tryz.func225, c225, n225⟩
theorem c226 : kfunc Tryz.prog Tryz.f226 = some kf226 := by kernel_rfl
theorem n226 : Tryz.f226.name ≠ "runtime.NumGoroutine" := by decide +kernel
theorem t226 : Tied Tryz.prog 226 kf226 := ⟨_, Tryz.func226, c226, n226⟩
theorem c227 : kfunc Tryz.prog Tryz.f227 = some kf227 := by kernel_rfl
theorem n227 : Tryz.f227.name ≠ "runtime.NumGoroutine" := by decide +kernel
theorem t227 : Tied Tryz.prog 227 kf227 := ⟨_, Tryz.func227, c227, n227⟩
theorem c228 : kfunc Tryz.prog Tryz.f228 = some kf228 := by kernel_rfl
theorem n228 : Tryz.f228.name ≠ "runtime.NumGoroutine" := by decide +kernel
theorem t228 : Tied Tryz.prog 228 kf228 := ⟨_, Tryz.func228, c228, n228⟩
theorem c232 : kfunc Tryz.prog Tryz.f232 = some kf232 := by kernel_rfl
theorem n232 : Tryz.f232.name ≠ "runtime.NumGoroutine" := by decide +kernel
theorem t232 : Tied Tryz.prog 232 kf232 := ⟨_, Tryz.func232, c232, n232⟩
theorem c239 : kfunc Tryz.prog Tryz.f239 = some kf239 := by kernel_rfl
theorem n239 : Tryz.f239.name ≠ "runtime.NumGoroutine" := by decide +kernel
theorem t239 : Tied Tryz.prog 239 kf239 := ⟨_, Tryz.func239, c239, n239⟩
theorem c267 : kfunc Tryz.prog Tryz.f267 = some kf267 := by kernel_rfl
theorem n267 : Tryz.f267.name ≠ "runtime.NumGoroutine" := by decide +kernel
theorem t267 : Tied Tryz.prog 267 kf267 := ⟨_, Tryz.func267, c267, n267⟩
theorem c268 : kfunc Tryz.prog Tryz.f268 = some kf268 := by kernel_rfl
theorem n268 : Tryz.f268.name ≠ "runtime.NumGoroutine" := by decide +kernel
theorem t268 : Tied Tryz.prog 268 kf268 := ⟨_, Tryz.func268, c268, n268⟩
theorem c273 : kfunc Tryz.prog Tryz.f273 = some kf273 := by kernel_rfl
theorem n273 : Tryz.f273.name ≠ "runtime.NumGoroutine" := by decide +kernel
theorem t273 : Tied Tryz.prog 273 kf273 := ⟨_, Tryz.func273, c273, n273⟩
theorem c281 : kfunc Tryz.prog Tryz.f281 = some kf281 := by kernel_rfl
theorem n281 : Tryz.f281.name ≠ "runtime.NumGoroutine" := by decide +kernel
theorem t281 : Tied Tryz.prog 281 kf281 := ⟨_, Tryz.func281, c281, n281⟩
theorem c285 : kfunc Tryz.prog Tryz.f285 = some kf285 := by kernel_rfl
theorem n285 : Tryz.f285.name ≠ "runtime.NumGoroutine" := by decide +kernel
theorem t285 : Tied Tryz.prog 285 kf285 := ⟨_, Tryz.func285, c285, n285⟩
end Go.KM.Tryz
