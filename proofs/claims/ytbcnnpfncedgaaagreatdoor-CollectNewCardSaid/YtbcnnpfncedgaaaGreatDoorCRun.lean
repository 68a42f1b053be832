/-
  CollectNew: the runs.
-/
import Derived.Test.YtbcnnpfncedgaaaGreatDoorCScen
namespace Go.KM.Tryz
open Go
theorem run_p (a : At) (h : a ≠ .mid) : Runs (atF 0 32 a) := by
  unfold Runs; cases a <;> first | exact absurd rfl h | decide +kernel
theorem run_t (a : At) (h : a ≠ .mid) : Runs (atF 0 32 .mid ++ atF 1 6 a) := by
  unfold Runs; cases a <;> first | exact absurd rfl h | decide +kernel
theorem run_r (a : At) (h : a ≠ .mid) : Runs (atF 0 32 .mid ++ atF 1 6 .mid ++ atF 2 16 a) := by
  unfold Runs; cases a <;> first | exact absurd rfl h | decide +kernel
theorem run_m (a : At) : Runs (atF 0 32 .mid ++ atF 1 6 .mid ++ atF 2 16 .mid ++ atF 3 64 a ++ baseF) := by
  unfold Runs; cases a <;> decide +kernel
end Go.KM.Tryz
