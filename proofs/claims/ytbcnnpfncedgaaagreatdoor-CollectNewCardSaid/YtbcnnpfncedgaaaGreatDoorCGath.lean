/-
  One of two objects is freed: the collector's run.
-/
import Derived.Test.YtbcnnpfncedgaaaGreatDoorCScen
namespace Go.KM.Tryz
open Go
theorem gathered_run : isTrue (callC K0 100000 35 [] ah0) = true := by decide +kernel
end Go.KM.Tryz
