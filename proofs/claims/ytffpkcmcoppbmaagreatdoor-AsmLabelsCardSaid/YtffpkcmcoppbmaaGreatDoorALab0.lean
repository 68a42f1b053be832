/-
  AsmLabels: runs.
-/
import Derived.Test.YtffpkcmcoppbmaaGreatDoorALab
namespace Go.KM.Tryz
open Go
theorem lab_0_true : LabRun 0 true := by unfold LabRun; decide +kernel
theorem lab_0_false : LabRun 0 false := by unfold LabRun; decide +kernel
theorem lab_1_true : LabRun 1 true := by unfold LabRun; decide +kernel
theorem lab_1_false : LabRun 1 false := by unfold LabRun; decide +kernel
end Go.KM.Tryz
