/-
  AsmLabels: runs.
-/
import Derived.Test.YtffpkcmcoppbmaaGreatDoorALab
namespace Go.KM.Tryz
open Go
theorem lab_2_true : LabRun 2 true := by unfold LabRun; decide +kernel
theorem lab_2_false : LabRun 2 false := by unfold LabRun; decide +kernel
theorem lab_3_true : LabRun 3 true := by unfold LabRun; decide +kernel
theorem lab_3_false : LabRun 3 false := by unfold LabRun; decide +kernel
end Go.KM.Tryz
