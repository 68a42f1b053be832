/-
  AsmLabels: runs.
-/
import Derived.Test.YtffpkcmcoppbmaaGreatDoorALab
namespace Go.KM.Tryz
open Go
theorem lab_4_true : LabRun 4 true := by unfold LabRun; decide +kernel
theorem lab_4_false : LabRun 4 false := by unfold LabRun; decide +kernel
theorem lab_5_true : LabRun 5 true := by unfold LabRun; decide +kernel
theorem lab_5_false : LabRun 5 false := by unfold LabRun; decide +kernel
end Go.KM.Tryz
