/-
  WRITTEN BY PROGRAM (runs.py): FramesReckons, run.
-/
import Derived.Test.YtlcjlppdhjelfaaKScen
namespace Go.KM.Try
theorem run_s0_false_true : Runs (s0 false true) := by unfold Runs; decide +kernel
theorem run_s1_false_false : Runs (s1 false false) := by unfold Runs; decide +kernel
theorem run_s2_false_false : Runs (s2 false (some false)) := by unfold Runs; decide +kernel
theorem run_s3_true_false_true_none : Runs (s3 true false true none) := by unfold Runs; decide +kernel
theorem run_s3_true_false_false_true : Runs (s3 true false false (some true)) := by unfold Runs; decide +kernel
theorem run_s3_false_true_false_false : Runs (s3 false true false (some false)) := by unfold Runs; decide +kernel
theorem run_s3_false_false_false_none : Runs (s3 false false false none) := by unfold Runs; decide +kernel
end Go.KM.Try
