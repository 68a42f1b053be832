/-
  WRITTEN BY PROGRAM (runs.py): FramesReckons, run.
-/
import Derived.Test.YtlcjlppdhjelfaaKScen
namespace Go.KM.Try
theorem run_s1_true_false : Runs (s1 true false) := by unfold Runs; decide +kernel
theorem run_s2_false_none : Runs (s2 false none) := by unfold Runs; decide +kernel
theorem run_s3_true_true_false_true : Runs (s3 true true false (some true)) := by unfold Runs; decide +kernel
theorem run_s3_true_false_true_false : Runs (s3 true false true (some false)) := by unfold Runs; decide +kernel
theorem run_s3_false_true_false_none : Runs (s3 false true false none) := by unfold Runs; decide +kernel
theorem run_s3_false_false_true_true : Runs (s3 false false true (some true)) := by unfold Runs; decide +kernel
theorem run_s3_false_false_false_false : Runs (s3 false false false (some false)) := by unfold Runs; decide +kernel
end Go.KM.Try
