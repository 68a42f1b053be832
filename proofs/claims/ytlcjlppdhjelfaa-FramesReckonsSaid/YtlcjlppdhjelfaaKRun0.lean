/-
  WRITTEN BY PROGRAM (runs.py): FramesReckons, run.
-/
import Derived.Test.YtlcjlppdhjelfaaKScen
namespace Go.KM.Try
theorem run_s0_true_false : Runs (s0 true false) := by unfold Runs; decide +kernel
theorem run_s1_false_true : Runs (s1 false true) := by unfold Runs; decide +kernel
theorem run_s2_false_true : Runs (s2 false (some true)) := by unfold Runs; decide +kernel
theorem run_s3_true_true_false_false : Runs (s3 true true false (some false)) := by unfold Runs; decide +kernel
theorem run_s3_true_false_false_none : Runs (s3 true false false none) := by unfold Runs; decide +kernel
theorem run_s3_false_true_false_true : Runs (s3 false true false (some true)) := by unfold Runs; decide +kernel
theorem run_s3_false_false_true_false : Runs (s3 false false true (some false)) := by unfold Runs; decide +kernel
end Go.KM.Try
