/-
  FramesReckons: whatever the two numbers. (The cases' list by program: gen_walk.py.)
-/
import Derived.Test.YtlcjlppdhjelfaaKRun0
import Derived.Test.YtlcjlppdhjelfaaKRun1
import Derived.Test.YtlcjlppdhjelfaaKRun2
import Derived.Test.YtlcjlppdhjelfaaKRun3
import Derived.Test.YtlcjlppdhjelfaaKReck
import Derived.Test.YtlcjlppdhjelfaaKArith
namespace Go.KM.Try
open Go Go.RowKit Go.Proofs
theorem order (a b : Int) : (decide (a < b) = true ∧ (a == b) = false) ∨ (decide (a < b) = false ∧ (a == b) = true) ∨ (decide (a < b) = false ∧ (a == b) = false) := by
  rcases Int.lt_trichotomy a b with h | h | h
  · exact .inl ⟨by simpa using h, by simp; omega⟩
  · exact .inr (.inl ⟨by simp; omega, by simpa using h⟩)
  · exact .inr (.inr ⟨by simp; omega, by simp; omega⟩)
theorem three (r : Option Bool) : r = none ∨ r = some true ∨ r = some false := by
  rcases r with _ | _ | _ <;> simp
theorem runs0 (a b : Int) : Runs (s0 (decide (a < b)) (a == b)) := by
  rcases order a b with ⟨h1, h2⟩ | ⟨h1, h2⟩ | ⟨h1, h2⟩ <;> rw [h1, h2]
  · exact run_s0_true_false
  · exact run_s0_false_true
  · exact run_s0_false_false
theorem runs1 (a b : Int) : Runs (s1 (decide (a < b)) (a == b)) := by
  rcases order a b with ⟨h1, h2⟩ | ⟨h1, h2⟩ | ⟨h1, h2⟩ <;> rw [h1, h2]
  · exact run_s1_true_false
  · exact run_s1_false_true
  · exact run_s1_false_false
theorem runs2 (a b : Int) (hb : b ≠ 0) : Runs (s2 (a == b) (restOf a b)) := by
  cases he : a == b with
  | true =>
    have he : a = b := by simpa using he
    have : restOf a b = none := by unfold restOf; rw [if_pos (by rw [he]; exact Int.tmod_self)]
    rw [this]; exact run_s2_true_none
  | false =>
    rcases three (restOf a b) with h | h | h <;> rw [h]
    · exact run_s2_false_none
    · exact run_s2_false_true
    · exact run_s2_false_false
theorem runs3 (a b : Int) : Runs (s3 (decide (b < 0)) (decide (a < b)) (a == b) (restOf a b)) := by
  cases hn : decide (b < 0) with
  | true =>
    rcases order a b with ⟨h1, h2⟩ | ⟨h1, h2⟩ | ⟨h1, h2⟩ <;> rw [h1, h2]
    · rcases three (restOf a b) with h | h | h <;> rw [h]
      · exact run_s3_true_true_false_none
      · exact run_s3_true_true_false_true
      · exact run_s3_true_true_false_false
    · rcases three (restOf a b) with h | h | h <;> rw [h]
      · exact run_s3_true_false_true_none
      · exact run_s3_true_false_true_true
      · exact run_s3_true_false_true_false
    · rcases three (restOf a b) with h | h | h <;> rw [h]
      · exact run_s3_true_false_false_none
      · exact run_s3_true_false_false_true
      · exact run_s3_true_false_false_false
  | false =>
    rcases order a b with ⟨h1, h2⟩ | ⟨h1, h2⟩ | ⟨h1, h2⟩ <;> rw [h1, h2]
    · rcases three (restOf a b) with h | h | h <;> rw [h]
      · exact run_s3_false_true_false_none
      · exact run_s3_false_true_false_true
      · exact run_s3_false_true_false_false
    · rcases three (restOf a b) with h | h | h <;> rw [h]
      · exact run_s3_false_false_true_none
      · exact run_s3_false_false_true_true
      · exact run_s3_false_false_true_false
    · rcases three (restOf a b) with h | h | h <;> rw [h]
      · exact run_s3_false_false_false_none
      · exact run_s3_false_false_false_true
      · exact run_s3_false_false_false_false
theorem reckons (a b : Int) (ha : inR a) (hb : inR b) (w : World) : Calls Try.prog 3 #[.int .i64 a, .int .i64 b] w fun e w' => e = .returned (.bool true) ∧ Below w.heap.size w w' := by
  by_cases h0 : b = 0
  · exact of_run (runs0 a b) w (s0_ok h0)
  by_cases h1 : b = -1
  · exact of_run (runs1 a b) w (s1_ok h1)
  by_cases hm : b = -9223372036854775808
  · exact of_run (runs2 a b h0) w (s2_ok ha hm)
  · exact of_run (runs3 a b) w (s3_ok ha hb h0 h1 hm)
end Go.KM.Try
