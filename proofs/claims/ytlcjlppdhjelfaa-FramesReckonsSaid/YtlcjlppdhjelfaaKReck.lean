/-
  FramesReckons answers true: of every two numbers one of the runs speaks.
-/
import Derived.Test.YtlcjlppdhjelfaaKScen
import Derived.Eval
namespace Go.KM.Try
open Go Go.RowKit Go.Proofs
theorem kok (W : World) (ρ : Nat → Int) {l : List Fact} (hl : ∀ f ∈ l, f.Ok ρ) : KOk Try.prog W ρ (KK l) where
  mixed := Checked.mixed Try.checked
  g := fun _ _ e => by cases e
  D := tabD_ok hl
  F := fun f k h => PT.all_get tied f k h
  pr := fun f p _ hp vs h hb => by
    have hx : prs f = some p := hp
    unfold prs at hx
    cases h64 : Nat.beq f 64 with
    | false => rw [h64] at hx; cases hx
    | true =>
      rw [h64] at hx
      injection hx with hx; subst hx
      have := beq_iff.1 h64; subst this
      exact lowest_ok vs h hb
theorem of_run {a b : Int} {l : List Fact} (hr : Runs l) (w : World) (hl : ∀ f ∈ l, f.Ok (fun i => match i with | 0 => a | _ => b)) :
    Calls Try.prog 3 #[.int .i64 a, .int .i64 b] w fun e w' => e = .returned (.bool true) ∧ Below w.heap.size w w' := by
  unfold Runs isTrue at hr
  split at hr
  · rename_i h' he
    exact true_sound (kok w _ hl) (vs' := [.int .i64 a, .int .i64 b]) he (.cons _ _ _ _ (.sym .i64 (.var 0)) (.cons _ _ _ _ (.sym .i64 (.var 1)) .nil))
  · cases hr
end Go.KM.Try
