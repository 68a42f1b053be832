/-
  CollectNew answers true, whatever the plan's numbers and the stack's size.
-/
import Derived.Test.YtbcnnpfncedgaaaGreatDoorCGath
import Derived.Test.YtbcnnpfncedgaaaGreatDoorCRun
namespace Go.KM.Tryz
open Go Go.RowKit Go.Proofs
abbrev inR (x : Int) : Prop := -9223372036854775808 ≤ x ∧ x ≤ 9223372036854775807
theorem wrap_in {x : Int} (h : inR x) : IntKind.i64.wrap x = x := by
  obtain ⟨h1, h2⟩ := h
  simp [IntKind.wrap, IntKind.bits, IntKind.signed]; omega
theorem kok0 (W : World) (ρ : Nat → Int) : KOk Tryz.prog W ρ K0 where
  mixed := Checked.mixed Tryz.checked
  g := fun _ _ e => by cases e
  D := ⟨fun _ _ _ e => (by cases e), fun _ _ _ e => (by cases e)⟩
  F := fun f k h => PT.all_get tied f k h
  pr := fun _ _ _ e => by cases e
theorem kok (W : World) (ρ : Nat → Int) {l : List Fact} (hl : ∀ f ∈ l, f.Ok ρ) : KOk Tryz.prog W ρ (KN l) where
  mixed := Checked.mixed Tryz.checked
  g := fun _ _ e => by cases e
  D := tabD_ok hl
  F := fun f k h => by
    have hx : Bool.rec (motive := fun _ => Option KF) (tree.get f) none (Nat.beq f 35) = some k := h
    cases hb : Nat.beq f 35 with
    | true => rw [hb] at hx; cases hx
    | false => rw [hb] at hx; exact PT.all_get tied f k hx
  pr := fun f p _ hp vs h hb => by
    have hx : prs f = some p := hp
    unfold prs at hx
    cases h35 : Nat.beq f 35 with
    | false => rw [h35] at hx; cases hx
    | true =>
      rw [h35] at hx
      injection hx with hx; subst hx
      have := beq_iff.1 h35; subst this
      exact pr_true (K := fun _ => K0) (fun w _ => kok0 w ρ) (fun _ => gathered_run) (by kernel_rfl) vs h hb
def rho (p t r m : Int) : Nat → Int := fun i => match i with | 0 => p | 1 => t | 2 => r | _ => m
theorem of_run {p t r m : Int} {l : List Fact} (hr : Runs l) (w : World) (hl : ∀ f ∈ l, f.Ok (rho p t r m)) :
    Calls Tryz.prog 9 #[.agg #[.int .i64 p, .int .i64 t, .int .i64 r], .int .i64 m] w fun e w' => e = .returned (.bool true) ∧ Below w.heap.size w w' := by
  obtain ⟨h', he⟩ := isTrue_ok hr
  exact true_sound (kok w _ hl) (vs' := [.agg #[.int .i64 p, .int .i64 t, .int .i64 r], .int .i64 m]) he
    (.cons _ _ _ _ (.agg _ _ (.cons _ _ _ _ (.sym .i64 (.var 0)) (.cons _ _ _ _ (.sym .i64 (.var 1)) (.cons _ _ _ _ (.sym .i64 (.var 2)) .nil)))) (.cons _ _ _ _ (.sym .i64 (.var 3)) .nil))
section
variable {ρ : Nat → Int}
theorem eqF_ok {x y : SE} {c : Bool} (h : (x.val ρ == y.val ρ) = c) : (eqF x y c).Ok ρ := h
theorem ltF_ok {x y : SE} {c : Bool} (h : decide (x.val ρ < y.val ρ) = c) : (ltF x y c).Ok ρ := h
theorem all_cons {l : List Fact} {f : Fact} (h : f.Ok ρ) (hl : ∀ f ∈ l, f.Ok ρ) : ∀ g ∈ f :: l, g.Ok ρ := fun g hg => by
  rcases List.mem_cons.1 hg with rfl | hg
  · exact h
  · exact hl g hg
theorem all_nil : ∀ g ∈ ([] : List Fact), g.Ok ρ := fun _ h => by cases h
theorem all_app {l m : List Fact} (h : ∀ f ∈ l, f.Ok ρ) (k : ∀ f ∈ m, f.Ok ρ) : ∀ g ∈ l ++ m, g.Ok ρ := fun g hg => by
  rcases List.mem_append.1 hg with hg | hg
  · exact h g hg
  · exact k g hg
def atOf (x m : Int) : At := if x < 1 then .low else if m < x then .high else .mid
theorem at_ok (i : Nat) (m : Int) : ∀ f ∈ atF i m (atOf (ρ i) m), f.Ok ρ := by
  unfold atOf
  split
  · rename_i h
    exact all_cons (ltF_ok (by show decide (ρ i < 1) = true; simpa using h)) all_nil
  · rename_i h
    split
    · rename_i h2
      exact all_cons (ltF_ok (by show decide (ρ i < 1) = false; simpa using h)) (all_cons (ltF_ok (by show decide (m < ρ i) = true; simpa using h2)) all_nil)
    · rename_i h2
      exact all_cons (ltF_ok (by show decide (ρ i < 1) = false; simpa using h)) (all_cons (ltF_ok (by show decide (m < ρ i) = false; simpa using h2)) all_nil)
theorem at_mid {x m : Int} (h : atOf x m = .mid) : 1 ≤ x ∧ x ≤ m := by
  unfold atOf at h
  split at h
  · cases h
  · split at h
    · cases h
    · omega
end
theorem base_ok (p t r m : Int) (hp : 1 ≤ p ∧ p ≤ 32) (ht : 1 ≤ t ∧ t ≤ 6) (hr : 1 ≤ r ∧ r ≤ 16) : ∀ f ∈ baseF, f.Ok (rho p t r m) := by
  refine all_cons (eqF_ok rfl) (all_cons (ltF_ok ?_) all_nil)
  have hv : baseE.val (rho p t r m) = IntKind.i64.wrap (IntKind.i64.wrap ((IntKind.i64.wrap (IntKind.i64.wrap (IntKind.i64.wrap (IntKind.i64.wrap (16 + IntKind.i64.wrap (t * IntKind.i64.wrap (5 + r))) + IntKind.i64.wrap (3 * p)) + 64) - 1)).tdiv 64) * 64) := rfl
  rw [hv, wrap_in (x := 5 + r) ⟨by omega, by omega⟩]
  have hm : 0 ≤ t * (5 + r) ∧ t * (5 + r) ≤ 200 := by
    have : t = 1 ∨ t = 2 ∨ t = 3 ∨ t = 4 ∨ t = 5 ∨ t = 6 := by omega
    rcases this with rfl | rfl | rfl | rfl | rfl | rfl <;> omega
  generalize t * (5 + r) = q at hm ⊢
  rw [wrap_in (x := q) ⟨by omega, by omega⟩, wrap_in (x := 16 + q) ⟨by omega, by omega⟩, wrap_in (x := 3 * p) ⟨by omega, by omega⟩, wrap_in (x := 16 + q + 3 * p) ⟨by omega, by omega⟩, wrap_in (x := 16 + q + 3 * p + 64) ⟨by omega, by omega⟩,
    wrap_in (x := 16 + q + 3 * p + 64 - 1) ⟨by omega, by omega⟩, Int.tdiv_eq_ediv_of_nonneg (by omega), wrap_in (x := (16 + q + 3 * p + 64 - 1) / 64) ⟨by omega, by omega⟩, wrap_in (x := (16 + q + 3 * p + 64 - 1) / 64 * 64) ⟨by omega, by omega⟩]
  show decide ((16 + q + 3 * p + 64 - 1) / 64 * 64 < 0) = false
  rw [decide_eq_false_iff_not]; omega
theorem new_true (p t r m : Int) (w : World) : Calls Tryz.prog 9 #[.agg #[.int .i64 p, .int .i64 t, .int .i64 r], .int .i64 m] w fun e w' => e = .returned (.bool true) ∧ Below w.heap.size w w' := by
  have h0 := at_ok (ρ := rho p t r m) 0 32
  have h1 := at_ok (ρ := rho p t r m) 1 6
  have h2 := at_ok (ρ := rho p t r m) 2 16
  have h3 := at_ok (ρ := rho p t r m) 3 64
  by_cases hp : atOf p 32 = .mid
  · rw [show rho p t r m 0 = p from rfl, hp] at h0
    by_cases ht : atOf t 6 = .mid
    · rw [show rho p t r m 1 = t from rfl, ht] at h1
      by_cases hr : atOf r 16 = .mid
      · rw [show rho p t r m 2 = r from rfl, hr] at h2
        exact of_run (run_m _) w (all_app (all_app (all_app (all_app h0 h1) h2) h3) (base_ok p t r m (at_mid hp) (at_mid ht) (at_mid hr)))
      · exact of_run (run_r _ hr) w (all_app (all_app h0 h1) h2)
    · exact of_run (run_t _ ht) w (all_app h0 h1)
  · exact of_run (run_p _ hp) w h0
end Go.KM.Tryz
