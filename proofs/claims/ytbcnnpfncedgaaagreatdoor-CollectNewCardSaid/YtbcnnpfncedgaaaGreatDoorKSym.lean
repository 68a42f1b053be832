/-
  What is known of numbers that aren't known: a table.
-/
import Derived.Test.YtbcnnpfncedgaaaGreatDoorKTop
namespace Go.KM
/-- One thing that is known: 'eq': of '==' (else of '<'); the two; the answer. -/
structure Fact where
  eq : Bool
  x : SE
  y : SE
  r : Bool
noncomputable def Fact.Ok (ρ : Nat → Int) (f : Fact) : Prop := match f.eq with
  | true => (f.x.val ρ == f.y.val ρ) = f.r
  | false => decide (f.x.val ρ < f.y.val ρ) = f.r
noncomputable def tabF (l : List Fact) (eq : Bool) (x y : SE) : Option Bool :=
  List.rec (motive := fun _ => Option Bool) none (fun f _ ih => Bool.rec (motive := fun _ => Option Bool) ih (some f.r) (Bool.and (Bool.rec (motive := fun _ => Bool) (Bool.not eq) eq f.eq) (Bool.and (beqS f.x x) (beqS f.y y)))) l
noncomputable def tabD (l : List Fact) (o : BinOp) (x y : SE) : Option Bool := match o with
  | .eql => Bool.rec (motive := fun _ => Option Bool) (tabF l true x y) (some true) (beqS x y)
  | .lss => tabF l false x y
  | _ => none
theorem tabF_ok {ρ : Nat → Int} : ∀ {l : List Fact} {eq : Bool} {x y : SE} {c : Bool}, (∀ f ∈ l, f.Ok ρ) → tabF l eq x y = some c → Fact.Ok ρ ⟨eq, x, y, c⟩
  | [], _, _, _, _, _, h => by cases h
  | f :: l, eq, x, y, c, hl, h => by
    have hx : tabF (f :: l) eq x y = Bool.rec (motive := fun _ => Option Bool) (tabF l eq x y) (some f.r) (Bool.and (Bool.rec (motive := fun _ => Bool) (Bool.not eq) eq f.eq) (Bool.and (beqS f.x x) (beqS f.y y))) := rfl
    rw [hx] at h
    cases hb : Bool.and (Bool.rec (motive := fun _ => Bool) (Bool.not eq) eq f.eq) (Bool.and (beqS f.x x) (beqS f.y y)) with
    | false => rw [hb] at h; exact tabF_ok (fun f hf => hl f (List.mem_cons_of_mem _ hf)) h
    | true =>
      rw [hb] at h
      injection h with h
      simp only [and_iff] at hb
      obtain ⟨h1, h2, h3⟩ := hb
      have hf := hl f List.mem_cons_self
      obtain ⟨fe, fx, fy, fr⟩ := f
      have he : fe = eq := by cases fe <;> cases eq <;> first | rfl | cases h1
      have := beqS_eq h2; have := beqS_eq h3
      subst_vars
      exact hf
theorem tabD_ok {ρ : Nat → Int} {l : List Fact} (hl : ∀ f ∈ l, f.Ok ρ) : DOk ρ (tabD l) := by
  refine ⟨fun a b c h => ?_, fun a b c h => ?_⟩
  · have hx : tabD l .eql a b = Bool.rec (motive := fun _ => Option Bool) (tabF l true a b) (some true) (beqS a b) := rfl
    rw [hx] at h
    cases hb : beqS a b with
    | true => rw [hb] at h; injection h with h; subst h; rw [beqS_eq hb]; simp
    | false => rw [hb] at h; exact tabF_ok hl h
  · exact tabF_ok (eq := false) hl h
end Go.KM
