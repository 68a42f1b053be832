/-
  FramesReckons: of two numbers, what is known holds.
-/
import Derived.Test.YtlcjlppdhjelfaaKScen
namespace Go.KM.Try
open Go
abbrev inR (x : Int) : Prop := -9223372036854775808 ≤ x ∧ x ≤ 9223372036854775807
theorem wrap_in {x : Int} (h : inR x) : IntKind.i64.wrap x = x := by
  obtain ⟨h1, h2⟩ := h
  simp [IntKind.wrap, IntKind.bits, IntKind.signed]; omega
theorem tdiv_tmod (a b : Int) : a.tdiv b * b + a.tmod b = a := by rw [Int.mul_comm]; exact Int.mul_tdiv_add_tmod a b
theorem tmod_abs (a b : Int) (hb : b ≠ 0) : (a.tmod b).natAbs < b.natAbs := by
  rw [Int.natAbs_tmod]; exact Nat.mod_lt _ (Int.natAbs_pos.2 hb)
def rho (a b : Int) : Nat → Int := fun i => match i with | 0 => a | _ => b
variable {a b : Int}
theorem vA : A.val (rho a b) = a := rfl
theorem vB : B.val (rho a b) = b := rfl
theorem vL (n : Int) : (SE.lit n).val (rho a b) = n := rfl
theorem vQ : Q.val (rho a b) = IntKind.i64.wrap (a.tdiv b) := rfl
theorem vR : Rm.val (rho a b) = a.tmod b := rfl
theorem vN (x : SE) : (ng x).val (rho a b) = IntKind.i64.wrap (0 - x.val (rho a b)) := rfl
theorem eqF_ok {x y : SE} {r : Bool} (h : (x.val (rho a b) == y.val (rho a b)) = r) : (eqF x y r).Ok (rho a b) := h
theorem ltF_ok {x y : SE} {r : Bool} (h : decide (x.val (rho a b) < y.val (rho a b)) = r) : (ltF x y r).Ok (rho a b) := h
theorem all_cons {l : List Fact} {f : Fact} (h : f.Ok (rho a b)) (hl : ∀ f ∈ l, f.Ok (rho a b)) : ∀ g ∈ f :: l, g.Ok (rho a b) := fun g hg => by
  rcases List.mem_cons.1 hg with rfl | hg
  · exact h
  · exact hl g hg
theorem all_nil : ∀ g ∈ ([] : List Fact), g.Ok (rho a b) := fun _ h => by cases h
theorem s0_ok (hb : b = 0) : ∀ f ∈ s0 (decide (a < b)) (a == b), f.Ok (rho a b) := by
  unfold s0
  exact all_cons (eqF_ok (by rw [vB, vL, hb]; rfl)) (all_cons (ltF_ok rfl) (all_cons (eqF_ok rfl) all_nil))
theorem s1_ok (hb : b = -1) : ∀ f ∈ s1 (decide (a < b)) (a == b), f.Ok (rho a b) := by
  have hq : a.tdiv b = 0 - a := by rw [hb, Int.tdiv_neg, Int.tdiv_one]; omega
  have hr : a.tmod b = 0 := by rw [hb, Int.tmod_neg, Int.tmod_one]
  unfold s1
  exact all_cons (eqF_ok (by rw [vB, vL, hb]; rfl)) (all_cons (eqF_ok (by rw [vB, vL, hb]; rfl)) (all_cons (ltF_ok rfl) (all_cons (eqF_ok rfl)
    (all_cons (eqF_ok (by rw [vQ, vN, vA, hq]; simp)) (all_cons (eqF_ok (by rw [vR, vL, hr]; rfl)) all_nil)))))
structure Ar (a b : Int) : Prop where
  q : inR (a.tdiv b)
  p : inR (a.tdiv b * b)
  s : a.tdiv b * b + a.tmod b = a
  r1 : (a.tmod b).natAbs < b.natAbs
  r2 : 0 ≤ a → 0 ≤ a.tmod b
  r3 : a ≤ 0 → a.tmod b ≤ 0
theorem ar (ha : inR a) (hb : b ≠ 0) (hb1 : b ≠ -1) : Ar a b := by
  have h1 := tdiv_tmod a b
  have h2 := tmod_abs a b hb
  have h3 : (a.tmod b).natAbs ≤ a.natAbs := by rw [Int.natAbs_tmod]; exact Nat.mod_le _ _
  have h4 : 0 ≤ a → 0 ≤ a.tmod b := fun h => Int.tmod_nonneg b h
  have h5 : a ≤ 0 → a.tmod b ≤ 0 := fun h => by
    have := Int.tmod_nonneg b (a := -a) (by omega)
    rw [Int.neg_tmod] at this; omega
  obtain ⟨a1, a2⟩ := ha
  refine ⟨?_, ?_, h1, h2, h4, h5⟩
  · by_cases hb2 : b = 1
    · rw [hb2, Int.tdiv_one]; exact ⟨a1, a2⟩
    · have h6 : (a.tdiv b).natAbs = a.natAbs / b.natAbs := Int.natAbs_tdiv a b
      have h7 : a.natAbs / b.natAbs ≤ a.natAbs / 2 := Nat.div_le_div_left (by omega) (by omega)
      constructor <;> omega
  · rcases Int.le_total 0 a with h | h
    · have := h4 h; constructor <;> omega
    · have := h5 h; constructor <;> omega
def restOf (a b : Int) : Option Bool := if a.tmod b = 0 then none else some (decide (a < 0))
theorem rest_ok (h : Ar a b) : ∀ f ∈ rest (restOf a b), f.Ok (rho a b) := by
  unfold restOf
  split
  · rename_i h0
    exact all_cons (eqF_ok (by rw [vR, vL, h0]; rfl)) all_nil
  · rename_i h0
    refine all_cons (eqF_ok (by rw [vR, vL]; simpa using h0)) (all_cons (ltF_ok ?_) (all_cons (ltF_ok (by rw [vA, vL])) all_nil))
    rw [vR, vL]
    have := h.r2; have := h.r3
    by_cases ha : a < 0
    · rw [decide_eq_true ha, decide_eq_true_eq]; omega
    · rw [decide_eq_false ha, decide_eq_false_iff_not]; omega
theorem whole_ok (ha : inR a) (h : Ar a b) : whole.Ok (rho a b) := by
  refine eqF_ok ?_
  have hv : (SE.op .add .i64 (.op .mul .i64 Q B) Rm).val (rho a b) = IntKind.i64.wrap (IntKind.i64.wrap (IntKind.i64.wrap (a.tdiv b) * b) + a.tmod b) := rfl
  rw [hv, wrap_in h.q, wrap_in h.p, h.s, wrap_in ha, vA]; simp
theorem all_app {l m : List Fact} (h : ∀ f ∈ l, f.Ok (rho a b)) (k : ∀ f ∈ m, f.Ok (rho a b)) : ∀ g ∈ l ++ m, g.Ok (rho a b) := fun g hg => by
  rcases List.mem_append.1 hg with hg | hg
  · exact h g hg
  · exact k g hg
theorem s2_ok (ha : inR a) (hb : b = -9223372036854775808) : ∀ f ∈ s2 (a == b) (restOf a b), f.Ok (rho a b) := by
  have h := ar ha (b := b) (by omega) (by omega)
  have hq : a.tdiv b = if a == b then 1 else 0 := by
    split
    · rename_i he
      have he : a = b := by simpa using he
      rw [he]; exact Int.tdiv_self (by omega)
    · rename_i he
      have he : a ≠ b := by simpa using he
      have h6 : (a.tdiv b).natAbs = a.natAbs / b.natAbs := Int.natAbs_tdiv a b
      have : a.natAbs / b.natAbs = 0 := Nat.div_eq_of_lt (by obtain ⟨h1, h2⟩ := ha; omega)
      omega
  unfold s2
  refine all_app (all_cons (eqF_ok ?_) (all_cons (eqF_ok ?_) (all_cons (whole_ok ha h) (all_cons (ltF_ok ?_) (all_cons (eqF_ok rfl) (all_cons (eqF_ok ?_) (all_cons (eqF_ok ?_) all_nil))))))) (rest_ok h)
  · rw [vB, vL, hb]; rfl
  · rw [vB, vL, hb]; rfl
  · rw [vA, vB]; obtain ⟨h1, h2⟩ := ha; simp; omega
  · rw [vB, vL, hb]; rfl
  · rw [vQ, vL, wrap_in h.q, hq]; simp
theorem s3_ok (ha : inR a) (hr : inR b) (h0 : b ≠ 0) (h1 : b ≠ -1) (hm : b ≠ -9223372036854775808) : ∀ f ∈ s3 (decide (b < 0)) (decide (a < b)) (a == b) (restOf a b), f.Ok (rho a b) := by
  have h := ar ha h0 h1
  unfold s3
  refine all_app (all_app (all_cons (eqF_ok ?_) (all_cons (eqF_ok ?_) (all_cons (whole_ok ha h) (all_cons (ltF_ok rfl) (all_cons (eqF_ok rfl) (all_cons (eqF_ok ?_) (all_cons (ltF_ok rfl) all_nil))))))) ?_) (rest_ok h)
  · rw [vB, vL]; simpa using h0
  · rw [vB, vL]; simpa using h1
  · rw [vB, vL]; simpa using hm
  · have r1 := h.r1
    obtain ⟨b1, b2⟩ := hr
    by_cases hn : b < 0
    · rw [if_pos (by simpa using hn)]
      have e1 : IntKind.i64.wrap (0 - b) = 0 - b := wrap_in ⟨by omega, by omega⟩
      have e2 : IntKind.i64.wrap (0 - (0 - b)) = 0 - (0 - b) := wrap_in ⟨by omega, by omega⟩
      refine all_cons (ltF_ok ?_) (all_cons (ltF_ok ?_) all_nil)
      · rw [vN, vN, vB, vR, e1, e2]; simp; omega
      · rw [vN, vB, vR, e1]; simp; omega
    · rw [if_neg (by simpa using hn)]
      have e1 : IntKind.i64.wrap (0 - b) = 0 - b := wrap_in ⟨by omega, by omega⟩
      refine all_cons (ltF_ok ?_) (all_cons (ltF_ok ?_) all_nil)
      · rw [vN, vB, vR, e1]; simp; omega
      · rw [vB, vR]; simp; omega
end Go.KM.Try
