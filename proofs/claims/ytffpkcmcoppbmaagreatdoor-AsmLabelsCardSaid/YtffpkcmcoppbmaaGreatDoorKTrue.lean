/-
  A call without arguments that answers true, from nothing: it does so wherever it stands; so it may be taken for granted.
-/
import Derived.Test.YtffpkcmcoppbmaaGreatDoorKTop
namespace Go.KM
open Go.RowKit
noncomputable def isTrue (r : R AV) : Bool := match r with
  | .ok (.bool true) _ => true
  | _ => false
theorem isTrue_ok {r : R AV} (h : isTrue r = true) : ∃ h', r = .ok (.bool true) h' := by
  unfold isTrue at h
  split at h
  · exact ⟨_, rfl⟩
  · cases h
noncomputable def trueP (vs : List AV) (h : AH) : R AV := match vs with
  | [] => .ok (.bool true) h
  | _ => .bad
section
variable {P : Program} {W : World} {ρ : Nat → Int}
/-- What a call leaves that only makes memory of its own. -/
theorem Inv.later {ι : Inj} {h : AH} {w w' : World} (I : Inv W ρ ι h w) (hb : Below w.heap.size w w') : Inv W ρ ι h w' := by
  have hs := I.below.size
  have hz := hb.size
  refine ⟨I.below.trans (hb.mono hs), I.dom, ?_, ?_, ?_, I.inj⟩
  · intro b cb co sz e
    obtain ⟨h1, h2⟩ := I.rng b cb co sz e
    exact ⟨h1, Nat.lt_of_lt_of_le h2 hz⟩
  · intro b cs cb co sz e hc
    rw [hb.block cb (I.rng b cb co sz e).2]
    exact I.cells b cs cb co sz e hc
  · intro b es cb co sz e hc
    rw [hb.block cb (I.rng b cb co sz e).2]
    exact I.mps b es cb co sz e hc
theorem pr_true {K : World → KP KF} (ok : ∀ w, Inv W ρ (fun _ => none) ah0 w → KOk P w ρ (K w)) {n f : Nat} (hr : ∀ w, isTrue (callC (K w) n f [] ah0) = true) (hb : hasBody P f = true) :
    ∀ vs h, trueP vs h ≠ .bad → hasBody P f = true ∧ ∀ ι w vs', Inv W ρ ι h w → RelL W ρ ι vs vs' → Calls P f vs'.toArray w (CallPost W ρ ι h (trueP vs h)) := by
  intro vs h hne
  refine ⟨hb, fun ι w vs' I hv => ?_⟩
  cases hv with
  | cons _ _ _ _ _ _ => exact absurd rfl hne
  | nil =>
    have I0 : Inv W ρ (fun _ => none) ah0 w := ⟨I.below, fun _ _ e => (by cases e), fun _ _ _ _ e => (by cases e), fun _ _ _ _ _ e => (by cases e), fun _ _ _ _ _ e => (by cases e), fun _ _ _ _ e => (by cases e)⟩
    obtain ⟨h', hr⟩ := isTrue_ok (hr w)
    refine (true_sound (ok w I0) (vs' := []) hr .nil).mono fun e w' he => ?_
    obtain ⟨rfl, hw⟩ := he
    exact ⟨ι, .refl ι h, I.later hw, .bool true⟩
end
end Go.KM
