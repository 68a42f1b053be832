/-
  What the runs go by: the instructions' names, the library's functions and the parser taken for granted.
-/
import Derived.Test.YtffpkcmcoppbmaaGreatDoorAPrims
import Derived.Test.YtffpkcmcoppbmaaGreatDoorKTie
import Derived.Test.YtffpkcmcoppbmaaGreatDoorKCps
namespace Go.KM.Tryz
open Go Go.RowKit Go.Proofs
/-- The instructions' names, as the program's variable holds them. -/
def opNames : List (List Nat) := [[], [99, 111, 110, 115, 116], [110, 117, 108, 108], [108, 111, 97, 100], [115, 116, 111, 114, 101], [100, 117, 112], [100, 114, 111, 112], [115, 119, 97, 112], [97, 100, 100], [115, 117, 98], [109, 117, 108], [100, 105, 118], [114, 101, 109], [110, 101, 103], [101, 113], [108, 101, 115, 115], [115, 97, 109, 101], [105, 115, 110, 117, 108, 108], [106, 117, 109, 112], [106, 117, 109, 112, 105, 102], [99, 97, 108, 108], [114, 101, 116, 117, 114, 110], [110, 101, 119], [110, 101, 119, 105, 110, 116, 115], [110, 101, 119, 114, 101, 102, 115], [103, 101, 116], [112, 117, 116], [99, 97, 115], [108, 101, 110], [105, 110, 116, 97, 116], [115, 101, 116, 105, 110, 116], [114, 101, 102, 97, 116], [115, 101, 116, 114, 101, 102], [103, 108, 111, 98, 97, 108], [115, 101, 116, 103, 108, 111, 98, 97, 108], [115, 112, 97, 119, 110], [106, 111, 105, 110], [111, 117, 116], [112, 111, 108, 108], [99, 111, 108, 108, 101, 99, 116]]
noncomputable def gS (n : Nat) : Option AV := Bool.rec (motive := fun _ => Option AV) none (some (.rptr (strs opNames))) (Nat.beq n 1)
def gone1 (f : Nat) : Bool := Nat.beq f 48 || (Nat.beq f 98 || (Nat.beq f 99 || Nat.beq f 143))
noncomputable def pr1 (f : Nat) : Option (List AV → AH → R AV) :=
  Bool.rec (motive := fun _ => Option (List AV → AH → R AV)) (Bool.rec (motive := fun _ => Option (List AV → AH → R AV)) (Bool.rec (motive := fun _ => Option (List AV → AH → R AV)) (Bool.rec (motive := fun _ => Option (List AV → AH → R AV)) none
    (some cutP) (Nat.beq f 143)) (some fieldsP) (Nat.beq f 99)) (some indexByteP) (Nat.beq f 98)) (some splitP) (Nat.beq f 48)
noncomputable def F1 (f : Nat) : Option KF := Bool.rec (motive := fun _ => Option KF) (tree.get f) none (gone1 f)
noncomputable def K1 : KP KF := { g := gS, pr := pr1, F := F1, D := fun _ _ _ => none }
noncomputable def pr2 (f : Nat) : Option (List AV → AH → R AV) := Bool.rec (motive := fun _ => Option (List AV → AH → R AV)) (pr1 f) (some (parseP K1 100000)) (Nat.beq f 11)
noncomputable def F2 (f : Nat) : Option KF := Bool.rec (motive := fun _ => Option KF) (F1 f) none (Nat.beq f 11)
noncomputable def K2 : KP KF := { g := gS, pr := pr2, F := F2, D := fun _ _ _ => none }

section
variable {W : World} {ρ : Nat → Int}
def LaidNames (W : World) : Prop := ∀ i s, opNames[i]? = some s → ∃ b : ByteArray, bytesOf b = s ∧ W.cell? ⟨1, i, none⟩ = some (.string b)
/-- What the program's variables hold when a call begins. -/
structure Laid (W : World) : Prop where
  ty : LaidType W
  len : LaidLen W
  names : LaidNames W
theorem names_rel : ∀ (l : List (List Nat)) (o : Nat), (∀ i s, l[i]? = some s → ∃ b : ByteArray, bytesOf b = s ∧ W.cell? ⟨1, o + i, none⟩ = some (.string b)) → ∀ ι, RelC W ρ ι 1 o (strs l)
  | [], o, _, ι => .nil 1 o
  | s :: l, o, h, ι => by
    obtain ⟨b, rfl, hc⟩ := h 0 s rfl
    exact .cons 1 o _ (.string b) _ hc (.str b) (names_rel l (o + 1) (fun i s hs => by
      have := h (i + 1) s (by simpa using hs)
      rwa [show o + (i + 1) = o + 1 + i by omega] at this) ι)
theorem gS_ok (h : LaidNames W) : GOk W ρ gS := fun n v e ι => by
  unfold gS at e
  cases hn : Nat.beq n 1 with
  | false => rw [hn] at e; cases e
  | true =>
    rw [hn] at e
    replace e := Option.some.inj e
    have := beq_iff.1 hn
    subst this; subst e
    exact .rptr _ 1 0 (names_rel opNames 0 (fun i s hs => by simpa using h i s hs) ι)
theorem F1_ok : ∀ f k, F1 f = some k → Tied Tryz.prog f k := fun f k h => by
  unfold F1 at h
  cases hg : gone1 f with
  | true => rw [hg] at h; cases h
  | false => rw [hg] at h; exact PT.all_get tied f k h
theorem kok1 (L : Laid W) : KOk Tryz.prog W ρ K1 where
  mixed := Checked.mixed Tryz.checked
  g := gS_ok L.names
  D := ⟨fun _ _ _ e => (by cases e), fun _ _ _ e => (by cases e)⟩
  F := F1_ok
  pr := fun f p _ hp vs h hb => by
    have hx : pr1 f = some p := hp
    unfold pr1 at hx
    cases h1 : Nat.beq f 48 with
    | true =>
      rw [h1] at hx
      replace hx := Option.some.inj hx
      have := beq_iff.1 h1
      subst this; subst hx
      exact split_sound L.len vs h hb
    | false =>
      cases h2 : Nat.beq f 98 with
      | true =>
        rw [h1, h2] at hx
        replace hx := Option.some.inj hx
        have := beq_iff.1 h2
        subst this; subst hx
        exact indexByte_sound vs h hb
      | false =>
        cases h3 : Nat.beq f 99 with
        | true =>
          rw [h1, h2, h3] at hx
          replace hx := Option.some.inj hx
          have := beq_iff.1 h3
          subst this; subst hx
          exact fields_sound vs h hb
        | false =>
          cases h4 : Nat.beq f 143 with
          | true =>
            rw [h1, h2, h3, h4] at hx
            replace hx := Option.some.inj hx
            have := beq_iff.1 h4
            subst this; subst hx
            exact cut_sound L.len vs h hb
          | false => rw [h1, h2, h3, h4] at hx; cases hx
theorem kok2 (L : Laid W) : KOk Tryz.prog W ρ K2 where
  mixed := Checked.mixed Tryz.checked
  g := gS_ok L.names
  D := ⟨fun _ _ _ e => (by cases e), fun _ _ _ e => (by cases e)⟩
  F := fun f k h => by
    have hx : F2 f = some k := h
    unfold F2 at hx
    cases h1 : Nat.beq f 11 with
    | true => rw [h1] at hx; cases hx
    | false => rw [h1] at hx; exact F1_ok f k hx
  pr := fun f p hF hp vs h hb => by
    have hx : pr2 f = some p := hp
    unfold pr2 at hx
    cases h1 : Nat.beq f 11 with
    | true =>
      rw [h1] at hx
      replace hx := Option.some.inj hx
      have := beq_iff.1 h1
      subst this; subst hx
      exact parse_sound (kok1 L) L.ty vs h hb
    | false =>
      rw [h1] at hx
      have hF : F2 f = none := hF
      unfold F2 at hF
      rw [h1] at hF
      exact (kok1 L).pr f p hF hx vs h hb
end
end Go.KM.Tryz
