/-
  From a run of the small machine to a call of the model's, and to a row.
-/
import Derived.Test.YtffpkcmcoppbmaaGreatDoorKCode
import Derived.ProofKit
namespace Go.KM
open Go.RowKit Go.ChangeShapes Go.WideShapes

/-- All that a tree holds. -/
def PT.All {α : Type} (p : Nat → α → Prop) : (Nat → Nat) → PT α → Prop
  | _, .leaf => True
  | f, .node l v r => (∀ a, v = some a → p (f 0) a) ∧ PT.All p (fun j => f (2 * j + 1)) l ∧ PT.All p (fun j => f (2 * j + 2)) r
theorem PT.all_get {α : Type} {p : Nat → α → Prop} : ∀ {t : PT α} {f : Nat → Nat}, PT.All p f t → ∀ k a, t.get k = some a → p (f k) a
  | .leaf, f, _, k, a, h => by cases h
  | .node l v r, f, ht, k, a, h => by
    obtain ⟨h1, h2, h3⟩ := ht
    rw [PT.get_node] at h
    rcases Nat.eq_zero_or_pos k with rfl | hk
    · simp at h; exact h1 a h
    · rw [if_neg (by omega)] at h
      split at h
      · have := PT.all_get h2 _ a h
        rwa [show 2 * (k / 2) + 1 = k from by omega] at this
      · have := PT.all_get h3 _ a h
        rwa [show 2 * (k / 2 - 1) + 2 = k from by omega] at this
section
variable {P : Program} {W : World} {ρ : Nat → Int} {K : KP KF}
/-- A function's code is the model's. -/
def Tied (P : Program) (f : Nat) (k : KF) : Prop := ∃ fn, P.funcs[f]? = some fn ∧ kfunc P fn = some k ∧ fn.name ≠ "runtime.NumGoroutine"
theorem call_sound (ok : KOk P W ρ K) {m f : Nat} {vs : List AV} {h : AH} {ι : Inj} {w : World} {vs' : List Value} (hb : callC K m f vs h ≠ .bad) (I : Inv W ρ ι h w) (hv : RelL W ρ ι vs vs') :
    Calls P f vs'.toArray w (CallPost W ρ ι h (callC K m f vs h)) := ((run_sound ok m).2.2 f vs h hb).2 ι w vs' I hv
theorem inv0 (W : World) (ρ : Nat → Int) : Inv W ρ (fun _ => none) ah0 W where
  below := .refl _ _
  dom := fun _ _ e => by cases e
  rng := fun _ _ _ _ e => by cases e
  cells := fun _ _ _ _ _ e => by cases e
  mps := fun _ _ _ _ _ e => by cases e
  inj := fun _ _ _ _ e => by cases e
/-- A call that answers true, from nothing. -/
theorem true_sound (ok : KOk P W ρ K) {m f : Nat} {vs : List AV} {vs' : List Value} {h' : AH} (hr : callC K m f vs ah0 = .ok (.bool true) h') (hv : RelL W ρ (fun _ => none) vs vs') :
    Calls P f vs'.toArray W fun e w' => e = .returned (.bool true) ∧ Below W.heap.size W w' := by
  refine (call_sound ok (by rw [hr]; simp) (inv0 W ρ) hv).mono fun e w' he => ?_
  rw [hr] at he
  cases e with
  | returned v' =>
    obtain ⟨ι', -, I, h⟩ := he
    cases h
    exact ⟨rfl, I.below⟩
  | _ => exact he.elim
end
/-- What 'post' asks of a call that leaves all that was there. -/
theorem post_of_below {H : Type} {enc : TypeId × Value → H} {P : Program} {f : Func} {s : ChangeSpec} {apart fresh handsOn again : Bool} {W W' : World} {args : Array Value} {v : Value} {ds gs : List (DataW H)} {before pa pv : List MemPlace}
    (hW : DataW.Whole enc P f.params.toList s.vars apart W args.toList ds gs before)
    (hres : ∀ (b : Nat) (sp : Nat → Bool) (hd : Bool), DataW.TrodAll enc P W' b sp hd f.resultTypes.toList (v.resultList f.resultTypes.size) (s.fn H (ds ++ gs)).results [])
    (hargs : ∀ sp : Nat → Bool, (∀ p ∈ before, sp p.block = true) → DataW.TrodAll enc P W' 0 sp true f.params.toList args.toList (s.fn H (ds ++ gs)).args pa)
    (hvars : ∀ sp : Nat → Bool, (∀ p ∈ before, sp p.block = true) → DataW.TrodVars enc P W' sp s.vars (s.fn H (ds ++ gs)).vars pv)
    (hps : before = pa ++ pv) (hb : Below W.heap.size W W')
    (hok : ∀ (j : Nat) (t : TypeId) (r : Value), f.resultTypes[j]? = some t → (v.resultList f.resultTypes.size)[j]? = some r → Value.okWide P W' .any 0 t r) :
    s.post enc P f apart fresh handsOn again W args v W' := by
  have hlt := hW.lt
  have hold : ∀ p ∈ before, (fun b => decide (b < W.heap.size)) p.block = true := fun p hp => by simpa using hlt p hp
  refine ⟨ds, gs, before, [], pa, pv, hW, hres _ _ _, hargs _ hold, hvars _ hold, World.keptBut_mono (fun p hp => ⟨hp, .inr ?_⟩) (hb.frame (· ∈ before)), fun _ => ?_⟩
  · rwa [hps, List.mem_append] at hp
  · obtain ⟨_, _, _, _, _, hz, hn⟩ := hW
    refine ⟨hok, _, _, ([] ++ pa) ++ pv, ⟨[] ++ pa, pv, trodAll_append (hargs _ (fun _ _ => rfl)) (hres _ _ _), hvars _ (fun _ _ => rfl), rfl, fun b off hp => ?_, fun ha => ?_⟩, fun p hp _ => ?_⟩
    · have hm : MemPlace.cell b off ∈ before := by rw [hps]; simpa using hp
      rw [hb.frozen (hlt _ hm)]
      exact hz b off hm
    · have := hn ha
      rw [hps] at this
      simpa using this
    · rw [hps]; simpa using hp
end Go.KM
