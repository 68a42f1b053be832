/-
  The small machine's code is the model's; so are its calls.
-/
import Derived.Test.YtffpkcmcoppbmaaGreatDoorKDraw
import Derived.Scope
namespace Go.KM
open Go.RowKit
section
variable {P : Program} {W : World} {ρ : Nat → Int} {ι : Inj} {h : AH} {w : World} {e : Env} {a : Act} {n : Nat}

theorem load1_heap {x v : AV} {h h' : AH} (e : xload1 x h = .ok v h') : h' = h := sh_load1 x h v h' e
theorem loadn_heap {n : Nat} {x v : AV} {h h' : AH} (e : xloadn n x h = .ok v h') : h' = h := sh_loadn n x h v h' e
/-- What code comes to. -/
def OutPost (W : World) (ρ : Nat → Int) (n : Nat) (ι : Inj) (h : AH) (a : Act) (Q : Exit → Act → World → Prop) : Out → Prop
  | .norm e' h' => ∀ ι' a' w', Goes W ρ n ι h a e' h' ι' a' w' → Q .normal a' w'
  | .exit id e' h' => ∀ ι' a' w', Goes W ρ n ι h a e' h' ι' a' w' → Q (.exit id) a' w'
  | .ret e' h' => ∀ ι' a' w', Goes W ρ n ι h a e' h' ι' a' w' → Q .ret a' w'
  | .pan v e' h' => ∀ ι' a' w' v', Goes W ρ n ι h a e' h' ι' a' w' → Rel W ρ ι' v v' → Q (.panic [{ v := v', recovered := false }]) a' w'
  | .bad => False
theorem OutPost.trans {Q : Exit → Act → World → Prop} {e' : Env} {h' : AH} {ι' : Inj} {a' : Act} {w' : World} {r : Out} (x : Goes W ρ n ι h a e' h' ι' a' w') (hp : OutPost W ρ n ι h a Q r) : OutPost W ρ n ι' h' a' Q r := by
  cases r with
  | norm e h => exact fun ι'' a'' w'' y => hp ι'' a'' w'' (x.trans y)
  | exit id e h => exact fun ι'' a'' w'' y => hp ι'' a'' w'' (x.trans y)
  | ret e h => exact fun ι'' a'' w'' y => hp ι'' a'' w'' (x.trans y)
  | pan v e h => exact fun ι'' a'' w'' v' y hv => hp ι'' a'' w'' v' (x.trans y) hv
  | bad => exact hp
theorem reOut_post {Q : Exit → Act → World → Prop} {r : RE} (hp : OutPost W ρ n ι h a Q (reOut r)) : REPost W ρ n ι h a Q r := by
  cases r <;> exact hp
theorem reOut_bad {r : RE} (hb : reOut r ≠ .bad) : r ≠ .bad := by rintro rfl; exact hb rfl

/-- Code behind a loop's head. -/
def wpL (P : Program) (c : Code) (Q : Exit → Act → World → Prop) (a : Act) (w : World) : Prop :=
  ∀ (b : Frame) (k : List Item) (cs : List Frame), ∃ e a' w', Q e a' w' ∧ Arrives P (lone (b.at a (.code c :: .inLoop c :: k)) cs w) b k cs e a' w'
theorem wpL_unroll {c : Code} {Q : Exit → Act → World → Prop} (hc : c.wp P (Exit.then (fun a w => wpL P c Q a w) Q) a w) : wpL P c Q a w := by
  intro b k cs
  obtain ⟨e, a₁, w₁, hq, harr⟩ := hc b (.inLoop c :: k) cs
  cases e with
  | normal =>
    obtain ⟨e₂, a₂, w₂, hq₂, harr₂⟩ := hq b k cs
    exact ⟨e₂, a₂, w₂, hq₂, .of_steps (Steps.trans harr (.one step_inLoop)) harr₂⟩
  | exit id => exact ⟨_, a₁, w₁, hq, .pass (x := .inLoop c) rfl (fun _ _ => .inl (by simp)) harr⟩
  | goto l => exact ⟨_, a₁, w₁, hq, .pass (x := .inLoop c) rfl (fun _ _ => .inl (by simp)) harr⟩
  | ret => exact ⟨_, a₁, w₁, hq, .pass (x := .inLoop c) rfl (fun _ _ => .inl (by simp)) harr⟩
  | panic ch => exact ⟨_, a₁, w₁, hq, .pass (x := .inLoop c) rfl (fun _ _ => .inl (by simp)) harr⟩
  | outgrown => exact ⟨_, a₁, w₁, hq, .pass (x := .inLoop c) rfl (fun _ _ => .inl (by simp)) harr⟩
theorem wp_of_wpL {c : Code} {Q : Exit → Act → World → Prop} (hc : wpL P c Q a w) : (Code.loop c).wp P Q a w := fun b k cs => by
  obtain ⟨e, a', w', hq, harr⟩ := hc b k cs
  exact ⟨e, a', w', hq, .of_steps (.one step_loop) harr⟩

/-- What stands behind a run: the program, its variables, what is taken for granted. -/
structure KOk (P : Program) (W : World) (ρ : Nat → Int) (K : KP KF) : Prop where
  mixed : P.follows .mixedOrders = true
  g : GOk W ρ K.g
  D : DOk ρ K.D
  F : ∀ f k, K.F f = some k → ∃ fn, P.funcs[f]? = some fn ∧ kfunc P fn = some k ∧ fn.name ≠ "runtime.NumGoroutine"
  pr : ∀ f p, K.F f = none → K.pr f = some p → ∀ vs h, p vs h ≠ .bad → hasBody P f = true ∧ ∀ ι w vs', Inv W ρ ι h w → RelL W ρ ι vs vs' → Calls P f vs'.toArray w (CallPost W ρ ι h (p vs h))

/-- A result variable's value. -/
def resF (tmps : Array Value) (r : ResultVar) : Sem Value :=
  match r with
  | .tmp t => pure (tmps.getD t undef)
  | .cell p t => do loadVar t (← asAddr (tmps.getD p undef))
theorem results_eq (fn : Func) (tmps : Array Value) : results fn tmps = (do
    let vs ← fn.results.mapM (resF tmps)
    pure (if h : vs.size = 1 then vs[0] else .tuple vs)) := rfl
theorem kres_sound (hr : EnvR W ρ ι e a.tmps) (I : Inv W ρ ι h w) : ∀ {rs : List ResultVar} {ks : List KRes} {vs : List AV}, kres P rs = some ks → ressOf e h ks = some vs →
    ∃ vs', (rs.mapM (resF a.tmps) : Sem (List Value)).run P w = .ok vs' w ∧ RelL W ρ ι vs vs'
  | [], ks, vs, hk, ev => by
    simp only [kres] at hk
    injection hk with hk; subst hk
    replace ev : some [] = some vs := ev
    injection ev with ev; subst ev
    exact ⟨[], rfl, .nil⟩
  | .tmp t :: rs, ks, vs, hk, ev => by
    simp only [kres] at hk
    cases hk1 : kres P rs with
    | none => rw [hk1] at hk; cases hk
    | some r =>
      rw [hk1] at hk; injection hk with hk; subst hk
      replace ev : (match e.get t with
        | some v => Option.rec (motive := fun _ => Option (List AV)) none (fun vs => some (v :: vs)) (ressOf e h r)
        | none => none) = some vs := ev
      split at ev
      · rename_i v hv
        cases hq : ressOf e h r with
        | none => rw [hq] at ev; cases ev
        | some q =>
          rw [hq] at ev; replace ev := Option.some.inj ev; subst ev
          obtain ⟨vs', h1, h2⟩ := kres_sound hr I hk1 hq
          obtain ⟨v', h3, h4⟩ := hr t v hv
          refine ⟨v' :: vs', ?_, .cons _ _ _ _ h4 h2⟩
          have : a.tmps.getD t undef = v' := by simp [h3]
          rw [List.mapM_cons]
          simp only [resF, Sem.run_bind, Sem.run_pure, Result.andThen_ok, this, h1]
      · cases ev
  | .cell p t :: rs, ks, vs, hk, ev => by
    simp only [kres] at hk
    have one : ∀ {x v : AV}, e.get p = some x → (∃ (nn : Nat), aggC P t = some true ∧ sizeC P t = some nn ∧ xloadn nn x h = .ok v h) ∨ (aggC P t = some false ∧ xload1 x h = .ok v h) →
        ∃ v', (loadVar t (match a.tmps.getD p undef with | .pointer (some q) => q | _ => default)).run P w = .ok v' w ∧ (∃ q, a.tmps.getD p undef = .pointer (some q)) ∧ Rel W ρ ι v v' := fun {x v} hx hl => by
      obtain ⟨x', h3, h4⟩ := hr p x hx
      have hgd : a.tmps.getD p undef = x' := by simp [h3]
      have hptr : ∃ q, x' = .pointer (some q) := by
        rcases hl with ⟨nn, -, -, hl⟩ | ⟨-, hl⟩
        · unfold xloadn at hl
          split at hl
          · obtain ⟨cb, co, sz, -, rfl⟩ := rel_ptr h4; exact ⟨_, rfl⟩
          · obtain ⟨g, o, -, rfl⟩ := rel_rptr h4; exact ⟨_, rfl⟩
          · cases hl
        · unfold xload1 at hl
          split at hl
          · obtain ⟨cb, co, sz, -, rfl⟩ := rel_ptr h4; exact ⟨_, rfl⟩
          · obtain ⟨g, o, -, rfl⟩ := rel_rptr h4; exact ⟨_, rfl⟩
          · cases hl
      obtain ⟨q, rfl⟩ := hptr
      rw [hgd]
      rcases hl with ⟨nn, m1, m2, m3⟩ | ⟨m1, m2⟩
      · obtain ⟨-, v', k1, k2⟩ := loadn_sound (P := P) I h4 m1 m2 m3
        exact ⟨v', by simpa [Instr.loadAt, Instr.sureAddr] using k1, ⟨q, rfl⟩, k2⟩
      · obtain ⟨-, v', k1, k2⟩ := load1_sound (P := P) I h4 m1 m2
        exact ⟨v', by simpa [Instr.loadAt, Instr.sureAddr] using k1, ⟨q, rfl⟩, k2⟩
    have fin : ∀ {v : AV} {q : List AV} {r : List KRes}, kres P rs = some r → ressOf e h r = some q →
        (∃ v', (loadVar t (match a.tmps.getD p undef with | .pointer (some q) => q | _ => default)).run P w = .ok v' w ∧ (∃ q, a.tmps.getD p undef = .pointer (some q)) ∧ Rel W ρ ι v v') →
        ∃ vs', ((ResultVar.cell p t :: rs).mapM (resF a.tmps) : Sem (List Value)).run P w = .ok vs' w ∧ RelL W ρ ι (v :: q) vs' := fun {v q r} hk1 hq hv => by
      obtain ⟨vs', h1, h2⟩ := kres_sound hr I hk1 hq
      obtain ⟨v', k1, ⟨q, k2⟩, k3⟩ := hv
      refine ⟨v' :: vs', ?_, .cons _ _ _ _ k3 h2⟩
      rw [k2] at k1
      dsimp only at k1
      have hA : (asAddr (a.tmps.getD p undef)).run P w = .ok q w := by rw [k2]; rfl
      rw [List.mapM_cons]
      have hc : (resF a.tmps (.cell p t)).run P w = .ok v' w := by simp only [resF, Sem.run_bind, hA, Result.andThen_ok, k1]
      simp only [Sem.run_bind, hc, Sem.run_pure, Result.andThen_ok, h1]
    split at hk
    · rename_i nn r ha hn hk1
      injection hk with hk; subst hk
      replace ev : (match resOf e h (.celln p nn) with
        | some v => Option.rec (motive := fun _ => Option (List AV)) none (fun vs => some (v :: vs)) (ressOf e h r)
        | none => none) = some vs := ev
      split at ev
      · rename_i v hv
        cases hq : ressOf e h r with
        | none => rw [hq] at ev; cases ev
        | some q =>
          rw [hq] at ev; replace ev := Option.some.inj ev; subst ev
          simp only [resOf] at hv
          split at hv
          · rename_i x hx
            split at hv
            · rename_i u h2 hu
              injection hv with hv; subst hv
              obtain rfl : h2 = h := (loadn_heap hu)
              exact fin hk1 hq (one hx (.inl ⟨nn, ha, hn, hu⟩))
            · cases hv
          · cases hv
      · cases ev
    · rename_i r ha hk1
      injection hk with hk; subst hk
      replace ev : (match resOf e h (.cell1 p) with
        | some v => Option.rec (motive := fun _ => Option (List AV)) none (fun vs => some (v :: vs)) (ressOf e h r)
        | none => none) = some vs := ev
      split at ev
      · rename_i v hv
        cases hq : ressOf e h r with
        | none => rw [hq] at ev; cases ev
        | some q =>
          rw [hq] at ev; replace ev := Option.some.inj ev; subst ev
          simp only [resOf] at hv
          split at hv
          · rename_i x hx
            split at hv
            · rename_i u h2 hu
              injection hv with hv; subst hv
              obtain rfl : h2 = h := (load1_heap hu)
              exact fin hk1 hq (one hx (.inr ⟨ha, hu⟩))
            · cases hv
          · cases hv
      · cases ev
    · cases hk

theorem results_sound (hr : EnvR W ρ ι e a.tmps) (I : Inv W ρ ι h w) {fn : Func} {ks : List KRes} {v : AV} {h' : AH} (hk : kres P fn.results.toList = some ks) (ev : resV e h ks = .ok v h') :
    h' = h ∧ ∃ v', (results fn a.tmps).run P w = .ok v' w ∧ Rel W ρ ι v v' := by
  unfold resV at ev
  cases hq : ressOf e h ks with
  | none => rw [hq] at ev; cases ev
  | some vs =>
    rw [hq] at ev
    obtain ⟨vs', h1, h2⟩ := kres_sound hr I hk hq
    have hm : (results fn a.tmps).run P w = .ok (if h : vs'.toArray.size = 1 then vs'.toArray[0] else .tuple vs'.toArray) w := by
      rw [results_eq, Array.mapM_eq_mapM_toList]
      simp only [Sem.run_bind, Sem.run_map, h1, Result.andThen_ok, Sem.run_pure]
    have many : vs.length ≠ 1 → R.ok (AV.tup vs) h = R.ok v h' → h' = h ∧ ∃ v', (results fn a.tmps).run P w = .ok v' w ∧ Rel W ρ ι v v' := fun hne ev => by
      injection ev with e1 e2; subst e1 e2
      refine ⟨rfl, .tuple vs'.toArray, ?_, .tup _ _ (by simpa using h2)⟩
      have hl := h2.length
      rw [hm, dif_neg (by simp only [List.size_toArray]; omega)]
    match vs, ev, h2, many with
    | [], ev, h2, many => exact many (by simp) ev
    | [u], ev, h2, many =>
      injection ev with e1 e2; subst e1 e2
      cases h2 with | cons _ v' _ _ h3 h4 =>
      cases h4
      exact ⟨rfl, v', by rw [hm]; simp, h3⟩
    | u :: u2 :: us, ev, h2, many => exact many (by simp) ev
theorem envOf_get (vs : List AV) (t : Nat) : (envOf vs).get t = vs[t]? := by
  have key : ∀ (vs : List AV) (n : Nat) (e : Env), ((List.rec (motive := fun _ => Nat → Env → Env) (fun _ e => e) (fun v _ ih n e => ih (Nat.succ n) (e.set n v)) vs) n e : Env).get t = if n ≤ t ∧ t < n + vs.length then vs[t - n]? else e.get t := by
    intro vs
    induction vs with
    | nil => intro n e; rw [if_neg (by simp only [List.length_nil]; omega)]
    | cons v vs ih =>
      intro n e
      show ((List.rec (motive := fun _ => Nat → Env → Env) (fun _ e => e) (fun v _ ih n e => ih (Nat.succ n) (e.set n v)) vs) (Nat.succ n) (e.set n v) : Env).get t = _
      rw [ih, PT.get_set]
      by_cases h1 : t = n
      · subst h1; rw [if_neg (by omega), if_pos rfl, if_pos (by simp)]; simp
      · rw [if_neg h1]
        by_cases h2 : Nat.succ n ≤ t ∧ t < Nat.succ n + vs.length
        · rw [if_pos h2, if_pos (by simp; omega), show t - n = t - Nat.succ n + 1 from by omega]; simp
        · rw [if_neg h2, if_neg (by simp; omega)]
  have := key vs 0 .leaf
  show ((List.rec (motive := fun _ => Nat → Env → Env) (fun _ e => e) (fun v _ ih n e => ih (Nat.succ n) (e.set n v)) vs) 0 .leaf : Env).get t = _
  rw [this]
  by_cases h1 : t < vs.length
  · rw [if_pos (by omega)]; rfl
  · rw [if_neg (by omega), List.getElem?_eq_none (by omega)]; rfl
theorem thenO_bad {o : Out} {k : Env → AH → Out} (hb : thenO o k ≠ .bad) : o ≠ .bad := by rintro rfl; exact hb rfl
theorem inBlk_bad {id : Nat} {o : Out} (hb : inBlk id o ≠ .bad) : o ≠ .bad := by rintro rfl; exact hb rfl
theorem noGoto_post {Q : Exit → Act → World → Prop} {r : Out} (hp : OutPost W ρ n ι h a Q r) : OutPost W ρ n ι h a (Exit.noGoto Q) r := by
  cases r <;> exact hp
/-- Code, and the calls in it. -/
theorem run_sound {K : KP KF} (ok : KOk P W ρ K) : ∀ (m : Nat),
    (∀ (c : Code) (kc : KC) (nt : Nat) (ι : Inj) (e : Env) (h : AH) (a : Act) (w : World) (Q : Exit → Act → World → Prop), kcode P nt c = some kc → St W ρ nt ι e h a w → runC K m kc e h ≠ .bad → OutPost W ρ nt ι h a Q (runC K m kc e h) → c.wp P Q a w) ∧
    (∀ (c : Code) (kc : KC) (nt : Nat) (ι : Inj) (e : Env) (h : AH) (a : Act) (w : World) (Q : Exit → Act → World → Prop), kcode P nt c = some kc → St W ρ nt ι e h a w → runC K m (.loop kc) e h ≠ .bad → OutPost W ρ nt ι h a Q (runC K m (.loop kc) e h) → wpL P c Q a w) ∧
    CfOk P W ρ (callC K m) := by
  have calls : ∀ m, (∀ (c : Code) (kc : KC) (nt : Nat) (ι : Inj) (e : Env) (h : AH) (a : Act) (w : World) (Q : Exit → Act → World → Prop), kcode P nt c = some kc → St W ρ nt ι e h a w → runC K m kc e h ≠ .bad → OutPost W ρ nt ι h a Q (runC K m kc e h) → c.wp P Q a w) → CfOk P W ρ (callC K m) := by
    intro m ih f vs h hb
    unfold callC callF at hb ⊢
    cases hF : K.F f with
    | none =>
      rw [hF] at hb
      dsimp only at hb ⊢
      cases hp : K.pr f with
      | none => rw [hp] at hb; exact absurd rfl hb
      | some p =>
        rw [hp] at hb
        exact ok.pr f p hF hp vs h hb
    | some kf =>
      rw [hF] at hb
      dsimp only at hb ⊢
      obtain ⟨fn, hfn, hkf, hnm⟩ := ok.F f kf hF
      unfold kfunc at hkf
      cases hbody : fn.body with
      | none => rw [hbody] at hkf; cases hkf
      | some c =>
        rw [hbody] at hkf
        dsimp only at hkf
        split at hkf
        · rename_i kb kr h1 hres
          injection hkf with hkf; subst hkf
          dsimp only at hb ⊢
          have hhb : hasBody P f = true := by simp [hasBody, hfn, hbody, bne, hnm]
          refine ⟨hhb, fun ι w vs' I hv => ?_⟩
          have hv_get := RelL.get hv
          have henv : EnvR W ρ ι (envOf vs) (vs'.toArray ++ Array.replicate (fn.ntmps - vs'.toArray.size) undef) := by
            intro t v hv
            rw [envOf_get] at hv
            obtain ⟨v', k1, k2⟩ := hv_get t v hv
            refine ⟨v', ?_, k2⟩
            have hlt := (List.getElem?_eq_some_iff.1 k1).1
            rw [Array.getElem?_append_left (by simpa using hlt)]; simpa using k1
          have hst : St W ρ fn.ntmps ι (envOf vs) h { tmps := vs'.toArray ++ Array.replicate (fn.ntmps - vs'.toArray.size) undef, defers := [] } w := ⟨henv, by simp; omega, I⟩
          have hrb : runC K m kb (envOf vs) h ≠ .bad := fun hh => by rw [hh] at hb; exact hb rfl
          refine calls_of_wp hfn hbody (ih c kb fn.ntmps ι _ _ _ w _ h1 hst hrb ?_)
          cases hr : runC K m kb (envOf vs) h with
          | bad => exact absurd hr hrb
          | norm e' h' =>
            rw [hr] at hb
            dsimp only at hb
            intro ι' a' w' hgo
            cases hv2 : resV e' h' kr with
            | bad => exact absurd hv2 hb
            | pan v h2 => unfold resV at hv2; split at hv2 <;> cases hv2
            | ok v h2 =>
              obtain ⟨rfl, v', m1, m2⟩ := results_sound (P := P) hgo.st.env hgo.st.inv hres hv2
              refine ⟨hgo.defers, v', m1, ?_⟩
              show CallPost W ρ ι h (resV e' h2 kr) (.returned v') w'
              rw [hv2]; exact ⟨ι', hgo.le, hgo.st.inv, m2⟩
          | ret e' h' =>
            rw [hr] at hb
            dsimp only at hb
            intro ι' a' w' hgo
            cases hv2 : resV e' h' kr with
            | bad => exact absurd hv2 hb
            | pan v h2 => unfold resV at hv2; split at hv2 <;> cases hv2
            | ok v h2 =>
              obtain ⟨rfl, v', m1, m2⟩ := results_sound (P := P) hgo.st.env hgo.st.inv hres hv2
              refine ⟨hgo.defers, v', m1, ?_⟩
              show CallPost W ρ ι h (resV e' h2 kr) (.returned v') w'
              rw [hv2]; exact ⟨ι', hgo.le, hgo.st.inv, m2⟩
          | pan v e' h' =>
            intro ι' a' w' v' hgo hv'
            exact ⟨hgo.defers, ι', v', rfl, hgo.le, hgo.st.inv, hv'⟩
          | exit id e' h' => rw [hr] at hb; exact absurd rfl hb
        · cases hkf
  intro m
  induction m with
  | zero =>
    have h0 : ∀ (c : Code) (kc : KC) (nt : Nat) (ι : Inj) (e : Env) (h : AH) (a : Act) (w : World) (Q : Exit → Act → World → Prop), kcode P nt c = some kc → St W ρ nt ι e h a w → runC K 0 kc e h ≠ .bad → OutPost W ρ nt ι h a Q (runC K 0 kc e h) → c.wp P Q a w :=
      fun c kc nt ι e h a w Q _ _ hb _ => absurd rfl hb
    exact ⟨h0, fun c kc nt ι e h a w Q _ _ hb _ => absurd rfl hb, calls 0 h0⟩
  | succ m ih =>
    obtain ⟨ih1, ih2, ih3⟩ := ih
    have loops : ∀ (c : Code) (kc : KC) (nt : Nat) (ι : Inj) (e : Env) (h : AH) (a : Act) (w : World) (Q : Exit → Act → World → Prop), kcode P nt c = some kc → St W ρ nt ι e h a w → runC K (m + 1) (.loop kc) e h ≠ .bad → OutPost W ρ nt ι h a Q (runC K (m + 1) (.loop kc) e h) → wpL P c Q a w := by
      intro c kc nt ι e h a w Q hk hs hb hp
      have hx : runC K (m + 1) (.loop kc) e h = thenO (runC K m kc e h) fun e h => runC K m (.loop kc) e h := rfl
      rw [hx] at hb hp
      refine wpL_unroll (ih1 c kc nt ι e h a w _ hk hs (thenO_bad hb) ?_)
      cases hr : runC K m kc e h with
      | bad => rw [hr] at hb; exact absurd rfl hb
      | norm e' h' =>
        rw [hr] at hb hp
        intro ι' a' w' hgo
        exact ih2 c kc nt ι' e' h' a' w' Q hk hgo.st hb (hp.trans hgo)
      | exit id e' h' => rw [hr] at hp; exact hp
      | ret e' h' => rw [hr] at hp; exact hp
      | pan v e' h' => rw [hr] at hp; exact hp
    have codes : ∀ (c : Code) (kc : KC) (nt : Nat) (ι : Inj) (e : Env) (h : AH) (a : Act) (w : World) (Q : Exit → Act → World → Prop), kcode P nt c = some kc → St W ρ nt ι e h a w → runC K (m + 1) kc e h ≠ .bad → OutPost W ρ nt ι h a Q (runC K (m + 1) kc e h) → c.wp P Q a w := by
      intro c
      induction c with
      | skip =>
        intro kc nt ι e h a w Q hk hs hb hp
        simp only [kcode] at hk
        injection hk with hk; subst hk
        exact wp_skip (hp ι a w (Goes.refl hs))
      | label l =>
        intro kc nt ι e h a w Q hk hs hb hp
        simp only [kcode] at hk
        injection hk with hk; subst hk
        exact wp_label (hp ι a w (Goes.refl hs))
      | ret =>
        intro kc nt ι e h a w Q hk hs hb hp
        simp only [kcode] at hk
        injection hk with hk; subst hk
        exact wp_ret (hp ι a w (Goes.refl hs))
      | exit id =>
        intro kc nt ι e h a w Q hk hs hb hp
        simp only [kcode] at hk
        injection hk with hk; subst hk
        exact wp_exit (hp ι a w (Goes.refl hs))
      | region id ops draw =>
        intro kc nt ι e h a w Q hk hs hb hp
        simp only [kcode] at hk
        cases draw with
        | true =>
          obtain ⟨l, rfl⟩ : ∃ l, kc = .drw l := by
            unfold kregion at hk
            split at hk
            · cases hk
            · rw [if_neg (by simp)] at hk
              dsimp only at hk
              split at hk
              · injection hk with hk; exact ⟨_, hk.symm⟩
              · cases hk
          have hx : runC K (m + 1) (.drw l) e h = reOut (exDr K.g K.D (callF K (runC K m)) l 0 [] e h) := rfl
          rw [hx] at hb hp
          exact draw_sound ok.mixed ok.g ok.D ih3 hk hs (reOut_bad hb) (reOut_post hp)
        | false =>
          unfold kregion at hk
          split at hk
          · cases hk
          · rename_i l hl
            rw [if_pos (by simp)] at hk
            injection hk with hk; subst hk
            have hx : runC K (m + 1) (.rgn l) e h = reOut (exOpers K.g K.D (callF K (runC K m)) l e h) := rfl
            rw [hx] at hb hp
            exact wp_region_list (opers_sound ok.g ok.D ih3 hl hs (reOut_bad hb) (reOut_post hp))
      | seq x y _ _ =>
        intro kc nt ι e h a w Q hk hs hb hp
        simp only [kcode] at hk
        split at hk
        · rename_i kx ky h1 h2
          injection hk with hk; subst hk
          have hx : runC K (m + 1) (.seq kx ky) e h = thenO (runC K m kx e h) fun e h => runC K m ky e h := rfl
          rw [hx] at hb hp
          refine wp_seq (ih1 x kx nt ι e h a w _ h1 hs (thenO_bad hb) ?_)
          cases hr : runC K m kx e h with
          | bad => rw [hr] at hb; exact absurd rfl hb
          | norm e' h' =>
            rw [hr] at hb hp
            intro ι' a' w' hgo
            exact ih1 y ky nt ι' e' h' a' w' Q h2 hgo.st hb (hp.trans hgo)
          | exit id e' h' => rw [hr] at hp; exact hp
          | ret e' h' => rw [hr] at hp; exact hp
          | pan v e' h' => rw [hr] at hp; exact hp
        · cases hk
      | cond c x y _ _ =>
        intro kc nt ι e h a w Q hk hs hb hp
        simp only [kcode] at hk
        split at hk
        · rename_i kc' kx' ky h0 h1 h2
          injection hk with hk; subst hk
          have hx : runC K (m + 1) (.cond kc' kx' ky) e h = (match evX K.g e kc' with
            | some (.bool true) => runC K m kx' e h
            | some (.bool false) => runC K m ky e h
            | _ => .bad) := rfl
          rw [hx] at hb hp
          split at hb
          · rename_i hv
            rw [hv] at hp
            have hrel := evX_sound ok.g hs.env h0 hv
            have hcv : a.eval c = .bool true := by generalize a.eval c = q at hrel; cases hrel; rfl
            exact wp_cond_true hcv (ih1 x kx' nt ι e h a w Q h1 hs hb hp)
          · rename_i hv
            rw [hv] at hp
            have hrel := evX_sound ok.g hs.env h0 hv
            have hcv : a.eval c = .bool false := by generalize a.eval c = q at hrel; cases hrel; rfl
            exact wp_cond_false hcv (ih1 y ky nt ι e h a w Q h2 hs hb hp)
          · exact absurd rfl hb
        · cases hk
      | block id x _ =>
        intro kc nt ι e h a w Q hk hs hb hp
        simp only [kcode] at hk
        obtain ⟨kb, h1, rfl⟩ := map_some hk
        have hx : runC K (m + 1) (.block id kb) e h = inBlk id (runC K m kb e h) := rfl
        rw [hx] at hb hp
        refine wp_block (ih1 x kb nt ι e h a w _ h1 hs (inBlk_bad hb) ?_)
        cases hr : runC K m kb e h with
        | bad => rw [hr] at hb; exact absurd rfl hb
        | norm e' h' => rw [hr] at hp; exact hp
        | ret e' h' => rw [hr] at hp; exact hp
        | pan v e' h' => rw [hr] at hp; exact hp
        | exit i e' h' =>
          rw [hr] at hp
          intro ι' a' w' hgo
          show (if i = id then Q .normal a' w' else Q (.exit i) a' w')
          by_cases hi : i = id
          · rw [if_pos hi]
            have : inBlk id (.exit i e' h') = .norm e' h' := by
              show Bool.rec (motive := fun _ => Out) (.exit i e' h') (.norm e' h') (Nat.beq i id) = _
              rw [beq_iff.2 hi]
            rw [this] at hp; exact hp ι' a' w' hgo
          · rw [if_neg hi]
            have : inBlk id (.exit i e' h') = .exit i e' h' := by
              show Bool.rec (motive := fun _ => Out) (.exit i e' h') (.norm e' h') (Nat.beq i id) = _
              rw [PT.beq_ne hi]
            rw [this] at hp; exact hp ι' a' w' hgo
      | loop x _ =>
        intro kc nt ι e h a w Q hk hs hb hp
        simp only [kcode] at hk
        obtain ⟨kb, h1, rfl⟩ := map_some hk
        exact wp_of_wpL (loops x kb nt ι e h a w Q h1 hs hb hp)
      | scope x ihx =>
        intro kc nt ι e h a w Q hk hs hb hp
        simp only [kcode] at hk
        exact wp_scope_straight (ihx kc nt ι e h a w _ hk hs hb (noGoto_post hp))
      | rangeFunc f ps x y _ _ => intro kc nt ι e h a w Q hk; cases hk
      | goto l => intro kc nt ι e h a w Q hk; cases hk
      | refuse s => intro kc nt ι e h a w Q hk; cases hk
    exact ⟨codes, loops, calls (m + 1) codes⟩
end
end Go.KM
