/-
  One operation of the small machine is one of the model's.
-/
import Derived.Test.YtffpkcmcoppbmaaGreatDoorKOpsJ
import Derived.Calls
namespace Go.KM
open Go.RowKit

def EnvR (W : World) (ρ : Nat → Int) (ι : Inj) (e : Env) (tmps : Array Value) : Prop := ∀ t v, e.get t = some v → ∃ v', tmps[t]? = some v' ∧ Rel W ρ ι v v'
def GOk (W : World) (ρ : Nat → Int) (g : Nat → Option AV) : Prop := ∀ n v, g n = some v → ∀ ι, Rel W ρ ι v (.pointer (some ⟨n, 0, none⟩))
/-- What a call must come to. -/
def CallPost (W : World) (ρ : Nat → Int) (ι : Inj) (h : AH) : R AV → Ending → World → Prop
  | .ok v h', .returned v', w' => ∃ ι', Ext ι h ι' h' ∧ Inv W ρ ι' h' w' ∧ Rel W ρ ι' v v'
  | .pan v h', .panicked chain, w' => ∃ ι' v', chain = [{ v := v', recovered := false }] ∧ Ext ι h ι' h' ∧ Inv W ρ ι' h' w' ∧ Rel W ρ ι' v v'
  | _, _, _ => False
/-- Calls of the small machine are calls of the model's. -/
def CfOk (P : Program) (W : World) (ρ : Nat → Int) (cf : Nat → List AV → AH → R AV) : Prop :=
  ∀ f vs h, cf f vs h ≠ .bad → hasBody P f = true ∧ ∀ ι w vs', Inv W ρ ι h w → RelL W ρ ι vs vs' → Calls P f vs'.toArray w (CallPost W ρ ι h (cf f vs h))
/-- What an operation must come to. -/
def OpPost (W : World) (ρ : Nat → Int) (ι : Inj) (h : AH) (K : Value → World → Prop) (Q : List PanicEntry → World → Prop) : R AV → Prop
  | .ok v h' => ∀ ι' w' v', Ext ι h ι' h' → Inv W ρ ι' h' w' → Rel W ρ ι' v v' → K v' w'
  | .pan v h' => ∀ ι' w' v', Ext ι h ι' h' → Inv W ρ ι' h' w' → Rel W ρ ι' v v' → Q [{ v := v', recovered := false }] w'
  | .bad => False

section
variable {P : Program} {W : World} {ρ : Nat → Int} {ι : Inj} {h : AH} {w : World} {g : Nat → Option AV} {D : BinOp → SE → SE → Option Bool} {cf : Nat → List AV → AH → R AV} {e : Env} {a : Act}

theorem EnvR.mono {κ : Inj} (hle : ι.le κ) {tmps : Array Value} (hr : EnvR W ρ ι e tmps) : EnvR W ρ κ e tmps := fun t v hv => let ⟨v', h1, h2⟩ := hr t v hv; ⟨v', h1, h2.mono hle⟩
theorem evX_sound (hg : GOk W ρ g) (hr : EnvR W ρ ι e a.tmps) {x : Operand} {k : KX} {v : AV} (hk : kx x = some k) (ev : evX g e k = some v) : Rel W ρ ι v (a.eval x) := by
  unfold kx at hk
  split at hk
  · injection hk with hk; subst hk
    obtain ⟨v', h1, h2⟩ := hr _ _ ev
    simp only [Act.eval, Array.getD_eq_getD_getElem?, h1, Option.getD_some]; exact h2
  · rename_i c
    cases hc : ofConst c with
    | none => rw [hc] at hk; cases hk
    | some u =>
      rw [hc] at hk; injection hk with hk; subst hk
      injection ev with ev; subst ev
      exact ofConst_rel hc
  · injection hk with hk; subst hk; exact hg _ _ ev ι
  · injection hk with hk; subst hk
    injection ev with ev; subst ev
    exact .func _ _ _ _ _ .nil .nil
theorem evXs_cons {k : KX} {ks : List KX} {vs : List AV} (ev : evXs g e (k :: ks) = some vs) : ∃ v r, vs = v :: r ∧ evX g e k = some v ∧ evXs g e ks = some r := by
  replace ev : (match evX g e k with
    | some v => Option.rec (motive := fun _ => Option (List AV)) none (fun vs => some (v :: vs)) (evXs g e ks)
    | none => none) = some vs := ev
  split at ev
  · rename_i v hv
    cases hr : evXs g e ks with
    | none => rw [hr] at ev; cases ev
    | some r => rw [hr] at ev; exact ⟨v, r, (Option.some.inj ev).symm, hv, rfl⟩
  · cases ev
theorem evXs_sound (hg : GOk W ρ g) (hr : EnvR W ρ ι e a.tmps) : ∀ {xs : List Operand} {ks : List KX} {vs : List AV}, kxs xs = some ks → evXs g e ks = some vs → RelL W ρ ι vs (xs.map a.eval)
  | [], ks, vs, hk, ev => by
    simp only [kxs] at hk
    injection hk with hk; subst hk
    replace ev : some [] = some vs := ev
    injection ev with ev; subst ev; exact .nil
  | x :: xs, ks, vs, hk, ev => by
    simp only [kxs] at hk
    split at hk
    · rename_i k r h1 h2
      injection hk with hk; subst hk
      obtain ⟨v, q, rfl, e1, e2⟩ := evXs_cons ev
      exact .cons _ _ _ _ (evX_sound hg hr h1 e1) (evXs_sound hg hr h2 e2)
    · cases hk
theorem evO_sound (hg : GOk W ρ g) (hr : EnvR W ρ ι e a.tmps) {x : Option Operand} {k : Option KX} {v : Option AV} (hk : kxo x = some k) (ev : evO g e k = some v) : RelO W ρ ι v (x.map a.eval) := by
  unfold kxo at hk
  split at hk
  · injection hk with hk; subst hk
    injection ev with ev; subst ev; exact .none
  · rename_i y
    cases hy : kx y with
    | none => rw [hy] at hk; cases hk
    | some q =>
      rw [hy] at hk; injection hk with hk; subst hk
      simp only [evO] at ev
      split at ev
      · rename_i u hu
        injection ev with ev; subst ev
        exact .some _ _ (evX_sound hg hr hy hu)
      · cases ev
theorem evPs_sound (hg : GOk W ρ g) (hr : EnvR W ρ ι e a.tmps) {place : Nat → Option (Nat × Nat)} : ∀ {ps : List (Nat × Operand)} {ks : List (Nat × Nat × KX)} {vs : List (Nat × Nat × AV)}, kparts place ps = some ks → evPs g e ks = some vs →
    RelP W ρ ι place vs (ps.map fun (i, x) => (i, a.eval x))
  | [], ks, vs, hk, ev => by
    simp only [kparts] at hk
    injection hk with hk; subst hk
    replace ev : some [] = some vs := ev
    injection ev with ev; subst ev; exact .nil
  | (i, x) :: ps, ks, vs, hk, ev => by
    simp only [kparts] at hk
    split at hk
    · rename_i o s k r h0 h1 h2
      injection hk with hk; subst hk
      replace ev : (match evX g e k with
        | some v => Option.rec (motive := fun _ => Option (List (Nat × Nat × AV))) none (fun vs => some ((o, s, v) :: vs)) (evPs g e r)
        | none => none) = some vs := ev
      split at ev
      · rename_i v hv
        cases hq : evPs g e r with
        | none => rw [hq] at ev; cases ev
        | some q =>
          rw [hq] at ev
          replace ev := Option.some.inj ev; subst ev
          exact .cons _ _ _ _ _ _ _ h0 (evX_sound hg hr h1 hv) (evPs_sound hg hr h2 hq)
      · cases ev
    · cases hk
/-! what follows of an answer -/
theorem wp_did {o : Oper} {K : Act → World → Prop} {Q : Exit → Act → World → Prop} {s : Sem Value} {v : AV} {h' : AH} (he : (execOp a.eval o).run P w = (s.run P w).andThen fun v w' => .ok (.value v) w') (hd : Did W ρ ι h (s.run P w) v h')
    (hp : OpPost W ρ ι h (fun v' w' => K (a.put o.dst v') w') (fun ch w' => Q (.panic ch) a w') (.ok v h')) : o.wp P a w K Q := by
  obtain ⟨ι', w', v', h1, h2, h3, h4⟩ := hd
  unfold Oper.wp
  rw [he, h1]
  exact hp ι' w' v' h2 h3 h4
theorem wp_same (I : Inv W ρ ι h w) {o : Oper} {K : Act → World → Prop} {Q : Exit → Act → World → Prop} {s : Sem Value} {v : AV} {h' : AH} (he : (execOp a.eval o).run P w = (s.run P w).andThen fun v w' => .ok (.value v) w')
    (hd : h' = h ∧ ∃ v', s.run P w = .ok v' w ∧ Rel W ρ ι v v')
    (hp : OpPost W ρ ι h (fun v' w' => K (a.put o.dst v') w') (fun ch w' => Q (.panic ch) a w') (.ok v h')) : o.wp P a w K Q := by
  obtain ⟨rfl, v', h1, h2⟩ := hd
  exact wp_did he (.here I h1 h2) hp
theorem wp_unit {o : Oper} {K : Act → World → Prop} {Q : Exit → Act → World → Prop} {s : Sem Unit} {v : AV} {h' : AH} (he : (execOp a.eval o).run P w = (s.run P w).andThen fun _ w' => .ok .skip w') (hd : v = .tup [] ∧ DidU W ρ ι h (s.run P w) h')
    (hp : OpPost W ρ ι h (fun v' w' => K (a.put o.dst v') w') (fun ch w' => Q (.panic ch) a w') (.ok v h')) : o.wp P a w K Q := by
  obtain ⟨rfl, ι', w', h1, h2, h3⟩ := hd
  unfold Oper.wp
  rw [he, h1]
  exact hp ι' w' undef h2 h3 (.tup _ _ .nil)
theorem w1_ok {x : Option AV} {k : AV → R AV} {r : R AV} (hr : w1 x k = r) (hb : r ≠ .bad) : ∃ v, x = some v ∧ k v = r := by
  cases x with
  | none => exact absurd hr.symm hb
  | some v => exact ⟨v, rfl, hr⟩
theorem wO_ok {x : Option (Option AV)} {k : Option AV → R AV} {r : R AV} (hr : wO x k = r) (hb : r ≠ .bad) : ∃ v, x = some v ∧ k v = r := by
  cases x with
  | none => exact absurd hr.symm hb
  | some v => exact ⟨v, rfl, hr⟩
theorem bin2_some {f : KX → KX → KOp} {x y : Operand} {k : KOp} (hk : bin2 f x y = some k) : ∃ a b, kx x = some a ∧ kx y = some b ∧ k = f a b := by
  unfold bin2 at hk
  split at hk
  · rename_i a b h1 h2; injection hk with hk; exact ⟨a, b, h1, h2, hk.symm⟩
  · cases hk
theorem un1_some {f : KX → KOp} {x : Operand} {k : KOp} (hk : un1 f x = some k) : ∃ a, kx x = some a ∧ k = f a := by
  unfold un1 at hk
  cases hx : kx x with
  | none => rw [hx] at hk; cases hk
  | some a => rw [hx] at hk; injection hk with hk; exact ⟨a, rfl, hk.symm⟩
theorem map_some {α β : Type} {f : α → β} {x : Option α} {k : β} (hk : x.map f = some k) : ∃ a, x = some a ∧ k = f a := by
  cases x with
  | none => cases hk
  | some a => injection hk with hk; exact ⟨a, rfl, hk.symm⟩
theorem callFunc_enter {f : Nat} (hf : hasBody P f = true) (args : Array Value) : (callFunc f args).run P w = .ok (.enter f args) w := by
  unfold hasBody at hf
  split at hf
  · rename_i fn hfn
    rw [Bool.and_eq_true] at hf
    have h1 : ¬ fn.body = none := by intro hb; rw [hb] at hf; exact absurd hf.1 (by simp)
    have h2 : ¬ fn.name = "runtime.NumGoroutine" := by simpa [bne] using hf.2
    simp [callFunc, hfn, h1, h2]
  · cases hf
/-- A call, by what it comes to. -/
theorem wp_call {o : Oper} {K : Act → World → Prop} {Q : Exit → Act → World → Prop} {f : Nat} {vs : List AV} {vs' : List Value} (I : Inv W ρ ι h w) (hc : CfOk P W ρ cf) (hv : RelL W ρ ι vs vs') (hb : cf f vs h ≠ .bad)
    (he : hasBody P f = true → (execOp a.eval o).run P w = .ok (.enter f vs'.toArray) w)
    (hp : OpPost W ρ ι h (fun v' w' => K (a.put o.dst v') w') (fun ch w' => Q (.panic ch) a w') (cf f vs h)) : o.wp P a w K Q := by
  obtain ⟨h1, h2⟩ := hc f vs h hb
  unfold Oper.wp
  rw [he h1, Oper.upon_enter]
  refine (h2 ι w vs' I hv).mono ?_
  intro en w' hpost
  generalize cf f vs h = r at hp hpost hb
  cases r with
  | bad => exact absurd rfl hb
  | ok v h' =>
    cases en with
    | returned v' => obtain ⟨ι', q1, q2, q3⟩ := hpost; exact hp ι' w' v' q1 q2 q3
    | panicked ch => exact hpost.elim
    | outgrown => exact hpost.elim
  | pan v h' =>
    cases en with
    | returned v' => exact hpost.elim
    | panicked ch => obtain ⟨ι', v', rfl, q1, q2, q3⟩ := hpost; exact hp ι' w' v' q1 q2 q3
    | outgrown => exact hpost.elim

theorem run_places : ∀ {fs : List Field} {pl : List (Nat × Nat)}, structPlaces P fs = some pl → (fs.mapM (fun f => do pure (f.offset, ← sizeOf f.type)) : Sem (List (Nat × Nat))).run P w = .ok pl w
  | [], pl, hs => by
    simp only [structPlaces] at hs
    injection hs with hs; subst hs; rfl
  | f :: fs, pl, hs => by
    simp only [structPlaces] at hs
    split at hs
    · rename_i s r h1 h2
      injection hs with hs; subst hs
      have ih := run_places h2
      simp at ih
      simp [List.mapM_cons, run_sizeOf' h1, ih]
    · cases hs
theorem build_sound (I : Inv W ρ ι h w) {t : TypeId} {fs : Array Field} {pl : List (Nat × Nat)} {z : AV} (hu : P.underlying t = some (.struct fs)) (hz : zeroOf P t = some z) (hpl : structPlaces P fs.toList = some pl)
    {ps : List (Nat × Nat × AV)} {ps' : List (Nat × Value)} (hps : RelP W ρ ι (fun (i : Nat) => pl[i]?) ps ps') {cs : List AV} (hf : fill z.cells ps = some cs) :
    h = h ∧ ∃ v', (Instr.build t ps'.toArray).run P w = .ok v' w ∧ Rel W ρ ι (.agg cs) v' := by
  obtain ⟨z', hz1, hz2⟩ := run_zeroValue' hz
  obtain ⟨r', k1, k2⟩ := fill_sound hps (ofConst_rel (W := W) (ρ := ρ) (ι := ι) hz1).cells hf
  refine ⟨rfl, .agg r', ?_, .agg _ _ k2⟩
  have hm : (fs.mapM (fun f => do pure (f.offset, ← sizeOf f.type)) : Sem (Array (Nat × Nat))).run P w = .ok pl.toArray w := by
    rw [Array.mapM_eq_mapM_toList, Sem.run_map, run_places hpl]; rfl
  have hfn : (fun (i : Nat) => pl.toArray[i]?) = (fun (i : Nat) => pl[i]?) := by funext i; simp
  simp only [Instr.build, Sem.run_bind, hz2, Result.andThen_ok, run_underlying hu, hm, hfn, List.toList_toArray, k1]
  rfl
theorem buildArr_sound (I : Inv W ρ ι h w) {t el n s : TypeId} {z : AV} (hu : P.underlying t = some (.array n el)) (hz : zeroOf P t = some z) (hs : sizeC P el = some s)
    {ps : List (Nat × Nat × AV)} {ps' : List (Nat × Value)} (hps : RelP W ρ ι (fun i => some (i * s, s)) ps ps') {cs : List AV} (hf : fill z.cells ps = some cs) :
    h = h ∧ ∃ v', (Instr.build t ps'.toArray).run P w = .ok v' w ∧ Rel W ρ ι (.agg cs) v' := by
  obtain ⟨z', hz1, hz2⟩ := run_zeroValue' hz
  obtain ⟨r', k1, k2⟩ := fill_sound hps (ofConst_rel (W := W) (ρ := ρ) (ι := ι) hz1).cells hf
  refine ⟨rfl, .agg r', ?_, .agg _ _ k2⟩
  simp only [Instr.build, Sem.run_bind, hz2, Result.andThen_ok, run_underlying hu, run_sizeOf' hs, List.toList_toArray, k1]
  rfl
theorem bslice_made {t el s len : TypeId} {z : AV} (hu : P.underlying t = some (.slice el)) (hz : zeroOf P el = some z) (hs : sizeC P el = some s) (hle : ¬ (len * s > 2 ^ 24)) (hzs : z.cells.length = s)
    {ps : List (Nat × Nat × AV)} {ps' : List (Nat × Value)} (hps : RelP W ρ ι (fun i => some (i * s, s)) ps ps') {cs : List AV} (hf : fill ((List.replicate len z.cells).flatten) ps = some cs) :
    Made W ρ ι w ((Instr.buildSlice t len ps'.toArray).run P w) (.sl · 0 len s (some len)) cs := by
  obtain ⟨z', hz1, hz2⟩ := run_zeroValue' hz
  have hzr := ofConst_rel (W := W) (ρ := ρ) (ι := ι) hz1
  have hzl : z'.cells.size = s := by
    have := hzr.cells.length
    rw [hzs] at this; simpa using this.symm
  have hrel := zeroCells_rel hzr len
  rw [repN_eq] at hrel
  obtain ⟨r', k1, k2⟩ := fill_sound hps hrel hf
  obtain ⟨m1, m2⟩ := newRow_made (P := P) (w := w) el k2
  refine ⟨.slice (some ⟨w.heap.size, 0, none⟩) len len, r', el, ?_, m2, fun id κ hput => by simpa using Rel.sl (W := W) (ρ := ρ) id 0 len s len _ _ _ hput⟩
  have hle' : ¬ (16777216 < len * s) := hle
  by_cases h0 : len * s = 0
  · have h1 : (Builtin.zeroCells z'.cells len).size = 0 := by rw [size_zeroCells, hzl]; exact h0
    have h2 := Array.eq_empty_of_size_eq_zero h1
    rw [h2] at k1
    simp only [Instr.buildSlice, Sem.run_bind, run_underlying hu, Result.andThen_ok, run_sizeOf' hs, Sem.run_ite, h0]
    simp
    rw [show Array.map (fun _ => (default : Value)) (Array.range 0) = #[] from by simp, k1]
    simp [m1]
  · have h2 : (Array.range (len * s)).map (fun i => z'.cells[i % z'.cells.size]!) = Builtin.zeroCells z'.cells len := by simp [Builtin.zeroCells, hzl]
    simp only [Instr.buildSlice, Sem.run_bind, run_underlying hu, Result.andThen_ok, run_sizeOf' hs, Sem.run_ite]
    simp [hle', h0, hz2]
    rw [h2, k1]
    simp [m1]
theorem xbin_vals {op : BinOp} {x y v : AV} {x' : Value} {h' : AH} (hx : Rel W ρ ι x x') (e : xbin D op x y h = .ok v h') : (∃ k n, x' = .int k n) ∨ (∃ s, x' = .string s) := by
  unfold xbin at e
  split at e
  · cases hx; exact .inl ⟨_, _, rfl⟩
  · cases hx; exact .inr ⟨_, rfl⟩
  · unfold xsym at e
    split at e
    · rename_i k a l b ha hb
      exact .inl ⟨_, _, seOf_val hx ha⟩
    · cases e
theorem bin_sound (hD : DOk ρ D) (I : Inv W ρ ι h w) {op : BinOp} {x y : AV} {x' y' : Value} {v : AV} {h' : AH} (t : TypeId) (xo yo : Operand) (hx : Rel W ρ ι x x') (hy : Rel W ρ ι y y') (e : xbin D op x y h = .ok v h') :
    h' = h ∧ ∃ v', (do eqGuard op t xo yo x' y'; binOp op t x' y' : Sem Value).run P w = .ok v' w ∧ Rel W ρ ι v v' := by
  obtain ⟨q1, v', q2, q3⟩ := xbin_sound hD I t hx hy e
  have hgd : (eqGuard op t xo yo x' y').run P w = .ok () w := by
    rcases xbin_vals hx e with ⟨k, n, rfl⟩ | ⟨s, rfl⟩ <;> exact guard_quiet (by simp) (by simp)
  exact ⟨q1, v', by rw [Sem.run_bind, hgd]; exact q2, q3⟩
theorem R_ok {r : R AV} (hb : r ≠ .bad) (hnp : ∀ v h', r ≠ .pan v h') : ∃ v h', r = .ok v h' := by
  cases r with
  | ok v h' => exact ⟨v, h', rfl⟩
  | pan v h' => exact absurd rfl (hnp v h')
  | bad => exact absurd rfl hb
/-- An answer that is no panic. -/
def NoPan (r : R AV) : Prop := ∀ v h', r ≠ .pan v h'
theorem noPan_bad : NoPan .bad := fun _ _ h => by cases h
theorem noPan_ok (v : AV) (h : AH) : NoPan (.ok v h) := fun _ _ h => by cases h
theorem noPan_sel {r : R AV} (hr : NoPan r) (c : Bool) : NoPan (Bool.rec (motive := fun _ => R AV) .bad r c) := by cases c; exact noPan_bad; exact hr
theorem noPan_not {r : R AV} (hr : NoPan r) (c : Bool) : NoPan (Bool.rec (motive := fun _ => R AV) r .bad c) := by cases c; exact hr; exact noPan_bad
theorem noPan_two {r s : R AV} (hr : NoPan r) (hs : NoPan s) (c : Bool) : NoPan (Bool.rec (motive := fun _ => R AV) r s c) := by cases c; exact hr; exact hs
theorem noPan_int (k : IntKind) (n : Int) (h : AH) : NoPan (mkInt k n h) := by rw [mkInt_eq]; exact noPan_ok _ _
theorem noPan_bool (b : Bool) (h : AH) : NoPan (mkBool b h) := by rw [mkBool_eq]; exact noPan_ok _ _
theorem np_load1 (x : AV) (h : AH) : NoPan (xload1 x h) := by
  unfold xload1
  repeat' (first | exact noPan_bad | exact noPan_ok _ _ | exact noPan_int _ _ _ | exact noPan_bool _ _ | refine noPan_sel ?_ _ | refine noPan_not ?_ _ | refine noPan_two ?_ ?_ _ | split | (simp only [forceN_eq]))
theorem np_loadn (n : Nat) (x : AV) (h : AH) : NoPan (xloadn n x h) := by
  unfold xloadn
  repeat' (first | exact noPan_bad | exact noPan_ok _ _ | exact noPan_int _ _ _ | exact noPan_bool _ _ | refine noPan_sel ?_ _ | refine noPan_not ?_ _ | refine noPan_two ?_ ?_ _ | split | (simp only [forceN_eq]))
theorem np_store (n : Nat) (x y : AV) (h : AH) : NoPan (xstore n x y h) := by
  unfold xstore
  repeat' (first | exact noPan_bad | exact noPan_ok _ _ | exact noPan_int _ _ _ | exact noPan_bool _ _ | refine noPan_sel ?_ _ | refine noPan_not ?_ _ | refine noPan_two ?_ ?_ _ | split | (simp only [forceN_eq]))
theorem np_nilchk (x : AV) (h : AH) : NoPan (xnilchk x h) := by
  unfold xnilchk
  repeat' (first | exact noPan_bad | exact noPan_ok _ _ | exact noPan_int _ _ _ | exact noPan_bool _ _ | refine noPan_sel ?_ _ | refine noPan_not ?_ _ | refine noPan_two ?_ ?_ _ | split | (simp only [forceN_eq]))
theorem np_sym (D : BinOp → SE → SE → Option Bool) (op : BinOp) (x y : AV) (h : AH) : NoPan (xsym D op x y h) := by
  unfold xsym
  repeat' (first | exact noPan_bad | exact noPan_ok _ _ | exact noPan_int _ _ _ | exact noPan_bool _ _ | refine noPan_sel ?_ _ | refine noPan_not ?_ _ | refine noPan_two ?_ ?_ _ | split | (simp only [forceN_eq]))
theorem np_eql (n : Bool) (k : Nat) (x y : AV) (h : AH) : NoPan (xeql n k x y h) := by
  unfold xeql
  repeat' (first | exact noPan_bad | exact noPan_ok _ _ | exact noPan_int _ _ _ | exact noPan_bool _ _ | refine noPan_sel ?_ _ | refine noPan_not ?_ _ | refine noPan_two ?_ ?_ _ | split | (simp only [forceN_eq]))
theorem np_eqs (n : Bool) (ks : List Nat) (x y : AV) (h : AH) : NoPan (xeqs n ks x y h) := by
  unfold xeqs
  repeat' (first | exact noPan_bad | exact noPan_ok _ _ | exact noPan_int _ _ _ | exact noPan_bool _ _ | refine noPan_sel ?_ _ | refine noPan_not ?_ _ | refine noPan_two ?_ ?_ _ | split | (simp only [forceN_eq]))
theorem np_un (op : UnOp) (x : AV) (h : AH) : NoPan (xun op x h) := by
  unfold xun
  repeat' (first | exact noPan_bad | exact noPan_ok _ _ | exact noPan_int _ _ _ | exact noPan_bool _ _ | refine noPan_sel ?_ _ | refine noPan_not ?_ _ | refine noPan_two ?_ ?_ _ | split | (simp only [forceN_eq]))
theorem np_conv (k : IntKind) (x : AV) (h : AH) : NoPan (xconv k x h) := by
  unfold xconv
  repeat' (first | exact noPan_bad | exact noPan_ok _ _ | exact noPan_int _ _ _ | exact noPan_bool _ _ | refine noPan_sel ?_ _ | refine noPan_not ?_ _ | refine noPan_two ?_ ?_ _ | split | (simp only [forceN_eq]))
theorem np_convBytes (x : AV) (h : AH) : NoPan (xconvBytes x h) := by
  unfold xconvBytes
  repeat' (first | exact noPan_bad | exact noPan_ok _ _ | exact noPan_int _ _ _ | exact noPan_bool _ _ | refine noPan_sel ?_ _ | refine noPan_not ?_ _ | refine noPan_two ?_ ?_ _ | split | (simp only [forceN_eq]))
theorem np_convStr (x : AV) (h : AH) : NoPan (xconvStr x h) := by
  unfold xconvStr
  repeat' (first | exact noPan_bad | exact noPan_ok _ _ | exact noPan_int _ _ _ | exact noPan_bool _ _ | refine noPan_sel ?_ _ | refine noPan_not ?_ _ | refine noPan_two ?_ ?_ _ | split | (simp only [forceN_eq]))
theorem np_mkslice (s b : Nat) (z : List AV) (l c : AV) (h : AH) : NoPan (xmkslice s b z l c h) := by
  unfold xmkslice
  repeat' (first | exact noPan_bad | exact noPan_ok _ _ | exact noPan_int _ _ _ | exact noPan_bool _ _ | refine noPan_sel ?_ _ | refine noPan_not ?_ _ | refine noPan_two ?_ ?_ _ | split | (simp only [forceN_eq]))
theorem np_slc (s : Nat) (x : AV) (lo hi mx : Option AV) (h : AH) : NoPan (xslc s x lo hi mx h) := by
  unfold xslc
  repeat' (first | exact noPan_bad | exact noPan_ok _ _ | exact noPan_int _ _ _ | exact noPan_bool _ _ | refine noPan_sel ?_ _ | refine noPan_not ?_ _ | refine noPan_two ?_ ?_ _ | split | (simp only [forceN_eq]))
theorem np_slcs (x : AV) (lo hi : Option AV) (h : AH) : NoPan (xslcs x lo hi h) := by
  unfold xslcs
  repeat' (first | exact noPan_bad | exact noPan_ok _ _ | exact noPan_int _ _ _ | exact noPan_bool _ _ | refine noPan_sel ?_ _ | refine noPan_not ?_ _ | refine noPan_two ?_ ?_ _ | split | (simp only [forceN_eq]))
theorem np_slca (n s : Nat) (x : AV) (lo hi mx : Option AV) (h : AH) : NoPan (xslca n s x lo hi mx h) := by
  unfold xslca
  repeat' (first | exact noPan_bad | exact noPan_ok _ _ | exact noPan_int _ _ _ | exact noPan_bool _ _ | refine noPan_sel ?_ _ | refine noPan_not ?_ _ | refine noPan_two ?_ ?_ _ | split | (simp only [forceN_eq]))
theorem np_fadr (n : Nat) (x : AV) (h : AH) : NoPan (xfadr n x h) := by
  unfold xfadr
  repeat' (first | exact noPan_bad | exact noPan_ok _ _ | exact noPan_int _ _ _ | exact noPan_bool _ _ | refine noPan_sel ?_ _ | refine noPan_not ?_ _ | refine noPan_two ?_ ?_ _ | split | (simp only [forceN_eq]))
theorem np_fld1 (n : Nat) (x : AV) (h : AH) : NoPan (xfld1 n x h) := by
  unfold xfld1
  repeat' (first | exact noPan_bad | exact noPan_ok _ _ | exact noPan_int _ _ _ | exact noPan_bool _ _ | refine noPan_sel ?_ _ | refine noPan_not ?_ _ | refine noPan_two ?_ ?_ _ | split | (simp only [forceN_eq]))
theorem np_fldn (n m : Nat) (x : AV) (h : AH) : NoPan (xfldn n m x h) := by
  unfold xfldn
  repeat' (first | exact noPan_bad | exact noPan_ok _ _ | exact noPan_int _ _ _ | exact noPan_bool _ _ | refine noPan_sel ?_ _ | refine noPan_not ?_ _ | refine noPan_two ?_ ?_ _ | split | (simp only [forceN_eq]))
theorem np_idxa (s : Nat) (x i : AV) (h : AH) : NoPan (xidxa s x i h) := by
  unfold xidxa
  repeat' (first | exact noPan_bad | exact noPan_ok _ _ | exact noPan_int _ _ _ | exact noPan_bool _ _ | refine noPan_sel ?_ _ | refine noPan_not ?_ _ | refine noPan_two ?_ ?_ _ | split | (simp only [forceN_eq]))
theorem np_idxaa (n s : Nat) (x i : AV) (h : AH) : NoPan (xidxaa n s x i h) := by
  unfold xidxaa
  repeat' (first | exact noPan_bad | exact noPan_ok _ _ | exact noPan_int _ _ _ | exact noPan_bool _ _ | refine noPan_sel ?_ _ | refine noPan_not ?_ _ | refine noPan_two ?_ ?_ _ | split | (simp only [forceN_eq]))
theorem np_idxs (x i : AV) (h : AH) : NoPan (xidxs x i h) := by
  unfold xidxs
  repeat' (first | exact noPan_bad | exact noPan_ok _ _ | exact noPan_int _ _ _ | exact noPan_bool _ _ | refine noPan_sel ?_ _ | refine noPan_not ?_ _ | refine noPan_two ?_ ?_ _ | split | (simp only [forceN_eq]))
theorem np_look (kk : Nat) (z : AV) (ok : Bool) (x i : AV) (h : AH) : NoPan (xlook kk z ok x i h) := by
  unfold xlook
  repeat' (first | exact noPan_bad | exact noPan_ok _ _ | exact noPan_int _ _ _ | exact noPan_bool _ _ | refine noPan_sel ?_ _ | refine noPan_not ?_ _ | refine noPan_two ?_ ?_ _ | split | (simp only [forceN_eq]))
theorem np_mupd (kk : Nat) (x k v : AV) (h : AH) : NoPan (xmupd kk x k v h) := by
  unfold xmupd
  repeat' (first | exact noPan_bad | exact noPan_ok _ _ | exact noPan_int _ _ _ | exact noPan_bool _ _ | refine noPan_sel ?_ _ | refine noPan_not ?_ _ | refine noPan_two ?_ ?_ _ | split | (simp only [forceN_eq]))
theorem np_mdel (kk : Nat) (x k : AV) (h : AH) : NoPan (xmdel kk x k h) := by
  unfold xmdel
  repeat' (first | exact noPan_bad | exact noPan_ok _ _ | exact noPan_int _ _ _ | exact noPan_bool _ _ | refine noPan_sel ?_ _ | refine noPan_not ?_ _ | refine noPan_two ?_ ?_ _ | split | (simp only [forceN_eq]))
theorem np_ext (x : AV) (i : Nat) (h : AH) : NoPan (xext x i h) := by
  unfold xext
  repeat' (first | exact noPan_bad | exact noPan_ok _ _ | exact noPan_int _ _ _ | exact noPan_bool _ _ | refine noPan_sel ?_ _ | refine noPan_not ?_ _ | refine noPan_two ?_ ?_ _ | split | (simp only [forceN_eq]))
theorem np_len (kk : Nat) (x : AV) (h : AH) : NoPan (xlen kk x h) := by
  unfold xlen
  repeat' (first | exact noPan_bad | exact noPan_ok _ _ | exact noPan_int _ _ _ | exact noPan_bool _ _ | refine noPan_sel ?_ _ | refine noPan_not ?_ _ | refine noPan_two ?_ ?_ _ | split | (simp only [forceN_eq]))
theorem np_min (x y : AV) (h : AH) : NoPan (xmin x y h) := by
  unfold xmin
  repeat' (first | exact noPan_bad | exact noPan_ok _ _ | exact noPan_int _ _ _ | exact noPan_bool _ _ | refine noPan_sel ?_ _ | refine noPan_not ?_ _ | refine noPan_two ?_ ?_ _ | split | (simp only [forceN_eq]))
theorem np_max (x y : AV) (h : AH) : NoPan (xmax x y h) := by
  unfold xmax
  repeat' (first | exact noPan_bad | exact noPan_ok _ _ | exact noPan_int _ _ _ | exact noPan_bool _ _ | refine noPan_sel ?_ _ | refine noPan_not ?_ _ | refine noPan_two ?_ ?_ _ | split | (simp only [forceN_eq]))
theorem np_grown (s b l n : Nat) (cs : List AV) (h : AH) : NoPan (grown s b l n cs h) := by
  unfold grown
  repeat' (first | exact noPan_bad | exact noPan_ok _ _ | exact noPan_int _ _ _ | exact noPan_bool _ _ | refine noPan_sel ?_ _ | refine noPan_not ?_ _ | refine noPan_two ?_ ?_ _ | split | (simp only [forceN_eq]))
theorem np_copy (s : Nat) (x y : AV) (h : AH) : NoPan (xcopy s x y h) := by
  unfold xcopy
  repeat' (first | exact noPan_bad | exact noPan_ok _ _ | exact noPan_int _ _ _ | exact noPan_bool _ _ | refine noPan_sel ?_ _ | refine noPan_not ?_ _ | refine noPan_two ?_ ?_ _ | split | (simp only [forceN_eq]))
theorem np_convBs (x : AV) (h : AH) : NoPan (xconvBs x h) := by
  unfold xconvBs
  repeat' (first | exact noPan_bad | exact noPan_ok _ _ | split)
theorem np_bin (D : BinOp → SE → SE → Option Bool) (op : BinOp) (x y : AV) (h : AH) : NoPan (xbin D op x y h) := by
  unfold xbin
  repeat' (first | exact noPan_bad | exact noPan_ok _ _ | exact noPan_int _ _ _ | exact noPan_bool _ _ | exact np_sym _ _ _ _ _ | refine noPan_sel ?_ _ | refine noPan_not ?_ _ | split)
theorem np_place (b o l s n : Nat) (c : Option Nat) (cs nw : List AV) (h : AH) : NoPan (inPlace b o l s n c cs nw h) := by unfold inPlace; rw [forceN_eq]; exact noPan_ok _ _
theorem np_apnd1 (s b b0 o l n : Nat) (c : Option Nat) (cs old nw : List AV) (h : AH) : NoPan (apnd1 s b b0 o l n c cs old nw h) := by
  unfold apnd1
  repeat' (first | exact np_grown _ _ _ _ _ _ | exact np_place _ _ _ _ _ _ _ _ _ | refine noPan_sel ?_ _ | refine noPan_two ?_ ?_ _ | split)
theorem np_apnd0 (s b n : Nat) (nw : List AV) (x : AV) (h : AH) : NoPan (apnd0 s b n nw x h) := by
  unfold apnd0
  repeat' (first | exact noPan_bad | exact np_grown _ _ _ _ _ _ | exact np_apnd1 _ _ _ _ _ _ _ _ _ _ _ | refine noPan_sel ?_ _ | split)
theorem np_apnd (s b : Nat) (x y : AV) (h : AH) : NoPan (xapnd s b x y h) := by
  unfold xapnd
  repeat' (first | exact noPan_bad | exact noPan_ok _ _ | exact np_apnd0 _ _ _ _ _ _ | refine noPan_sel ?_ _ | refine noPan_two ?_ ?_ _ | split)
theorem np_apndz (s b : Nat) (z : List AV) (x y : AV) (h : AH) : NoPan (xapndz s b z x y h) := by
  unfold xapndz
  repeat' (first | exact noPan_bad | exact noPan_ok _ _ | exact np_apnd0 _ _ _ _ _ _ | refine noPan_sel ?_ _ | refine noPan_two ?_ ?_ _ | split)
/-- What an operation that neither calls nor panics comes to, by its answer. -/
theorem by_ok {r : R AV} {G : Prop} (np : NoPan r) (hb : r ≠ .bad) (k : ∀ v h', r = .ok v h' → G) : G := by
  cases r with
  | ok v h' => exact k v h' rfl
  | pan v h' => exact absurd rfl (np v h')
  | bad => exact absurd rfl hb
set_option maxHeartbeats 4000000 in
/-- One operation. -/
theorem exOp_sound (hg : GOk W ρ g) (hD : DOk ρ D) (hc : CfOk P W ρ cf) (I : Inv W ρ ι h w) (hr : EnvR W ρ ι e a.tmps) {o : Oper} {k : KOp} (hk : kop P o.op = some k) {K : Act → World → Prop} {Q : Exit → Act → World → Prop}
    (hb : exOp g D cf k e h ≠ .bad)
    (hp : OpPost W ρ ι h (fun v' w' => K (a.put o.dst v') w') (fun ch w' => Q (.panic ch) a w') (exOp g D cf k e h)) : o.wp P a w K Q := by
  obtain ⟨dst, op, type, pos, after, guard⟩ := o
  cases op <;> simp only [kop] at hk
  case move x =>
    obtain ⟨y, h1, rfl⟩ := un1_some hk
    obtain ⟨v, h2, h3⟩ := w1_ok (r := exOp g D cf (.mov y) e h) rfl hb
    rw [← h3] at hp
    exact wp_same I (s := pure (a.eval x)) rfl ⟨rfl, _, rfl, evX_sound hg hr h1 h2⟩ hp
  case assign x =>
    obtain ⟨y, h1, rfl⟩ := un1_some hk
    obtain ⟨v, h2, h3⟩ := w1_ok (r := exOp g D cf (.mov y) e h) rfl hb
    rw [← h3] at hp
    exact wp_same I (s := pure (a.eval x)) rfl ⟨rfl, _, rfl, evX_sound hg hr h1 h2⟩ hp
  case pick c x y =>
    split at hk
    · rename_i kc kx' ky hc1 hx1 hy1
      injection hk with hk; subst hk
      obtain ⟨vc, h2, h3⟩ := w1_ok (r := exOp g D cf (.pick kc kx' ky) e h) rfl hb
      have hcr := evX_sound hg hr hc1 h2
      split at h3
      · obtain ⟨v, h4, h5⟩ := w1_ok h3 hb
        rw [← h5] at hp
        have hcv : a.eval c = .bool true := by generalize a.eval c = q at hcr; cases hcr; rfl
        exact wp_same I (s := pure (a.eval x)) (by simp [execOp, hcv, asBool]) ⟨rfl, _, rfl, evX_sound hg hr hx1 h4⟩ hp
      · obtain ⟨v, h4, h5⟩ := w1_ok h3 hb
        rw [← h5] at hp
        have hcv : a.eval c = .bool false := by generalize a.eval c = q at hcr; cases hcr; rfl
        exact wp_same I (s := pure (a.eval y)) (by simp [execOp, hcv, asBool]) ⟨rfl, _, rfl, evX_sound hg hr hy1 h4⟩ hp
      · exact absurd h3.symm hb
    · cases hk
  case alloc t =>
    obtain ⟨z, h1, rfl⟩ := map_some hk
    exact wp_did (s := Instr.alloc t true (.tuple #[])) (by simp [execOp]) ((alloc_made h1).did I) hp
  case box t x =>
    obtain ⟨y, h1, rfl⟩ := un1_some hk
    obtain ⟨v, h2, h3⟩ := w1_ok (r := exOp g D cf (.box y) e h) rfl hb
    rw [← h3] at hp
    exact wp_did (s := Instr.box t (a.eval x)) (by simp [execOp]) ((box_made t (evX_sound hg hr h1 h2)).did I) hp
  case build t ps =>
    split at hk
    · rename_i fs z hu hz
      split at hk
      · rename_i pl hpl
        obtain ⟨kp, h1, rfl⟩ := map_some hk
        simp only [exOp] at hb hp
        split at hb
        · rename_i vs hvs
          rw [hvs] at hp; dsimp only at hp
          split at hb
          · rename_i cs hcs
            rw [hcs] at hp
            have hps := evPs_sound hg hr h1 hvs
            have he : (ps.map fun (i, x) => (i, a.eval x)) = (ps.toList.map fun (i, x) => (i, a.eval x)).toArray := by apply Array.toList_inj.1; simp
            exact wp_same I (s := Instr.build t (ps.toList.map fun (i, x) => (i, a.eval x)).toArray) (by simp only [execOp, Sem.run_bind, Sem.run_pure]; rw [he]) (build_sound I hu hz hpl hps hcs) hp
          · exact absurd rfl hb
        · exact absurd rfl hb
      · cases hk
    · rename_i n el z hu hz
      split at hk
      · rename_i s hs
        obtain ⟨kp, h1, rfl⟩ := map_some hk
        simp only [exOp] at hb hp
        split at hb
        · rename_i vs hvs
          rw [hvs] at hp; dsimp only at hp
          split at hb
          · rename_i cs hcs
            rw [hcs] at hp
            have hps := evPs_sound hg hr h1 hvs
            have he : (ps.map fun (i, x) => (i, a.eval x)) = (ps.toList.map fun (i, x) => (i, a.eval x)).toArray := by apply Array.toList_inj.1; simp
            exact wp_same I (s := Instr.build t (ps.toList.map fun (i, x) => (i, a.eval x)).toArray) (by simp only [execOp, Sem.run_bind, Sem.run_pure]; rw [he]) (buildArr_sound I hu hz hs hps hcs) hp
          · exact absurd rfl hb
        · exact absurd rfl hb
      · cases hk
    · cases hk
  case buildSlice t len ps =>
    split at hk
    · rename_i el hu
      split at hk
      · rename_i s z hs hz
        split at hk
        · cases hk
        · rename_i hcond
          simp only [Bool.or_eq_true, decide_eq_true_eq, bne_iff_ne, not_or, ne_eq, Decidable.not_not] at hcond
          obtain ⟨kp, h1, rfl⟩ := map_some hk
          simp only [exOp] at hb hp
          split at hb
          · rename_i vs hvs
            rw [hvs] at hp; dsimp only at hp
            split at hb
            · rename_i cs hcs
              rw [hcs] at hp
              have hps := evPs_sound hg hr h1 hvs
              have he : (ps.map fun (i, x) => (i, a.eval x)) = (ps.toList.map fun (i, x) => (i, a.eval x)).toArray := by apply Array.toList_inj.1; simp
              exact wp_did (s := Instr.buildSlice t len (ps.toList.map fun (i, x) => (i, a.eval x)).toArray) (by simp only [execOp, Sem.run_bind, Sem.run_pure]; rw [he]) ((bslice_made hu hz hs hcond.1 hcond.2 hps hcs).did I) hp
            · exact absurd rfl hb
          · exact absurd rfl hb
      · cases hk
    · cases hk
  case load t x =>
    split at hk
    · rename_i n ht hn
      obtain ⟨y, h1, rfl⟩ := un1_some hk
      obtain ⟨u, h2, h3⟩ := w1_ok (r := exOp g D cf (.loadn n y) e h) rfl hb
      rw [← h3] at hp hb
      refine by_ok (np_loadn _ _ _) hb fun v h' hv => ?_
      rw [hv] at hp
      obtain ⟨rfl, hd⟩ := loadn_sound I (evX_sound hg hr h1 h2) ht hn hv
      exact wp_same I (s := Instr.loadAt t (a.eval x)) (by simp [execOp]) ⟨rfl, hd⟩ hp
    · rename_i ht
      obtain ⟨y, h1, rfl⟩ := un1_some hk
      obtain ⟨u, h2, h3⟩ := w1_ok (r := exOp g D cf (.load1 y) e h) rfl hb
      rw [← h3] at hp hb
      refine by_ok (np_load1 _ _) hb fun v h' hv => ?_
      rw [hv] at hp
      obtain ⟨rfl, hd⟩ := load1_sound I (evX_sound hg hr h1 h2) ht hv
      exact wp_same I (s := Instr.loadAt t (a.eval x)) (by simp [execOp]) ⟨rfl, hd⟩ hp
    · cases hk
  case store t x y =>
    split at hk
    · rename_i n hn
      obtain ⟨p, q, h1, h2, rfl⟩ := bin2_some hk
      obtain ⟨u1, m1, m2⟩ := w1_ok (r := exOp g D cf (.store n p q) e h) rfl hb
      obtain ⟨u2, m3, m4⟩ := w1_ok m2 hb
      rw [← m4] at hp hb
      refine by_ok (np_store _ _ _ _) hb fun v h' hv => ?_
      rw [hv] at hp
      exact wp_unit (s := Instr.storeAt t (a.eval x) (a.eval y)) (by simp [execOp]) (store_sound I (evX_sound hg hr h1 m1) (evX_sound hg hr h2 m3) hn hv) hp
    · cases hk
  case nilCheck x =>
    obtain ⟨y, h1, rfl⟩ := un1_some hk
    obtain ⟨u, h2, h3⟩ := w1_ok (r := exOp g D cf (.nilchk y) e h) rfl hb
    rw [← h3] at hp hb
    refine by_ok (np_nilchk _ _) hb fun v h' hv => ?_
    rw [hv] at hp
    have hrel := evX_sound hg hr h1 h2
    obtain ⟨rfl, rfl, ad, had⟩ := nilchk_sound I hrel hv
    exact wp_same I (s := pure (a.eval x)) (by simp [execOp, had]) ⟨rfl, _, rfl, hrel⟩ hp
  case binOp op t x y yt =>
    have gbin : ∀ {k : KOp}, bin2 (.bin op) x y = some k → exOp g D cf k e h ≠ .bad → OpPost W ρ ι h (fun v' w' => K (a.put dst v') w') (fun ch w' => Q (.panic ch) a w') (exOp g D cf k e h) →
        Oper.wp P ⟨dst, .binOp op t x y yt, type, pos, after, guard⟩ a w K Q := fun {k} hk hb hp => by
      obtain ⟨p, q, h1, h2, rfl⟩ := bin2_some hk
      obtain ⟨u1, m1, m2⟩ := w1_ok (r := exOp g D cf (.bin op p q) e h) rfl hb
      obtain ⟨u2, m3, m4⟩ := w1_ok m2 hb
      rw [← m4] at hp hb
      refine by_ok (np_bin _ _ _ _ _) hb fun v h' hv => ?_
      rw [hv] at hp
      exact wp_same I (s := do eqGuard op t x y (a.eval x) (a.eval y); binOp op t (a.eval x) (a.eval y)) (Sem.run_bind P w _ _) (bin_sound hD I t x y (evX_sound hg hr h1 m1) (evX_sound hg hr h2 m3) hv) hp
    have geql : ∀ {neg : Bool} {kk : Nat} {k : KOp}, op = opOf neg → eqlType P t x y kk → bin2 (.eql neg kk) x y = some k → exOp g D cf k e h ≠ .bad → OpPost W ρ ι h (fun v' w' => K (a.put dst v') w') (fun ch w' => Q (.panic ch) a w') (exOp g D cf k e h) →
        Oper.wp P ⟨dst, .binOp op t x y yt, type, pos, after, guard⟩ a w K Q := fun {neg kk k} ho ht hk hb hp => by
      rw [ho]
      obtain ⟨p, q, h1, h2, rfl⟩ := bin2_some hk
      obtain ⟨u1, m1, m2⟩ := w1_ok (r := exOp g D cf (.eql neg kk p q) e h) rfl hb
      obtain ⟨u2, m3, m4⟩ := w1_ok m2 hb
      rw [← m4] at hp hb
      refine by_ok (np_eql _ _ _ _ _) hb fun v h' hv => ?_
      rw [hv] at hp
      obtain ⟨q1, v', q2, q3, q4⟩ := eql_sound I ht (evX_sound hg hr h1 m1) (evX_sound hg hr h2 m3) hv
      exact wp_same I (s := do eqGuard (opOf neg) t x y (a.eval x) (a.eval y); binOp (opOf neg) t (a.eval x) (a.eval y)) (Sem.run_bind P w _ _) ⟨q1, v', by rw [Sem.run_bind, q2]; exact q3, q4⟩ hp
    have geqs : ∀ {neg : Bool} {ks : List Nat} {k : KOp}, op = opOf neg → plainEq P t = some ks → bin2 (.eqs neg ks) x y = some k → exOp g D cf k e h ≠ .bad → OpPost W ρ ι h (fun v' w' => K (a.put dst v') w') (fun ch w' => Q (.panic ch) a w') (exOp g D cf k e h) →
        Oper.wp P ⟨dst, .binOp op t x y yt, type, pos, after, guard⟩ a w K Q := fun {neg ks k} ho ht hk hb hp => by
      rw [ho]
      obtain ⟨p, q, h1, h2, rfl⟩ := bin2_some hk
      obtain ⟨u1, m1, m2⟩ := w1_ok (r := exOp g D cf (.eqs neg ks p q) e h) rfl hb
      obtain ⟨u2, m3, m4⟩ := w1_ok m2 hb
      rw [← m4] at hp hb
      refine by_ok (np_eqs _ _ _ _ _) hb fun v h' hv => ?_
      rw [hv] at hp
      obtain ⟨q1, v', q2, q3, q4⟩ := eqs_sound (xo := x) (yo := y) I ht (evX_sound hg hr h1 m1) (evX_sound hg hr h2 m3) hv
      exact wp_same I (s := do eqGuard (opOf neg) t x y (a.eval x) (a.eval y); binOp (opOf neg) t (a.eval x) (a.eval y)) (Sem.run_bind P w _ _) ⟨q1, v', by rw [Sem.run_bind, q2]; exact q3, q4⟩ hp
    have gall : ∀ {neg : Bool} {k : KOp}, op = opOf neg → (match P.underlying t with
        | some (.int _) => bin2 (.bin op) x y
        | some .string => bin2 (.bin op) x y
        | some .bool => bin2 (.eql neg 0) x y
        | some (.pointer _) => bin2 (.eql neg 1) x y
        | some (.slice _) => bin2 (.eql neg 2) x y
        | some (.map _ _) => bin2 (.eql neg 3) x y
        | some (.func _ _ _) => bin2 (.eql neg 4) x y
        | some (.interface _) => if isNilC x || isNilC y then bin2 (.eql neg 5) x y else none
        | some (.struct _) => match plainEq P t with
          | some n => bin2 (.eqs neg n) x y
          | none => none
        | _ => none) = some k → exOp g D cf k e h ≠ .bad → OpPost W ρ ι h (fun v' w' => K (a.put dst v') w') (fun ch w' => Q (.panic ch) a w') (exOp g D cf k e h) →
        Oper.wp P ⟨dst, .binOp op t x y yt, type, pos, after, guard⟩ a w K Q := fun {neg k} ho hk hb hp => by
      split at hk
      · exact gbin hk hb hp
      · exact gbin hk hb hp
      · rename_i hu; exact geql ho (by simp [eqlType, hu]) hk hb hp
      · rename_i hu; exact geql ho (by simp [eqlType, hu]) hk hb hp
      · rename_i hu; exact geql ho (by simp [eqlType, hu]) hk hb hp
      · rename_i hu; exact geql ho (by simp [eqlType, hu]) hk hb hp
      · rename_i hu; exact geql ho (by simp [eqlType, hu]) hk hb hp
      · rename_i hu
        split at hk
        · rename_i hn; exact geql ho (by simp only [eqlType, hu]; exact ⟨trivial, hn⟩) hk hb hp
        · cases hk
      · split at hk
        · rename_i hks; exact geqs ho hks hk hb hp
        · cases hk
      · cases hk
    cases op
    case eql => exact gall (neg := false) rfl hk hb hp
    case neq => exact gall (neg := true) rfl hk hb hp
    all_goals exact gbin hk hb hp
  case unOp op t x =>
    obtain ⟨y, h1, rfl⟩ := un1_some hk
    obtain ⟨u, h2, h3⟩ := w1_ok (r := exOp g D cf (.un op y) e h) rfl hb
    rw [← h3] at hp hb
    refine by_ok (np_un _ _ _) hb fun v h' hv => ?_
    rw [hv] at hp
    exact wp_same I (s := Op.unary op (a.eval x)) (by simp [execOp]) (un_sound I (evX_sound hg hr h1 h2) hv) hp
  case convert s t x =>
    split at hk
    · rename_i j k hs hd
      obtain ⟨y, h1, rfl⟩ := un1_some hk
      obtain ⟨u, h2, h3⟩ := w1_ok (r := exOp g D cf (.conv k y) e h) rfl hb
      rw [← h3] at hp hb
      refine by_ok (np_conv _ _ _) hb fun v h' hv => ?_
      rw [hv] at hp
      exact wp_same I (s := convert s t (a.eval x)) (Sem.run_bind P w _ _) (conv_sound I hs hd (evX_sound hg hr h1 h2) hv) hp
    · rename_i hs hd
      obtain ⟨y, h1, rfl⟩ := un1_some hk
      obtain ⟨u, h2, h3⟩ := w1_ok (r := exOp g D cf (.convStr y) e h) rfl hb
      rw [← h3] at hp hb
      refine by_ok (np_convStr _ _) hb fun v h' hv => ?_
      rw [hv] at hp
      exact wp_same I (s := convert s t (a.eval x)) (Sem.run_bind P w _ _) (convStrS_sound I hs hd (evX_sound hg hr h1 h2) hv) hp
    · rename_i el hs hd
      split at hk
      · rename_i he'
        rw [if_pos rfl] at hk
        obtain ⟨y, h1, rfl⟩ := un1_some hk
        obtain ⟨u, h2, h3⟩ := w1_ok (r := exOp g D cf (.convBytes y) e h) rfl hb
        rw [← h3] at hp hb
        refine by_ok (np_convBytes _ _) hb fun v h' hv => ?_
        rw [hv] at hp
        exact wp_did (s := convert s t (a.eval x)) (Sem.run_bind P w _ _) (convBytes_sound I hs hd he' (evX_sound hg hr h1 h2) hv) hp
      · cases hk
    · rename_i el hs hd
      split at hk
      · rename_i he'
        rw [if_pos rfl] at hk
        obtain ⟨y, h1, rfl⟩ := un1_some hk
        obtain ⟨u, h2, h3⟩ := w1_ok (r := exOp g D cf (.convBs y) e h) rfl hb
        rw [← h3] at hp hb
        refine by_ok (np_convBs _ _) hb fun v h' hv => ?_
        rw [hv] at hp
        exact wp_same I (s := convert s t (a.eval x)) (Sem.run_bind P w _ _) (convBs_sound I hs he' hd (evX_sound hg hr h1 h2) hv) hp
      · cases hk
    · cases hk
  case makeInterface t x =>
    split at hk
    · cases hk
    · rename_i d hni hu
      obtain ⟨y, h1, rfl⟩ := un1_some hk
      obtain ⟨u, h2, h3⟩ := w1_ok (r := exOp g D cf (.mkif t y) e h) rfl hb
      rw [← h3] at hp
      refine wp_same I (s := Instr.makeInterface t (a.eval x)) (Sem.run_bind P w _ _) ⟨rfl, .iface t (a.eval x), ?_, .iface _ _ _ (evX_sound hg hr h1 h2)⟩ hp
      simp only [Instr.makeInterface, Sem.run_bind, run_underlying hu, Result.andThen_ok]
      cases d <;> first | rfl | exact absurd rfl (hni _)
    · cases hk
  case makeFunc fn first captured =>
    cases fn <;> simp only [] at hk <;> (try (cases hk; done))
    rename_i f
    split at hk
    · rename_i ka kc h1 h2
      injection hk with hk; subst hk
      simp only [exOp] at hb hp
      split at hb
      · rename_i va vc m1 m2
        rw [m1, m2] at hp
        refine wp_same I (s := Instr.makeFunc (.func f) (first.map a.eval) (captured.map a.eval)) (Sem.run_bind P w _ _) ⟨rfl, _, rfl, .func _ _ _ _ _ ?_ ?_⟩ hp
        · rw [Array.toList_map]; exact evXs_sound hg hr h1 m1
        · rw [Array.toList_map]; exact evXs_sound hg hr h2 m2
      · exact absurd rfl hb
    · cases hk
  case makeMap t r =>
    cases r <;> simp only [] at hk <;> (try (cases hk; done))
    injection hk with hk; subst hk
    have hput := Inj.put_same ι h.next (w.heap.size, 0, 0)
    refine wp_did (s := Instr.makeMap t none) (by simp only [execOp, Option.map_none]; exact Sem.run_bind P w _ _) (v := .map h.next) (h' := newBlk (.mp []) h) ⟨_, _, .map (some w.heap.size), ?_, Ext.put _ _ rfl (I.dom_none (Nat.le_refl _)) rfl, I.newMp, .map _ _ _ _ hput⟩ hp
    simp [Instr.makeMap]
  case makeSlice t l c =>
    split at hk
    · rename_i el hu
      split at hk
      · rename_i s b z hs hb' hz
        split at hk
        · cases hk
        · rename_i hzs
          obtain ⟨p, q, h1, h2, rfl⟩ := bin2_some hk
          obtain ⟨u1, m1, m2⟩ := w1_ok (r := exOp g D cf (.mkslice s b z.cells p q) e h) rfl hb
          obtain ⟨u2, m3, m4⟩ := w1_ok m2 hb
          rw [← m4] at hp hb
          refine by_ok (np_mkslice _ _ _ _ _ _) hb fun v h' hv => ?_
          rw [hv] at hp
          obtain ⟨mk, cs, rfl, rfl, -, hmd⟩ := mkslice_made (w := w) hu hs hb' hz (by simpa using hzs) (evX_sound hg hr h1 m1) (evX_sound hg hr h2 m3) hv
          exact wp_did (s := Instr.makeSlice t (a.eval l) (a.eval c)) (Sem.run_bind P w _ _) (hmd.did I) hp
      · cases hk
    · cases hk
  case slice t x lo hi mx =>
    split at hk
    · rename_i x' lo' hi' mx' hx hlo hhi hmx
      split at hk
      · cases hk
      · rename_i hc4
        have h4' : mx' = none ∨ hi' ≠ none := by
          simp only [Bool.and_eq_true, not_and, Bool.not_eq_true] at hc4
          cases mx' with
          | none => exact .inl rfl
          | some m => right; have := hc4 rfl; cases hi' <;> simp_all
        have h4 : ∀ {q r}, evO g e mx' = some q → evO g e hi' = some r → q = none ∨ r ≠ none := fun {q r} m1 m2 => by
          rcases h4' with rfl | hne
          · injection m1 with m1; exact .inl m1.symm
          · cases hi' with
            | none => exact absurd rfl hne
            | some y =>
              right
              simp only [evO] at m2
              split at m2
              · injection m2 with m2; rw [← m2]; simp
              · cases m2
        have he : ∀ s : Sem Value, s = Instr.sliceAt t (a.eval x) (lo.map a.eval) (hi.map a.eval) (mx.map a.eval) →
            (execOp a.eval ⟨dst, .slice t x lo hi mx, type, pos, after, guard⟩).run P w = (s.run P w).andThen fun v w' => .ok (.value v) w' := fun s hs => by rw [hs]; exact Sem.run_bind P w _ _
        split at hk
        · rename_i hu
          split at hk
          · cases hk
          · rename_i hmn
            injection hk with hk; subst hk
            obtain ⟨ux, m1, m2⟩ := w1_ok (r := exOp g D cf (.slcs x' lo' hi') e h) rfl hb
            obtain ⟨ul, m3, m4⟩ := wO_ok m2 hb
            obtain ⟨uh, m5, m6⟩ := wO_ok m4 hb
            rw [← m6] at hp hb
            refine by_ok (np_slcs _ _ _ _) hb fun v h' hv => ?_
            rw [hv] at hp
            have hmx0 : mx = none := by
              cases mx with
              | none => rfl
              | some y =>
                simp only [kxo] at hmx
                cases hy : kx y <;> rw [hy] at hmx <;> simp_all
            subst hmx0
            exact wp_same I (he _ rfl) (slcs_sound I hu (evX_sound hg hr hx m1) (evO_sound hg hr hlo m3) (evO_sound hg hr hhi m5) hv) hp
        · rename_i el hu
          obtain ⟨s, hs, rfl⟩ := map_some hk
          obtain ⟨ux, m1, m2⟩ := w1_ok (r := exOp g D cf (.slc s x' lo' hi' mx') e h) rfl hb
          obtain ⟨ul, m3, m4⟩ := wO_ok m2 hb
          obtain ⟨uh, m5, m6⟩ := wO_ok m4 hb
          obtain ⟨um, m7, m8⟩ := wO_ok m6 hb
          rw [← m8] at hp hb
          refine by_ok (np_slc _ _ _ _ _ _) hb fun v h' hv => ?_
          rw [hv] at hp
          exact wp_same I (he _ rfl) (slc_sound I hu hs (evX_sound hg hr hx m1) (evO_sound hg hr hlo m3) (evO_sound hg hr hhi m5) (evO_sound hg hr hmx m7) (h4 m7 m5) hv) hp
        · rename_i n el hu
          obtain ⟨s, hs, rfl⟩ := map_some hk
          obtain ⟨ux, m1, m2⟩ := w1_ok (r := exOp g D cf (.slca n s x' lo' hi' mx') e h) rfl hb
          obtain ⟨ul, m3, m4⟩ := wO_ok m2 hb
          obtain ⟨uh, m5, m6⟩ := wO_ok m4 hb
          obtain ⟨um, m7, m8⟩ := wO_ok m6 hb
          rw [← m8] at hp hb
          refine by_ok (np_slca _ _ _ _ _ _ _) hb fun v h' hv => ?_
          rw [hv] at hp
          exact wp_same I (he _ rfl) (slca_sound I hs (.inl hu) (evX_sound hg hr hx m1) (evO_sound hg hr hlo m3) (evO_sound hg hr hhi m5) (evO_sound hg hr hmx m7) (h4 m7 m5) hv) hp
        · rename_i ar hu
          split at hk
          · rename_i n el hu2
            obtain ⟨s, hs, rfl⟩ := map_some hk
            obtain ⟨ux, m1, m2⟩ := w1_ok (r := exOp g D cf (.slca n s x' lo' hi' mx') e h) rfl hb
            obtain ⟨ul, m3, m4⟩ := wO_ok m2 hb
            obtain ⟨uh, m5, m6⟩ := wO_ok m4 hb
            obtain ⟨um, m7, m8⟩ := wO_ok m6 hb
            rw [← m8] at hp hb
            refine by_ok (np_slca _ _ _ _ _ _ _) hb fun v h' hv => ?_
            rw [hv] at hp
            exact wp_same I (he _ rfl) (slca_sound I hs (.inr ⟨ar, hu, hu2⟩) (evX_sound hg hr hx m1) (evO_sound hg hr hlo m3) (evO_sound hg hr hhi m5) (evO_sound hg hr hmx m7) (h4 m7 m5) hv) hp
          · cases hk
        · cases hk
    · cases hk
  case fieldAddr t x i =>
    split at hk
    · rename_i fs hu
      split at hk
      · rename_i f hf
        split at hk
        · cases hk
        · rename_i n hn0 hn
          obtain ⟨y, h1, rfl⟩ := un1_some hk
          obtain ⟨u, h2, h3⟩ := w1_ok (r := exOp g D cf (.fadr f.offset y) e h) rfl hb
          rw [← h3] at hp hb
          refine by_ok (np_fadr _ _ _) hb fun v h' hv => ?_
          rw [hv] at hp
          obtain ⟨m, rfl⟩ : ∃ m, n = m + 1 := ⟨n - 1, by rcases Nat.eq_zero_or_pos n with h0 | h0; exact absurd (h0 ▸ hn) (by intro q; exact hn0 h0); omega⟩
          exact wp_same I (s := Instr.fieldAt t (a.eval x) i) (Sem.run_bind P w _ _) (fadr_sound I hu hf hn (evX_sound hg hr h1 h2) hv) hp
        · cases hk
      · cases hk
    · cases hk
  case field t x i =>
    split at hk
    · rename_i fs hu
      split at hk
      · rename_i f hf
        split at hk
        · rename_i n ha hn
          obtain ⟨y, h1, rfl⟩ := un1_some hk
          obtain ⟨u, h2, h3⟩ := w1_ok (r := exOp g D cf (.fldn f.offset n y) e h) rfl hb
          rw [← h3] at hp hb
          refine by_ok (np_fldn _ _ _ _) hb fun v h' hv => ?_
          rw [hv] at hp
          exact wp_same I (s := Instr.field t (a.eval x) i) (Sem.run_bind P w _ _) (fldn_sound I hu hf ha hn (evX_sound hg hr h1 h2) hv) hp
        · rename_i ha
          obtain ⟨y, h1, rfl⟩ := un1_some hk
          obtain ⟨u, h2, h3⟩ := w1_ok (r := exOp g D cf (.fld1 f.offset y) e h) rfl hb
          rw [← h3] at hp hb
          refine by_ok (np_fld1 _ _ _) hb fun v h' hv => ?_
          rw [hv] at hp
          exact wp_same I (s := Instr.field t (a.eval x) i) (Sem.run_bind P w _ _) (fld1_sound I hu hf ha (evX_sound hg hr h1 h2) hv) hp
        · cases hk
      · cases hk
    · cases hk
  case indexAddr t x i =>
    split at hk
    · rename_i el hu
      split at hk
      · rename_i s hs
        obtain ⟨p, q, h1, h2, rfl⟩ := bin2_some hk
        obtain ⟨u1, m1, m2⟩ := w1_ok (r := exOp g D cf (.idxa s p q) e h) rfl hb
        obtain ⟨u2, m3, m4⟩ := w1_ok m2 hb
        rw [← m4] at hp hb
        refine by_ok (np_idxa _ _ _ _) hb fun v h' hv => ?_
        rw [hv] at hp
        exact wp_same I (s := Instr.indexAt t (a.eval x) (a.eval i)) (Sem.run_bind P w _ _) (idxa_sound I hu hs (evX_sound hg hr h1 m1) (evX_sound hg hr h2 m3) hv) hp
      · cases hk
    · rename_i n el hu
      split at hk
      · rename_i s hs
        obtain ⟨p, q, h1, h2, rfl⟩ := bin2_some hk
        obtain ⟨u1, m1, m2⟩ := w1_ok (r := exOp g D cf (.idxaa n s p q) e h) rfl hb
        obtain ⟨u2, m3, m4⟩ := w1_ok m2 hb
        rw [← m4] at hp hb
        refine by_ok (np_idxaa _ _ _ _ _) hb fun v h' hv => ?_
        rw [hv] at hp
        exact wp_same I (s := Instr.indexAt t (a.eval x) (a.eval i)) (Sem.run_bind P w _ _) (idxaa_sound I hu hs (evX_sound hg hr h1 m1) (evX_sound hg hr h2 m3) hv) hp
      · cases hk
    · cases hk
  case index t x i =>
    split at hk
    · rename_i hu
      obtain ⟨p, q, h1, h2, rfl⟩ := bin2_some hk
      obtain ⟨u1, m1, m2⟩ := w1_ok (r := exOp g D cf (.idxs p q) e h) rfl hb
      obtain ⟨u2, m3, m4⟩ := w1_ok m2 hb
      rw [← m4] at hp hb
      refine by_ok (np_idxs _ _ _) hb fun v h' hv => ?_
      rw [hv] at hp
      exact wp_same I (s := Instr.index t (a.eval x) (a.eval i)) (Sem.run_bind P w _ _) (idxs_sound I hu (evX_sound hg hr h1 m1) (evX_sound hg hr h2 m3) hv) hp
    · cases hk
  case lookup t x i ok =>
    split at hk
    · rename_i kt el hu
      split at hk
      · rename_i kk z hkk hz
        obtain ⟨p, q, h1, h2, rfl⟩ := bin2_some hk
        obtain ⟨u1, m1, m2⟩ := w1_ok (r := exOp g D cf (.look kk z ok p q) e h) rfl hb
        obtain ⟨u2, m3, m4⟩ := w1_ok m2 hb
        rw [← m4] at hp hb
        refine by_ok (np_look _ _ _ _ _ _) hb fun v h' hv => ?_
        rw [hv] at hp
        exact wp_same I (s := Instr.lookup t (a.eval x) (a.eval i) ok) (Sem.run_bind P w _ _) (look_sound I hu hkk hz (evX_sound hg hr h1 m1) (evX_sound hg hr h2 m3) hv) hp
      · cases hk
    · cases hk
  case mapUpdate t m k0 v0 =>
    split at hk
    · rename_i kt el hu
      split at hk
      · rename_i kk p q r hkk h1 h2 h3
        injection hk with hk; subst hk
        obtain ⟨u1, m1, m2⟩ := w1_ok (r := exOp g D cf (.mupd kk p q r) e h) rfl hb
        obtain ⟨u2, m3, m4⟩ := w1_ok m2 hb
        obtain ⟨u3, m5, m6⟩ := w1_ok m4 hb
        rw [← m6] at hp hb
        refine by_ok (np_mupd _ _ _ _ _) hb fun v h' hv => ?_
        rw [hv] at hp
        exact wp_unit (s := Instr.mapUpdate t (a.eval m) (a.eval k0) (a.eval v0)) (by simp [execOp]) (mupd_sound I hu hkk (evX_sound hg hr h1 m1) (evX_sound hg hr h2 m3) (evX_sound hg hr h3 m5) hv) hp
      · cases hk
    · cases hk
  case insert t m k0 v0 =>
    split at hk
    · rename_i kt el hu
      split at hk
      · rename_i kk p q r hkk h1 h2 h3
        injection hk with hk; subst hk
        obtain ⟨u1, m1, m2⟩ := w1_ok (r := exOp g D cf (.mupd kk p q r) e h) rfl hb
        obtain ⟨u2, m3, m4⟩ := w1_ok m2 hb
        obtain ⟨u3, m5, m6⟩ := w1_ok m4 hb
        rw [← m6] at hp hb
        refine by_ok (np_mupd _ _ _ _ _) hb fun v h' hv => ?_
        rw [hv] at hp
        exact wp_unit (s := Instr.mapUpdate t (a.eval m) (a.eval k0) (a.eval v0)) (by simp [execOp]) (mupd_sound I hu hkk (evX_sound hg hr h1 m1) (evX_sound hg hr h2 m3) (evX_sound hg hr h3 m5) hv) hp
      · cases hk
    · cases hk
  case extract t i =>
    obtain ⟨y, h1, rfl⟩ := un1_some hk
    obtain ⟨u, h2, h3⟩ := w1_ok (r := exOp g D cf (.ext y i) e h) rfl hb
    rw [← h3] at hp hb
    refine by_ok (np_ext _ _ _) hb fun v h' hv => ?_
    rw [hv] at hp
    exact wp_same I (s := Instr.extract (a.eval t) i) (Sem.run_bind P w _ _) (ext_sound I (evX_sound hg hr h1 h2) hv) hp
  case panic x =>
    obtain ⟨y, h1, rfl⟩ := un1_some hk
    obtain ⟨u, h2, h3⟩ := w1_ok (r := exOp g D cf (.panic y) e h) rfl hb
    have hrel := evX_sound hg hr h1 h2
    split at h3
    · rename_i t v
      rw [← h3] at hp
      generalize hq : a.eval x = q at hrel
      cases hrel with | iface _ _ v' hv =>
      have hrun : (execOp a.eval ⟨dst, .panic x, type, pos, after, guard⟩).run P w = .halt (.panic (.iface t v')) w := by
        simp [execOp, hq, Instr.panic]
      unfold Oper.wp
      rw [hrun]
      exact hp ι w _ (.here rfl) I (.iface _ _ _ hv)
    · exact absurd h3.symm hb
  case call c =>
    obtain ⟨callee, args, ats⟩ := c
    cases callee with
    | invoke r m => cases hk
    | value f =>
      cases f with
      | const v => cases hk
      | global n => cases hk
      | func f =>
        simp only [] at hk
        split at hk
        · obtain ⟨ks, h1, rfl⟩ := map_some hk
          simp only [exOp] at hb hp
          split at hb
          · rename_i vs hvs
            rw [hvs] at hp; dsimp only at hp
            have hrel := evXs_sound hg hr h1 hvs
            refine wp_call I hc hrel hb (fun hf => ?_) hp
            have := callFunc_enter (w := w) hf (args.map a.eval)
            have he : (args.toList.map a.eval).toArray = args.map a.eval := by apply Array.toList_inj.1; simp
            rw [he]
            simp [execOp, resolve, Deferred.ofValue, Act.eval, invoke, this]
          · exact absurd rfl hb
        · cases hk
      | tmp n =>
        obtain ⟨ks, h1, rfl⟩ := map_some hk
        obtain ⟨u, h2, h3⟩ := w1_ok (r := exOp g D cf (.callv (.t n) ks) e h) rfl hb
        have hfr : Rel W ρ ι u (a.eval (.tmp n)) := evX_sound hg hr (x := .tmp n) rfl h2
        split at h3
        · rename_i f fi ca
          split at h3
          · rename_i vs hvs
            rw [← h3] at hp hb
            generalize hq : a.eval (.tmp n) = q at hfr
            cases hfr with | func _ _ _ fi' ca' hfi hca =>
            have hrel := evXs_sound hg hr h1 hvs
            rw [app_eq, app_eq] at hp hb
            refine wp_call I hc (hfi.append (hrel.append hca)) hb (fun hf => ?_) hp
            have he : (fi'.toList ++ (args.toList.map a.eval ++ ca'.toList)).toArray = fi' ++ args.map a.eval ++ ca' := by apply Array.toList_inj.1; simp
            have := callFunc_enter (w := w) hf (fi' ++ args.map a.eval ++ ca')
            rw [he]
            simp only [execOp, resolve, hq, Deferred.ofValue, Sem.run_bind, Sem.run_pure, Result.andThen_ok, invoke]
            exact this
          · exact absurd h3.symm hb
        · exact absurd h3.symm hb
    | builtin b =>
      have hx2 : ∀ {x y : Operand}, args.toList = [x, y] → args = #[x, y] := fun h0 => Array.toList_inj.1 h0
      have hx1 : ∀ {x : Operand}, args.toList = [x] → args = #[x] := fun h0 => Array.toList_inj.1 h0
      have ht2 : ∀ {x y : TypeId}, ats.toList = [x, y] → ats = #[x, y] := fun h0 => Array.toList_inj.1 h0
      have ht1 : ∀ {x : TypeId}, ats.toList = [x] → ats = #[x] := fun h0 => Array.toList_inj.1 h0
      simp only [] at hk
      unfold kbuiltin at hk
      split at hk
      · -- len
        rename_i t x hts hxs
        have hts := ht1 hts; have hxs := hx1 hxs; subst hts hxs
        have he : (execOp a.eval ⟨dst, .call ⟨.builtin .len, #[x], #[t]⟩, type, pos, after, guard⟩).run P w = ((Builtin.len_ #[t] type #[a.eval x]).run P w).andThen fun v w' => .ok (.value v) w' := by
          simp [execOp, resolve, invoke, builtin]
        have go : ∀ {kk : Nat} {k : KOp}, un1 (.len kk) x = some k → ((P.underlying t = some .string ∧ kk = 7) ∨ (∃ q, P.underlying t = some (.slice q) ∧ kk = 2) ∨ (∃ a b, P.underlying t = some (.map a b) ∧ kk = 3)) → exOp g D cf k e h ≠ .bad →
            OpPost W ρ ι h (fun v' w' => K (a.put dst v') w') (fun ch w' => Q (.panic ch) a w') (exOp g D cf k e h) → Oper.wp P ⟨dst, .call ⟨.builtin .len, #[x], #[t]⟩, type, pos, after, guard⟩ a w K Q := fun {kk k} hk ht hb hp => by
          obtain ⟨y, h1, rfl⟩ := un1_some hk
          obtain ⟨u, h2, h3⟩ := w1_ok (r := exOp g D cf (.len kk y) e h) rfl hb
          rw [← h3] at hp hb
          refine by_ok (np_len _ _ _) hb fun v h' hv => ?_
          rw [hv] at hp
          exact wp_same I he (len_sound I ht (evX_sound hg hr h1 h2) hv) hp
        split at hk
        · rename_i hu; exact go hk (.inl ⟨hu, rfl⟩) hb hp
        · rename_i q hu; exact go hk (.inr (.inl ⟨q, hu, rfl⟩)) hb hp
        · rename_i q r hu; exact go hk (.inr (.inr ⟨q, r, hu, rfl⟩)) hb hp
        · rename_i n el hu
          injection hk with hk; subst hk
          exact wp_same I he ⟨rfl, .int .i64 n, by simp [Builtin.len_, run_underlying hu, goInt], .int _ _⟩ hp
        · cases hk
      · rename_i x y hxs
        have hxs := hx2 hxs; subst hxs
        obtain ⟨p, q, h1, h2, rfl⟩ := bin2_some hk
        obtain ⟨u1, m1, m2⟩ := w1_ok (r := exOp g D cf (.min p q) e h) rfl hb
        obtain ⟨u2, m3, m4⟩ := w1_ok m2 hb
        rw [← m4] at hp hb
        refine by_ok (np_min _ _ _) hb fun v h' hv => ?_
        rw [hv] at hp
        exact wp_same I (s := Builtin.min_ ats type #[a.eval x, a.eval y]) (by simp [execOp, resolve, invoke, builtin]) (min_sound I (evX_sound hg hr h1 m1) (evX_sound hg hr h2 m3) hv) hp
      · rename_i x y hxs
        have hxs := hx2 hxs; subst hxs
        obtain ⟨p, q, h1, h2, rfl⟩ := bin2_some hk
        obtain ⟨u1, m1, m2⟩ := w1_ok (r := exOp g D cf (.max p q) e h) rfl hb
        obtain ⟨u2, m3, m4⟩ := w1_ok m2 hb
        rw [← m4] at hp hb
        refine by_ok (np_max _ _ _) hb fun v h' hv => ?_
        rw [hv] at hp
        exact wp_same I (s := Builtin.max_ ats type #[a.eval x, a.eval y]) (by simp [execOp, resolve, invoke, builtin]) (max_sound I (evX_sound hg hr h1 m1) (evX_sound hg hr h2 m3) hv) hp
      · rename_i t u x y hts hxs
        have hts := ht2 hts; have hxs := hx2 hxs; subst hts hxs
        have he : (execOp a.eval ⟨dst, .call ⟨.builtin .append, #[x, y], #[t, u]⟩, type, pos, after, guard⟩).run P w = ((Builtin.append_ #[t, u] type #[a.eval x, a.eval y]).run P w).andThen fun v w' => .ok (.value v) w' := by
          simp [execOp, resolve, invoke, builtin]
        have go : ∀ {el : TypeId} {k : KOp}, P.underlying t = some (.slice el) → (P.underlying u = some .string ∨ ∃ q, P.underlying u = some (.slice q)) → (match sizeC P el, bytesC P el, zeroOf P el with
            | some s, some b, some z => if z.cells.length != s then none else bin2 (.apnd s b) x y
            | _, _, _ => none) = some k → exOp g D cf k e h ≠ .bad →
            OpPost W ρ ι h (fun v' w' => K (a.put dst v') w') (fun ch w' => Q (.panic ch) a w') (exOp g D cf k e h) → Oper.wp P ⟨dst, .call ⟨.builtin .append, #[x, y], #[t, u]⟩, type, pos, after, guard⟩ a w K Q := fun {el k} ht hu hk hb hp => by
          split at hk
          · rename_i s b z hs hb' hz
            split at hk
            · cases hk
            · rename_i hzs
              obtain ⟨p, q, h1, h2, rfl⟩ := bin2_some hk
              obtain ⟨u1, m1, m2⟩ := w1_ok (r := exOp g D cf (.apnd s b p q) e h) rfl hb
              obtain ⟨u2, m3, m4⟩ := w1_ok m2 hb
              rw [← m4] at hp hb
              refine by_ok (np_apnd _ _ _ _ _) hb fun v h' hv => ?_
              rw [hv] at hp
              exact wp_did he (apnd_sound I ht hu hs hb' hz (by simpa using hzs) (evX_sound hg hr h1 m1) (evX_sound hg hr h2 m3) hv) hp
          · cases hk
        split at hk
        · rename_i el q ht hu; exact go ht (.inr ⟨q, hu⟩) hk hb hp
        · rename_i el ht hu; exact go ht (.inl hu) hk hb hp
        · rename_i el k2 ht hu
          split at hk
          · rename_i s b z hs hb' hz
            split at hk
            · cases hk
            · rename_i hzs
              obtain ⟨p, q, h1, h2, rfl⟩ := bin2_some hk
              obtain ⟨u1, m1, m2⟩ := w1_ok (r := exOp g D cf (.apndz s b z.cells p q) e h) rfl hb
              obtain ⟨u2, m3, m4⟩ := w1_ok m2 hb
              rw [← m4] at hp hb
              refine by_ok (np_apndz _ _ _ _ _ _) hb fun v h' hv => ?_
              rw [hv] at hp
              exact wp_did he (apndz_sound I ht hu hs hb' hz (by simpa using hzs) (evX_sound hg hr h1 m1) (evX_sound hg hr h2 m3) hv) hp
          · cases hk
        · cases hk
      · rename_i t u x y hts hxs
        have hts := ht2 hts; have hxs := hx2 hxs; subst hts hxs
        split at hk
        · rename_i el ht
          split at hk
          · rename_i s hs
            obtain ⟨p, q, h1, h2, rfl⟩ := bin2_some hk
            obtain ⟨u1, m1, m2⟩ := w1_ok (r := exOp g D cf (.copy s p q) e h) rfl hb
            obtain ⟨u2, m3, m4⟩ := w1_ok m2 hb
            rw [← m4] at hp hb
            refine by_ok (np_copy _ _ _ _) hb fun v h' hv => ?_
            rw [hv] at hp
            exact wp_did (s := Builtin.copy_ #[t, u] type #[a.eval x, a.eval y]) (by simp [execOp, resolve, invoke, builtin]) (copy_sound I ht hs (evX_sound hg hr h1 m1) (evX_sound hg hr h2 m3) hv) hp
          · cases hk
        · cases hk
      · rename_i t u x y hts hxs
        have hts := ht2 hts; have hxs := hx2 hxs; subst hts hxs
        split at hk
        · rename_i kt el ht
          split at hk
          · rename_i kk hkk
            obtain ⟨p, q, h1, h2, rfl⟩ := bin2_some hk
            obtain ⟨u1, m1, m2⟩ := w1_ok (r := exOp g D cf (.mdel kk p q) e h) rfl hb
            obtain ⟨u2, m3, m4⟩ := w1_ok m2 hb
            rw [← m4] at hp hb
            refine by_ok (np_mdel _ _ _ _) hb fun v h' hv => ?_
            rw [hv] at hp
            exact wp_did (s := Builtin.delete_ #[t, u] type #[a.eval x, a.eval y]) (by simp [execOp, resolve, invoke, builtin]) (mdel_sound I ht hkk (evX_sound hg hr h1 m1) (evX_sound hg hr h2 m3) hv) hp
          · cases hk
        · cases hk
      · cases hk
  all_goals (cases hk)
end
end Go.KM
