/-
  Operations of the small machine and the model's, IV: '==' of values that are no numbers and no texts.
-/
import Derived.Test.YtffpkcmcoppbmaaGreatDoorKOpsC
import Derived.Laws.StructEq
namespace Go.KM
open Go.RowKit
section
variable {P : Program} {W : World} {ρ : Nat → Int} {ι : Inj} {h h' : AH} {w : World}

/-- Whatever is held against what, by '==', by '!='. -/
def opOf (neg : Bool) : BinOp := if neg then .neq else .eql
/-- The types whose values are held against each other by xeq, by their kinds. -/
def eqlType (P : Program) (t : TypeId) (xo yo : Operand) (k : Nat) : Prop := match P.underlying t with
  | some .bool => k = 0
  | some (.pointer _) => k = 1
  | some (.slice _) => k = 2
  | some (.map _ _) => k = 3
  | some (.func _ _ _) => k = 4
  | some (.interface _) => k = 5 ∧ (isNilC xo || isNilC yo) = true
  | _ => False
theorem ifK_some {a b : Nat} {r c : Bool} (e : ifK a b r = some c) : a = b ∧ r = c := by
  unfold ifK at e
  cases hb : Nat.beq a b with
  | false => rw [hb] at e; cases e
  | true => rw [hb] at e; exact ⟨beq_iff.1 hb, Option.some.inj e⟩
theorem type_of {t : TypeId} {xo yo : Operand} {k : Nat} (ht : eqlType P t xo yo k) :
    (k = 0 → P.underlying t = some .bool) ∧ (k = 1 → ∃ e, P.underlying t = some (.pointer e)) ∧ (k = 2 → ∃ e, P.underlying t = some (.slice e)) ∧ (k = 3 → ∃ a b, P.underlying t = some (.map a b)) ∧
    (k = 4 → ∃ a b c, P.underlying t = some (.func a b c)) ∧ (k = 5 → (∃ m, P.underlying t = some (.interface m)) ∧ (isNilC xo || isNilC yo) = true) := by
  unfold eqlType at ht
  split at ht
  · rename_i hu; subst ht; simp [hu]
  · rename_i e hu; subst ht; simp [hu]
  · rename_i e hu; subst ht; simp [hu]
  · rename_i a b hu; subst ht; simp [hu]
  · rename_i a b c hu; subst ht; simp [hu]
  · rename_i m hu; obtain ⟨rfl, h2⟩ := ht; simp only [hu]; simp [h2]
  · exact ht.elim
theorem isNilC_const {x : Operand} (hx : isNilC x = true) : ∃ v, x = .const v := by
  unfold isNilC at hx
  split at hx
  · exact ⟨_, rfl⟩
  · cases hx
theorem guard_nil {op : BinOp} {t : TypeId} {xo yo : Operand} (hc : (isNilC xo || isNilC yo) = true) : (eqGuard op t xo yo .nilIface .nilIface).run P w = .ok () w := by
  rw [Bool.or_eq_true] at hc
  rcases hc with hc | hc
  · obtain ⟨v, rfl⟩ := isNilC_const hc; cases op <;> simp [eqGuard]
  · obtain ⟨v, rfl⟩ := isNilC_const hc; cases op <;> simp [eqGuard]
/-- The guard of a comparison says nothing here. -/
theorem guard_quiet {op : BinOp} {t : TypeId} {xo yo : Operand} {x' y' : Value} (h1 : ¬ (x' = .nilIface ∧ y' = .nilIface)) (h2 : ∀ q, x' ≠ .agg q) : (eqGuard op t xo yo x' y').run P w = .ok () w := by
  have hz : ∀ s : Sem Unit, s = pure () → s.run P w = .ok () w := fun s hs => by rw [hs]; rfl
  apply hz
  unfold eqGuard
  cases op <;> first | rfl | skip
  all_goals
    simp only [Bool.not_true, Bool.false_eq_true, if_false]
    split
    · exact absurd ⟨rfl, rfl⟩ h1
    · exact absurd rfl (h2 _)
    · rfl
theorem equal_step (t : TypeId) (x y : Value) : Op.equal t x y = Op.equalIn (9999 + 1) t x y := rfl
theorem eql_of_equal {neg : Bool} {t : TypeId} {x' y' : Value} {c : Bool} (he : (Op.equal t x' y').run P w = .ok c w)
    (hb : binOp .eql t x' y' = (do pure (.bool (← Op.equal t x' y')) : Sem Value)) (hn : binOp .neq t x' y' = (do pure (.bool (!(← Op.equal t x' y'))) : Sem Value)) :
    (binOp (opOf neg) t x' y').run P w = .ok (.bool (if neg then !c else c)) w := by
  cases neg
  · simp [opOf, hb, he]
  · simp [opOf, hn, he]
set_option maxHeartbeats 4000000 in
theorem eql_sound (I : Inv W ρ ι h w) {neg : Bool} {k : Nat} {x y : AV} {x' y' : Value} {v : AV} {t : TypeId} {xo yo : Operand} (ht : eqlType P t xo yo k) (hx : Rel W ρ ι x x') (hy : Rel W ρ ι y y')
    (e : xeql neg k x y h = .ok v h') :
    h' = h ∧ ∃ v', (eqGuard (opOf neg) t xo yo x' y').run P w = .ok () w ∧ (binOp (opOf neg) t x' y').run P w = .ok v' w ∧ Rel W ρ ι v v' := by
  unfold xeql at e
  cases hc : xeq k x y with
  | none => rw [hc] at e; cases e
  | some c =>
    rw [hc] at e
    dsimp only at e
    rw [mkBool_eq] at e; injection e with e1 e2; subst e1 e2
    refine ⟨rfl, .bool (if neg then !c else c), ?_⟩
    obtain ⟨t0, t1, t2, t3, t4, t5⟩ := type_of ht
    have fin : ∀ (g : (eqGuard (opOf neg) t xo yo x' y').run P w = .ok () w) (he : (Op.equal t x' y').run P w = .ok c w) (hb : binOp .eql t x' y' = (do pure (.bool (← Op.equal t x' y')) : Sem Value))
        (hn : binOp .neq t x' y' = (do pure (.bool (!(← Op.equal t x' y'))) : Sem Value)),
        (eqGuard (opOf neg) t xo yo x' y').run P w = .ok () w ∧ (binOp (opOf neg) t x' y').run P w = .ok (.bool (if neg then !c else c)) w ∧
          Rel W ρ ι (.bool (Bool.rec (motive := fun _ => Bool) c (Bool.not c) neg)) (.bool (if neg then !c else c)) := fun g he hb hn =>
      ⟨g, eql_of_equal he hb hn, by cases neg <;> exact .bool _⟩
    unfold xeq at hc
    have peel : ∀ {a b : Nat} {r : Bool}, ifK a b r = some c → a = b ∧ r = c := ifK_some
    split at hc <;> (try (cases hc; done)) <;> obtain ⟨hk, hr⟩ := peel hc <;> clear hc peel <;> subst hr <;> cases hx <;> cases hy <;> refine fin ?_ ?_ rfl rfl
    all_goals first
      | (exact guard_nil (t5 hk).2)
      | (exact guard_quiet (by simp) (by simp))
      | skip
    all_goals rw [equal_step]; generalize (9999 : Nat) = d
    all_goals first
      | (have hu := t0 hk; simp only [Op.equalIn, Sem.run_bind, run_underlying hu, Result.andThen_ok, Sem.run_pure]; congr 1; rename_i a b; cases a <;> cases b <;> rfl)
      | (have q := t1 hk; obtain ⟨q, hu⟩ := q; simp [Op.equalIn, run_underlying hu])
      | (have q := t2 hk; obtain ⟨q, hu⟩ := q; simp [Op.equalIn, run_underlying hu])
      | (have q := t3 hk; obtain ⟨q, r, hu⟩ := q; simp [Op.equalIn, run_underlying hu])
      | (have q := t4 hk; obtain ⟨q, r, s, hu⟩ := q; simp [Op.equalIn, run_underlying hu])
      | (have q := t5 hk; obtain ⟨⟨q, hu⟩, -⟩ := q; simp [Op.equalIn, run_underlying hu])
      | skip
theorem eqCellK_sound {k : Nat} {x y : AV} {x' y' : Value} {c : Bool} {t : TypeId} (d : Nat) (hx : Rel W ρ ι x x') (hy : Rel W ρ ι y y') (e : eqCellK k x y = some c)
    (hk : (∃ j, P.underlying t = some (.int j)) ∧ k = 6 ∨ P.underlying t = some .bool ∧ k = 0 ∨ P.underlying t = some .string ∧ k = 7) : (Op.equalIn (d + 1) t x' y').run P w = .ok c w := by
  unfold eqCellK at e
  split at e
  · rename_i j a l b
    cases hx; cases hy
    cases hb : beqK j l with
    | false => rw [hb] at e; cases e
    | true =>
      rw [hb] at e
      obtain ⟨rfl, rfl⟩ := ifK_some e
      have := beqK_iff.1 hb; subst this
      rcases hk with ⟨⟨q, hu⟩, -⟩ | ⟨-, hh⟩ | ⟨-, hh⟩
      · rw [eqI_eq]; exact run_equalIn_int w d t _ q a b hu
      · cases hh
      · cases hh
  · cases hx; cases hy
    obtain ⟨rfl, rfl⟩ := ifK_some e
    rcases hk with ⟨-, hh⟩ | ⟨-, hh⟩ | ⟨hu, -⟩
    · cases hh
    · cases hh
    · rw [eqNs_eq, bytesOf_beq]; exact run_equalIn_string w d t _ _ hu
  · rename_i a b
    cases hx; cases hy
    obtain ⟨rfl, rfl⟩ := ifK_some e
    rcases hk with ⟨-, hh⟩ | ⟨hu, -⟩ | ⟨-, hh⟩
    · cases hh
    · rw [run_equalIn_bool' w d t a b hu]; cases a <;> cases b <;> rfl
    · cases hh
  · cases e
theorem plainFields_cons {f : Field} {l : List Field} {i : Nat} {ks : List Nat} (e : plainFields P (f :: l) i = some ks) :
    ∃ k r, ks = k :: r ∧ f.name ≠ "_" ∧ f.offset = i ∧ aggC P f.type = some false ∧ plainFields P l (i + 1) = some r ∧
      ((∃ j, P.underlying f.type = some (.int j)) ∧ k = 6 ∨ P.underlying f.type = some .bool ∧ k = 0 ∨ P.underlying f.type = some .string ∧ k = 7) := by
  simp only [plainFields] at e
  split at e
  · rename_i hc
    simp only [Bool.and_eq_true, bne_iff_ne, beq_iff_eq] at hc
    split at e
    · rename_i j r hu hr; injection e with e; exact ⟨6, r, e.symm, hc.1, hc.2, by simp [aggC, hu], hr, .inl ⟨⟨j, hu⟩, rfl⟩⟩
    · rename_i r hu hr; injection e with e; exact ⟨0, r, e.symm, hc.1, hc.2, by simp [aggC, hu], hr, .inr (.inl ⟨hu, rfl⟩)⟩
    · rename_i r hu hr; injection e with e; exact ⟨7, r, e.symm, hc.1, hc.2, by simp [aggC, hu], hr, .inr (.inr ⟨hu, rfl⟩)⟩
    · cases e
  · cases e
/-- Cell by cell is field by field. -/
theorem eqFields_sound (d : Nat) (xs ys : Array Value) : ∀ (fs : List Field) (i : Nat) (ks : List Nat) (a b : List AV) (c : Bool), plainFields P fs i = some ks →
    RelL W ρ ι a (xs.toList.drop i) → RelL W ρ ι b (ys.toList.drop i) → eqCellsK ks a b = some c → (Op.eqFields (d + 1) xs ys fs).run P w = .ok c w
  | [], i, ks, a, b, c, hp, ha, hb, e => by
    simp only [plainFields] at hp
    injection hp with hp; subst hp
    cases a with
    | nil => cases b with
      | nil => replace e : some true = some c := e; injection e with e; subst e; rfl
      | cons v y => cases e
    | cons u x => cases e
  | f :: l, i, ks, a, b, c, hp, ha, hb, e => by
    obtain ⟨k, r, rfl, h1, h2, h3, h4, h5⟩ := plainFields_cons hp
    cases a with
    | nil => cases e
    | cons u x => cases b with
    | nil => cases e
    | cons v y =>
      replace e : (match eqCellK k u v with
        | some true => eqCellsK r x y
        | some false => some false
        | none => none) = some c := e
      have hx : ∃ u' , xs[i]? = some u' ∧ Rel W ρ ι u u' ∧ RelL W ρ ι x (xs.toList.drop (i + 1)) := by
        generalize hq : xs.toList.drop i = q at ha
        cases ha with
        | cons _ u' _ l' hu hl =>
          refine ⟨u', ?_, hu, ?_⟩
          · have : (xs.toList.drop i)[0]? = some u' := by rw [hq]; rfl
            rw [List.getElem?_drop] at this; simpa using this
          · have : xs.toList.drop (i + 1) = l' := by rw [← List.drop_drop, hq]; rfl
            rw [this]; exact hl
      have hy : ∃ v', ys[i]? = some v' ∧ Rel W ρ ι v v' ∧ RelL W ρ ι y (ys.toList.drop (i + 1)) := by
        generalize hq : ys.toList.drop i = q at hb
        cases hb with
        | cons _ u' _ l' hu hl =>
          refine ⟨u', ?_, hu, ?_⟩
          · have : (ys.toList.drop i)[0]? = some u' := by rw [hq]; rfl
            rw [List.getElem?_drop] at this; simpa using this
          · have : ys.toList.drop (i + 1) = l' := by rw [← List.drop_drop, hq]; rfl
            rw [this]; exact hl
      obtain ⟨u', x1, x2, x3⟩ := hx
      obtain ⟨v', y1, y2, y3⟩ := hy
      have px : (part f.type xs f.offset).run P w = .ok u' w := by simp [part, run_isAgg h3, h2, x1]
      have py : (part f.type ys f.offset).run P w = .ok v' w := by simp [part, run_isAgg h3, h2, y1]
      cases hc : eqCellK k u v with
      | none => rw [hc] at e; cases e
      | some c1 =>
        have he := eqCellK_sound (P := P) (w := w) (t := f.type) d x2 y2 hc h5
        rw [hc] at e
        cases c1 with
        | true =>
          dsimp only at e
          have ih := eqFields_sound d xs ys l (i + 1) r x y c h4 x3 y3 e
          simp [Op.eqFields, h1, px, py, he, ih]
        | false =>
          dsimp only at e
          injection e with e; subst e
          simp [Op.eqFields, h1, px, py, he]
theorem eqs_sound (I : Inv W ρ ι h w) {neg : Bool} {ks : List Nat} {x y : AV} {x' y' : Value} {v : AV} {t : TypeId} {xo yo : Operand} (ht : plainEq P t = some ks) (hx : Rel W ρ ι x x') (hy : Rel W ρ ι y y')
    (e : xeqs neg ks x y h = .ok v h') :
    h' = h ∧ ∃ v', (eqGuard (opOf neg) t xo yo x' y').run P w = .ok () w ∧ (binOp (opOf neg) t x' y').run P w = .ok v' w ∧ Rel W ρ ι v v' := by
  unfold xeqs at e
  split at e
  · rename_i a b
    split at e
    · rename_i c hc
      rw [mkBool_eq] at e; injection e with e1 e2; subst e1 e2
      cases hx with | agg _ xs hxs => cases hy with | agg _ ys hys =>
      unfold plainEq at ht
      split at ht
      · rename_i fs hu
        split at ht
        · rename_i hg
          simp only [Bool.and_eq_true, Bool.not_eq_true'] at hg
          have hf : P.fieldsOf t = fs := by simp [Program.fieldsOf, hu]
          have he := eqFields_sound (P := P) (w := w) 9998 xs ys fs.toList 0 ks a b c ht (by simpa using hxs) (by simpa using hys) hc
          have h2 : (Op.equalIn 10000 t (.agg xs) (.agg ys)).run P w = .ok c w := by
            rw [run_equalIn_struct w 9999 t xs ys (by rw [hf]; exact hu) hg.1, hf]; exact he
          refine ⟨rfl, .bool (if neg then !c else c), run_eqGuard_agg w _ t xo yo xs ys hg.2, ?_, by cases neg <;> exact .bool _⟩
          cases neg
          · show (binOp .eql t (.agg xs) (.agg ys)).run P w = _
            rw [run_eql_struct, h2]; rfl
          · show (binOp .neq t (.agg xs) (.agg ys)).run P w = _
            rw [run_neq_struct, h2]; rfl
        · cases ht
      · cases ht
    · cases e
  · cases e
end
end Go.KM
