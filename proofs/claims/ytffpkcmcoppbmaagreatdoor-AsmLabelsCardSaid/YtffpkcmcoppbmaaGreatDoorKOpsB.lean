/-
  Operations of the small machine and the model's, II: writing, making, reckoning.
-/
import Derived.Test.YtffpkcmcoppbmaaGreatDoorKOpsA
namespace Go.KM
open Go.RowKit
section
variable {P : Program} {W : World} {ρ : Nat → Int} {ι : Inj} {h h' : AH} {w : World}

theorem store_sound (I : Inv W ρ ι h w) {x y : AV} {x' y' : Value} {v : AV} {t n : Nat} (hx : Rel W ρ ι x x') (hy : Rel W ρ ι y y') (hn : sizeC P t = some n) (e : xstore n x y h = .ok v h') :
    v = .tup [] ∧ DidU W ρ ι h ((Instr.storeAt t x' y').run P w) h' := by
  unfold xstore at e
  split at e
  · rename_i b o
    obtain ⟨cb, co, sz, hb, rfl⟩ := rel_ptr hx
    split at e
    · rename_i cs hcs
      obtain ⟨hc, e⟩ := sel_ok e
      injection e with e1 e2
      subst e1 e2
      simp only [and_iff, beq_iff, ble_iff, allB_iff, lenN_eq] at hc
      obtain ⟨h1, h2, h3⟩ := hc
      obtain ⟨w', k1, k2⟩ := writeCells (P := P) I hb (cellsAt_some hcs) hy.cells h2 (by rw [h1]; exact h3)
      have hl := hy.cells.length
      refine ⟨rfl, ι, w', ?_, (.here rfl), k2⟩
      have hsz : y'.cells.size = n := by rw [← Array.length_toList, ← hl, h1]
      simp [Instr.storeAt, Instr.sureAddr, storeVar, run_sizeOf' hn, hsz, k1]
    · cases e
  · cases e
/-- A row is made: 'mk' tells what is answered, by the name that the small machine gives the row. -/
def Made (W : World) (ρ : Nat → Int) (ι : Inj) (w : World) (r : Result Value) (mk : Nat → AV) (cs : List AV) : Prop :=
  ∃ v' c t, r = .ok v' (w.alloc (.cells c t)) ∧ CellsAt W ρ ι c 0 cs ∧ ∀ id κ, κ id = some (w.heap.size, 0, c.size) → Rel W ρ κ (mk id) v'
theorem Made.did (I : Inv W ρ ι h w) {r : Result Value} {mk : Nat → AV} {cs : List AV} (m : Made W ρ ι w r mk cs) : Did W ρ ι h r (mk h.next) (newBlk (.cells cs) h) := by
  obtain ⟨v', c, t, h1, h2, h3⟩ := m
  exact ⟨_, _, v', h1, Ext.put _ _ rfl (I.dom_none (Nat.le_refl _)) rfl, I.new cs c t (0, 0) (.inl (Nat.le_refl _)) h2, h3 _ _ (Inj.put_same _ _ _)⟩
theorem newRow_made {cs : List AV} {c : Array Value} (t : TypeId) (hr : RelL W ρ ι cs c.toList) :
    (newRow t c).run P w = .ok ⟨w.heap.size, 0, none⟩ (w.alloc (.cells c t)) ∧ CellsAt W ρ ι c 0 cs := by
  refine ⟨by simp [newRow], ?_, fun i v hv => ?_⟩
  · have := hr.length; simp at this; omega
  · obtain ⟨v', h1, h2⟩ := hr.get i v hv
    exact ⟨v', by rw [Nat.zero_add]; simpa using h1, h2⟩
theorem box_made {x : AV} {x' : Value} (t : TypeId) (hx : Rel W ρ ι x x') : Made W ρ ι w ((Instr.box t x').run P w) (.ptr · 0) x.cells := by
  obtain ⟨k1, k2⟩ := newRow_made (P := P) (w := w) t hx.cells
  exact ⟨_, _, t, by simp [Instr.box, newVar, k1]; rfl, k2, fun id κ hk => by simpa using Rel.ptr (W := W) (ρ := ρ) id 0 _ _ _ hk⟩
theorem alloc_made {z : AV} {t : TypeId} (hz : zeroOf P t = some z) : Made W ρ ι w ((Instr.alloc t true (.tuple #[])).run P w) (.ptr · 0) z.cells := by
  obtain ⟨z', hz1, hz2⟩ := run_zeroValue' hz
  obtain ⟨k1, k2⟩ := newRow_made (P := P) (w := w) t (ofConst_rel (W := W) (ρ := ρ) (ι := ι) hz1).cells
  exact ⟨_, _, t, by simp [Instr.alloc, hz2, newVar, k1]; rfl, k2, fun id κ hk => by simpa using Rel.ptr (W := W) (ρ := ρ) id 0 _ _ _ hk⟩
theorem nilchk_sound (I : Inv W ρ ι h w) {x : AV} {x' : Value} {v : AV} (hx : Rel W ρ ι x x') (e : xnilchk x h = .ok v h') : h' = h ∧ v = x ∧ ∃ a, x' = .pointer (some a) := by
  unfold xnilchk at e
  split at e
  · injection e with e1 e2; subst e1 e2
    obtain ⟨cb, co, sz, hb, rfl⟩ := rel_ptr hx
    exact ⟨rfl, rfl, _, rfl⟩
  · injection e with e1 e2; subst e1 e2
    obtain ⟨g, o, hc, rfl⟩ := rel_rptr hx
    exact ⟨rfl, rfl, _, rfl⟩
  · cases e

/-! parts laid into a value -/
inductive RelP (W : World) (ρ : Nat → Int) (ι : Inj) (place : Nat → Option (Nat × Nat)) : List (Nat × Nat × AV) → List (Nat × Value) → Prop
  | nil : RelP W ρ ι place [] []
  | cons (o s : Nat) (v : AV) (i : Nat) (v' : Value) (l : List (Nat × Nat × AV)) (l' : List (Nat × Value)) (hp : place i = some (o, s)) (hv : Rel W ρ ι v v') (hl : RelP W ρ ι place l l') :
      RelP W ρ ι place ((o, s, v) :: l) ((i, v') :: l')
theorem foldl_lay (cs : Array Value) : ∀ (vs : List Value) (o k : Nat) (c : Array Value), c.size = cs.size → o + k + vs.length ≤ cs.size →
    (∀ j, c[j]? = if j < o + k ∧ o ≤ j then c[j]? else cs[j]?) →
    let d := (vs.zipIdx k).foldl (fun cs (x : Value × Nat) => cs.setIfInBounds (o + x.2) x.1) c
    d.size = cs.size ∧ ∀ j, d[j]? = if o + k ≤ j ∧ j < o + k + vs.length then vs[j - (o + k)]? else c[j]?
  | [], o, k, c, hs, hfit, _ => by refine ⟨hs, fun j => ?_⟩; rw [if_neg (by simp)]; rfl
  | v :: vs, o, k, c, hs, hfit, hc => by
    simp only [List.length_cons] at hfit
    have ih := foldl_lay cs vs o (k + 1) (c.setIfInBounds (o + k) v) (by simpa using hs) (by omega) (fun j => by
      by_cases hj : j < o + (k + 1) ∧ o ≤ j
      · rw [if_pos hj]
      · rw [if_neg hj, Array.getElem?_setIfInBounds, if_neg (by omega)]
        have := hc j
        rw [if_neg (by omega)] at this
        exact this)
    refine ⟨ih.1, fun j => ?_⟩
    have h2 := ih.2 j
    simp only [List.zipIdx_cons, List.foldl_cons]
    rw [h2]
    by_cases h1 : o + (k + 1) ≤ j ∧ j < o + (k + 1) + vs.length
    · rw [if_pos h1, if_pos (by simp; omega), show j - (o + k) = j - (o + (k + 1)) + 1 from by omega]; simp
    · rw [if_neg h1, Array.getElem?_setIfInBounds]
      by_cases h3 : o + k = j
      · subst h3
        rw [if_pos rfl, if_pos (by omega), if_pos (by simp)]; simp
      · rw [if_neg h3, if_neg (by simp; omega)]
theorem fill_sound {place : Nat → Option (Nat × Nat)} : ∀ {ps : List (Nat × Nat × AV)} {ps' : List (Nat × Value)}, RelP W ρ ι place ps ps' → ∀ {z r : List AV} {z' : Array Value}, RelL W ρ ι z z'.toList → fill z ps = some r →
    ∃ r', Instr.fill place z' ps' = some r' ∧ RelL W ρ ι r r'.toList
  | _, _, .nil, z, r, z', hz, e => by
    simp only [fill] at e
    injection e with e; subst e
    exact ⟨z', rfl, hz⟩
  | _, _, .cons o s v i v' l l' hp hv hl, z, r, z', hz, e => by
    replace e : Bool.rec (motive := fun _ => Option (List AV)) none (fill (splice z o v.cells) l) (Bool.and (Nat.beq (lenN v.cells) s) (Nat.ble (Nat.add o s) (lenN z))) = some r := e
    cases hb : Bool.and (Nat.beq (lenN v.cells) s) (Nat.ble (Nat.add o s) (lenN z)) with
    | false => rw [hb] at e; cases e
    | true =>
      rw [hb] at e
      simp only [and_iff, beq_iff, ble_iff, lenN_eq] at hb
      obtain ⟨h1, h2⟩ := hb
      replace h2 : o + s ≤ z.length := h2
      have hl1 := hv.cells.length
      have hl2 := hz.length
      simp only [Array.length_toList] at hl1 hl2
      have hlay := foldl_lay z' v'.cells.toList o 0 z' rfl (by simp; omega) (fun j => by split <;> rfl)
      simp only [Nat.add_zero] at hlay
      have hfold : (v'.cells.zipIdx.foldl (fun cs (x : Value × Nat) => cs.setIfInBounds (o + x.2) x.1) z') = (v'.cells.toList.zipIdx.foldl (fun cs (x : Value × Nat) => cs.setIfInBounds (o + x.2) x.1) z') := by
        rw [← Array.foldl_toList]; simp
      have hsp : RelL W ρ ι (splice z o v.cells) ((v'.cells.zipIdx.foldl (fun cs (x : Value × Nat) => cs.setIfInBounds (o + x.2) x.1) z')).toList := by
        rw [hfold]
        refine .of_get (by rw [length_splice _ _ _ (by omega)]; simp [hlay.1]; omega) ?_
        intro j u u' e1 e2
        rw [getElem?_splice _ _ _ (by omega)] at e1
        rw [Array.getElem?_toList, hlay.2] at e2
        by_cases q1 : j < o
        · rw [if_pos q1] at e1
          rw [if_neg (by omega)] at e2
          obtain ⟨u2, k1, k2⟩ := hz.get j u e1
          rw [Array.getElem?_toList, e2] at k1; injection k1 with k1; subst k1; exact k2
        · rw [if_neg q1] at e1
          by_cases q2 : j < o + v.cells.length
          · rw [if_pos q2] at e1
            rw [if_pos (by simp; omega)] at e2
            obtain ⟨u2, k1, k2⟩ := hv.cells.get _ u e1
            rw [e2] at k1; injection k1 with k1; subst k1; exact k2
          · rw [if_neg q2] at e1
            rw [if_neg (by simp; omega)] at e2
            obtain ⟨u2, k1, k2⟩ := hz.get j u e1
            rw [Array.getElem?_toList, e2] at k1; injection k1 with k1; subst k1; exact k2
      obtain ⟨r', k1, k2⟩ := fill_sound hl hsp e
      refine ⟨r', ?_, k2⟩
      have g1 : ¬ (v'.cells.size ≠ s ∨ o + v'.cells.size > z'.size) := by omega
      simp only [Instr.fill, hp]
      rw [if_neg (by simpa using g1)]
      exact k1
/-! the same numbers -/
theorem seOf_val {x : AV} {x' : Value} {k : IntKind} {a : SE} (hx : Rel W ρ ι x x') (e : seOf x = some (k, a)) : x' = .int k (a.val ρ) := by
  unfold seOf at e
  split at e
  · injection e with e; simp only [Prod.mk.injEq] at e; obtain ⟨rfl, rfl⟩ := e; cases hx; rfl
  · injection e with e; simp only [Prod.mk.injEq] at e; obtain ⟨rfl, rfl⟩ := e; cases hx; rfl
  · cases e
theorem beqK_iff {a b : IntKind} : beqK a b = true ↔ a = b := by simp [beqK]
/-- What is said of unknown numbers holds. -/
def DOk (ρ : Nat → Int) (D : BinOp → SE → SE → Option Bool) : Prop :=
  (∀ a b c, D .eql a b = some c → (a.val ρ == b.val ρ) = c) ∧ (∀ a b c, D .lss a b = some c → decide (a.val ρ < b.val ρ) = c)
theorem xsym_sound {D : BinOp → SE → SE → Option Bool} (hD : DOk ρ D) (I : Inv W ρ ι h w) {op : BinOp} {x y : AV} {x' y' : Value} {v : AV} (t : TypeId) (hx : Rel W ρ ι x x') (hy : Rel W ρ ι y y') (e : xsym D op x y h = .ok v h') :
    h' = h ∧ ∃ v', (binOp op t x' y').run P w = .ok v' w ∧ Rel W ρ ι v v' := by
  unfold xsym at e
  split at e
  · rename_i k a l b ha hb
    have e1 := seOf_val hx ha
    have e2 := seOf_val hy hb
    subst e1 e2
    obtain ⟨hk, q⟩ := sel_ok e
    clear e
    replace hk := beqK_iff.1 hk
    subst hk
    revert q
    cases op <;> intro e <;> (try (cases e; done)) <;> dsimp only at e
    case add => injection e with e1 e2; subst e1 e2; exact ⟨rfl, _, by simp [binOp, Op.intArith]; rfl, .sym _ _⟩
    case sub => injection e with e1 e2; subst e1 e2; exact ⟨rfl, _, by simp [binOp, Op.intArith]; rfl, .sym _ _⟩
    case mul => injection e with e1 e2; subst e1 e2; exact ⟨rfl, _, by simp [binOp, Op.intArith]; rfl, .sym _ _⟩
    case quo =>
      split at e
      · rename_i hd
        injection e with e1 e2; subst e1 e2
        have hz : ¬ b.val ρ = 0 := by simpa [SE.val] using hD.1 _ _ _ hd
        exact ⟨rfl, _, by simp [binOp, Op.intDiv, hz]; rfl, .sym _ _⟩
      · cases e
    case rem =>
      split at e
      · rename_i hd
        injection e with e1 e2; subst e1 e2
        have hz : ¬ b.val ρ = 0 := by simpa [SE.val] using hD.1 _ _ _ hd
        exact ⟨rfl, _, by simp [binOp, Op.intDiv, hz]; rfl, .sym _ _⟩
      · cases e
    case eql =>
      split at e
      · rename_i c hd
        rw [mkBool_eq] at e; injection e with e1 e2; subst e1 e2
        exact ⟨rfl, _, by simp [binOp, Op.intCmp]; rfl, by rw [hD.1 _ _ _ hd]; exact .bool _⟩
      · cases e
    case neq =>
      split at e
      · rename_i c hd
        rw [mkBool_eq] at e; injection e with e1 e2; subst e1 e2
        refine ⟨rfl, .bool (a.val ρ != b.val ρ), by simp [binOp, Op.intCmp], ?_⟩
        have := hD.1 _ _ _ hd
        rw [bne, this]; exact .bool _
      · cases e
    case lss =>
      split at e
      · rename_i c hd
        rw [mkBool_eq] at e; injection e with e1 e2; subst e1 e2
        exact ⟨rfl, _, by simp [binOp, Op.intCmp]; rfl, by rw [hD.2 _ _ _ hd]; exact .bool _⟩
      · cases e
    case leq =>
      split at e
      · rename_i c hd
        rw [mkBool_eq] at e; injection e with e1 e2; subst e1 e2
        refine ⟨rfl, .bool (decide (a.val ρ ≤ b.val ρ)), by simp [binOp, Op.intCmp], ?_⟩
        have := hD.2 _ _ _ hd
        have h2 : decide (a.val ρ ≤ b.val ρ) = !c := by rw [← this]; by_cases q : b.val ρ < a.val ρ <;> simp [q] <;> omega
        rw [h2]; exact .bool _
      · cases e
    case gtr =>
      split at e
      · rename_i c hd
        rw [mkBool_eq] at e; injection e with e1 e2; subst e1 e2
        refine ⟨rfl, .bool (decide (a.val ρ > b.val ρ)), by simp [binOp, Op.intCmp], ?_⟩
        have := hD.2 _ _ _ hd
        have h2 : decide (a.val ρ > b.val ρ) = c := this
        rw [h2]; exact .bool _
      · cases e
    case geq =>
      split at e
      · rename_i c hd
        rw [mkBool_eq] at e; injection e with e1 e2; subst e1 e2
        refine ⟨rfl, .bool (decide (a.val ρ ≥ b.val ρ)), by simp [binOp, Op.intCmp], ?_⟩
        have := hD.2 _ _ _ hd
        have h2 : decide (a.val ρ ≥ b.val ρ) = !c := by rw [← this]; by_cases q : a.val ρ < b.val ρ <;> simp [q] <;> omega
        rw [h2]; exact .bool _
      · cases e
  · cases e
end
end Go.KM
