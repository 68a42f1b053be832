/-
  Operations of the small machine and the model's, III: reckoning, comparing, turning.
-/
import Derived.Test.YtffpkcmcoppbmaaGreatDoorKOpsB
import Derived.Lib.ConvBytes
import Derived.Laws.BytesString
import Derived.Laws.Concat
import Derived.WideLaws
import Derived.WideShapes
namespace Go.KM
open Go.RowKit
section
variable {P : Program} {W : World} {ρ : Nat → Int} {ι : Inj} {h h' : AH} {w : World}

theorem u8_inj : ∀ {a b : List UInt8}, a.map UInt8.toNat = b.map UInt8.toNat → a = b
  | [], [], _ => rfl
  | [], _ :: _, h => by simp at h
  | _ :: _, [], h => by simp at h
  | x :: a, y :: b, h => by
    simp only [List.map_cons, List.cons.injEq] at h
    rw [UInt8.toNat_inj.1 h.1, u8_inj h.2]
theorem bytesOf_inj {a b : ByteArray} (h : bytesOf a = bytesOf b) : a = b := by
  have := u8_inj h
  cases a; cases b; simp only at this; rw [Array.toList_inj.1 this]
theorem bytesOf_beq (a b : ByteArray) : (bytesOf a == bytesOf b) = (a.toList == b.toList) := by
  rw [ByteArray.toList_eq, ByteArray.toList_eq, Bool.eq_iff_iff, beq_iff_eq, beq_iff_eq]
  exact ⟨fun q => u8_inj q, fun q => by unfold bytesOf; rw [q]⟩
theorem bytesOf_length (a : ByteArray) : (bytesOf a).length = a.size := by
  show (List.map UInt8.toNat a.data.toList).length = a.data.size
  rw [List.length_map, Array.length_toList]
theorem lessNs_eq : ∀ (a b : List UInt8), lessNs (a.map UInt8.toNat) (b.map UInt8.toNat) = Op.bytesLess a b
  | [], [] => by simp [Op.bytesLess]; rfl
  | [], y :: b => by simp [Op.bytesLess]; rfl
  | x :: a, [] => by simp [Op.bytesLess]; rfl
  | x :: a, y :: b => by
    show Bool.rec (motive := fun _ => Bool) (Bool.rec (motive := fun _ => Bool) false (lessNs (a.map UInt8.toNat) (b.map UInt8.toNat)) (Nat.beq x.toNat y.toNat)) true (Nat.blt x.toNat y.toNat) = _
    rw [lessNs_eq a b, Op.bytesLess]
    have h1 : Nat.blt x.toNat y.toNat = decide (x < y) := by rw [Bool.eq_iff_iff, blt_iff, decide_eq_true_iff]; exact UInt8.lt_iff_toNat_lt.symm
    have h2 : Nat.beq x.toNat y.toNat = (x == y) := by rw [Bool.eq_iff_iff, beq_iff, beq_iff_eq]; exact UInt8.toNat_inj
    rw [h1, h2]
    cases decide (x < y) <;> cases (x == y) <;> rfl
theorem lessNs_bytes (a b : ByteArray) : lessNs (bytesOf a) (bytesOf b) = Op.bytesLess a.toList b.toList := by
  rw [ByteArray.toList_eq, ByteArray.toList_eq]; exact lessNs_eq _ _
theorem bytesOf_append (a b : ByteArray) : bytesOf (a ++ b) = bytesOf a ++ bytesOf b := by simp [bytesOf, ByteArray.data_append]

theorem xbin_sound {D : BinOp → SE → SE → Option Bool} (hD : DOk ρ D) (I : Inv W ρ ι h w) {op : BinOp} {x y : AV} {x' y' : Value} {v : AV} (t : TypeId) (hx : Rel W ρ ι x x') (hy : Rel W ρ ι y y') (e : xbin D op x y h = .ok v h') :
    h' = h ∧ ∃ v', (binOp op t x' y').run P w = .ok v' w ∧ Rel W ρ ι v v' := by
  unfold xbin at e
  split at e
  · rename_i k a l b
    cases hx; cases hy
    have gen : ∀ r : R AV, (Bool.rec (motive := fun _ => R AV) .bad r (beqK k l) : R AV) = .ok v h' → k = l ∧ r = .ok v h' := fun r q => by
      obtain ⟨q1, q2⟩ := sel_ok q
      exact ⟨beqK_iff.1 q1, q2⟩
    cases op
    case shl =>
      dsimp only at e
      obtain ⟨q, e⟩ := sel_not e
      rw [mkInt_eq, wrapF_eq] at e; injection e with e1 e2; subst e1 e2
      rw [ltI_eq] at q
      have q : ¬ b < 0 := by simpa using q
      exact ⟨rfl, _, by simp only [binOp, Op.shift, if_neg q]; rfl, .int _ _⟩
    case shr =>
      dsimp only at e
      obtain ⟨q, e⟩ := sel_not e
      rw [mkInt_eq] at e; injection e with e1 e2; subst e1 e2
      rw [ltI_eq] at q
      have q : ¬ b < 0 := by simpa using q
      exact ⟨rfl, _, by simp only [binOp, Op.shift, if_neg q]; rfl, .int _ _⟩
    all_goals
      dsimp only at e
      replace e := gen _ e
      obtain ⟨q1, q⟩ := e
      clear gen
      subst q1
      revert q
      intro e
    case add => rw [mkInt_eq, wrapF_eq] at e; injection e with e1 e2; subst e1 e2; exact ⟨rfl, _, by first | (simp [binOp, Op.intArith]; done) | (simp [binOp, Op.intArith]; rfl), .int _ _⟩
    case sub => rw [mkInt_eq, wrapF_eq] at e; injection e with e1 e2; subst e1 e2; exact ⟨rfl, _, by first | (simp [binOp, Op.intArith]; done) | (simp [binOp, Op.intArith]; rfl), .int _ _⟩
    case mul => rw [mkInt_eq, wrapF_eq] at e; injection e with e1 e2; subst e1 e2; exact ⟨rfl, _, by first | (simp [binOp, Op.intArith]; done) | (simp [binOp, Op.intArith]; rfl), .int _ _⟩
    case quo =>
      obtain ⟨q, e⟩ := sel_not e
      rw [mkInt_eq, wrapF_eq] at e; injection e with e1 e2; subst e1 e2
      rw [eqI_eq] at q
      have q : ¬ b = 0 := by simpa using q
      exact ⟨rfl, _, by first | (simp [binOp, Op.intDiv, q]; done) | (simp [binOp, Op.intDiv, q]; rfl), .int _ _⟩
    case rem =>
      obtain ⟨q, e⟩ := sel_not e
      rw [mkInt_eq] at e; injection e with e1 e2; subst e1 e2
      rw [eqI_eq] at q
      have q : ¬ b = 0 := by simpa using q
      exact ⟨rfl, _, by first | (simp [binOp, Op.intDiv, q]; done) | (simp [binOp, Op.intDiv, q]; rfl), .int _ _⟩
    case and => rw [mkInt_eq] at e; injection e with e1 e2; subst e1 e2; exact ⟨rfl, _, by simp only [binOp, Op.intBits, ne_eq, not_true_eq_false, if_false]; rfl, .int _ _⟩
    case or => rw [mkInt_eq] at e; injection e with e1 e2; subst e1 e2; exact ⟨rfl, _, by simp only [binOp, Op.intBits, ne_eq, not_true_eq_false, if_false]; rfl, .int _ _⟩
    case xor => rw [mkInt_eq] at e; injection e with e1 e2; subst e1 e2; exact ⟨rfl, _, by simp only [binOp, Op.intBits, ne_eq, not_true_eq_false, if_false]; rfl, .int _ _⟩
    case andNot => rw [mkInt_eq] at e; injection e with e1 e2; subst e1 e2; exact ⟨rfl, _, by simp only [binOp, Op.intBits, ne_eq, not_true_eq_false, if_false]; rfl, .int _ _⟩
    case eql => rw [mkBool_eq, eqI_eq] at e; injection e with e1 e2; subst e1 e2; exact ⟨rfl, _, by first | (simp [binOp, Op.intCmp]; done) | (simp [binOp, Op.intCmp]; rfl), .bool _⟩
    case neq => rw [mkBool_eq, eqI_eq] at e; injection e with e1 e2; subst e1 e2; exact ⟨rfl, .bool (a != b), by simp [binOp, Op.intCmp], .bool _⟩
    case lss => rw [mkBool_eq, ltI_eq] at e; injection e with e1 e2; subst e1 e2; exact ⟨rfl, .bool (decide (a < b)), by simp [binOp, Op.intCmp], .bool _⟩
    case leq =>
      rw [mkBool_eq, ltI_eq] at e; injection e with e1 e2; subst e1 e2
      refine ⟨rfl, .bool (decide (a ≤ b)), by simp [binOp, Op.intCmp], ?_⟩
      have h2 : decide (a ≤ b) = !decide (b < a) := by by_cases q : b < a <;> simp [q] <;> omega
      rw [h2]; exact .bool _
    case gtr => rw [mkBool_eq, ltI_eq] at e; injection e with e1 e2; subst e1 e2; exact ⟨rfl, .bool (decide (a > b)), by simp [binOp, Op.intCmp], .bool _⟩
    case geq =>
      rw [mkBool_eq, ltI_eq] at e; injection e with e1 e2; subst e1 e2
      refine ⟨rfl, .bool (decide (a ≥ b)), by simp [binOp, Op.intCmp], ?_⟩
      have h2 : decide (a ≥ b) = !decide (a < b) := by by_cases q : a < b <;> simp [q] <;> omega
      rw [h2]; exact .bool _
  · rename_i a b
    cases hx with | str a' => cases hy with | str b' =>
    cases op <;> dsimp only at e <;> (try (cases e; done))
    case add =>
      obtain ⟨q, e⟩ := sel_ok e
      rw [app_eq] at e
      injection e with e1 e2; subst e1 e2
      rw [ble_iff, lenN_eq, lenN_eq, bytesOf_length, bytesOf_length] at q
      refine ⟨rfl, .string (a' ++ b'), ?_, by rw [← bytesOf_append]; exact .str _⟩
      rw [binOp_string_add]; exact run_string_add_sum w _ _ q
    case eql => rw [mkBool_eq, eqNs_eq, bytesOf_beq] at e; injection e with e1 e2; subst e1 e2; exact ⟨rfl, _, by first | (simp [binOp, Op.stringOp]; done) | (simp [binOp, Op.stringOp]; rfl), .bool _⟩
    case neq => rw [mkBool_eq, eqNs_eq, bytesOf_beq] at e; injection e with e1 e2; subst e1 e2; exact ⟨rfl, .bool (!(a'.toList == b'.toList)), by simp [binOp, Op.stringOp], .bool _⟩
    case lss => rw [mkBool_eq, lessNs_bytes] at e; injection e with e1 e2; subst e1 e2; exact ⟨rfl, .bool (Op.bytesLess a'.toList b'.toList), by simp [binOp, Op.stringOp], .bool _⟩
    case leq => rw [mkBool_eq, lessNs_bytes, eqNs_eq, bytesOf_beq] at e; injection e with e1 e2; subst e1 e2; exact ⟨rfl, .bool (Op.bytesLess a'.toList b'.toList || a'.toList == b'.toList), by simp only [binOp, Op.stringOp]; rfl, .bool _⟩
    case gtr => rw [mkBool_eq, lessNs_bytes, eqNs_eq, bytesOf_beq] at e; injection e with e1 e2; subst e1 e2; exact ⟨rfl, .bool (!(Op.bytesLess a'.toList b'.toList || a'.toList == b'.toList)), by simp only [binOp, Op.stringOp]; rfl, .bool _⟩
    case geq => rw [mkBool_eq, lessNs_bytes] at e; injection e with e1 e2; subst e1 e2; exact ⟨rfl, .bool (!(Op.bytesLess a'.toList b'.toList)), by simp [binOp, Op.stringOp], .bool _⟩
  · exact xsym_sound hD I t hx hy e
theorem un_sound (I : Inv W ρ ι h w) {op : UnOp} {x : AV} {x' : Value} {v : AV} (hx : Rel W ρ ι x x') (e : xun op x h = .ok v h') :
    h' = h ∧ ∃ v', (Op.unary op x').run P w = .ok v' w ∧ Rel W ρ ι v v' := by
  unfold xun at e
  split at e
  · cases hx; rw [mkInt_eq, wrapF_eq] at e; injection e with e1 e2; subst e1 e2
    exact ⟨rfl, _, by simp only [Op.unary, Op.intArith]; rfl, .int _ _⟩
  · cases hx; rw [mkInt_eq] at e; injection e with e1 e2; subst e1 e2
    exact ⟨rfl, _, by simp only [Op.unary, Op.intBits]; rfl, .int _ _⟩
  · cases hx; rw [mkBool_eq] at e; injection e with e1 e2; subst e1 e2
    exact ⟨rfl, _, by simp only [Op.unary]; rfl, .bool _⟩
  · cases hx; injection e with e1 e2; subst e1 e2
    exact ⟨rfl, _, by simp only [Op.unary, Op.intArith]; rfl, .sym _ _⟩
  · cases e
theorem conv_sound (I : Inv W ρ ι h w) {x : AV} {x' : Value} {v : AV} {s d : TypeId} {k j : IntKind} (hs : P.underlying s = some (.int j)) (hd : P.underlying d = some (.int k)) (hx : Rel W ρ ι x x') (e : xconv k x h = .ok v h') :
    h' = h ∧ ∃ v', (convert s d x').run P w = .ok v' w ∧ Rel W ρ ι v v' := by
  unfold xconv at e
  split at e
  · cases hx; rw [mkInt_eq, wrapF_eq] at e; injection e with e1 e2; subst e1 e2
    exact ⟨rfl, _, by first | (simp [convert, run_underlying hs, run_underlying hd, Conv.intToInt]; done) | (simp [convert, run_underlying hs, run_underlying hd, Conv.intToInt]; rfl), .int _ _⟩
  · cases e

end
end Go.KM
