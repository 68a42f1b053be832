/-
  A small machine of our own for concrete and symbolic runs: values, memory, operations, code. (No model text here; its tie to the model stands in the texts behind.)
-/
import GoSem.Core.Code
namespace Go.KM

/-- A map from numbers, as a binary tree: by recursors alone, so that the kernel runs it fast. -/
inductive PT (α : Type) where
  | leaf
  | node (l : PT α) (v : Option α) (r : PT α)

namespace PT
variable {α : Type}
noncomputable def get (t : PT α) : Nat → Option α :=
  PT.rec (motive := fun _ => Nat → Option α) (fun _ => none) (fun _ v _ il ir k =>
    Bool.rec (Bool.rec (ir (Nat.pred (Nat.div k 2))) (il (Nat.div k 2)) (Nat.beq (Nat.mod k 2) 1)) v (Nat.beq k 0)) t
/-- The tree that holds 'x' at 'k' alone ('n': how deep at most; beyond that nothing is held). -/
noncomputable def sing (n : Nat) : Nat → α → PT α :=
  Nat.rec (motive := fun _ => Nat → α → PT α) (fun _ _ => .leaf) (fun _ ih k x =>
    Bool.rec (Bool.rec (.node .leaf none (ih (Nat.pred (Nat.div k 2)) x)) (.node (ih (Nat.div k 2) x) none .leaf) (Nat.beq (Nat.mod k 2) 1)) (.node .leaf (some x) .leaf) (Nat.beq k 0)) n
noncomputable def set (t : PT α) : Nat → α → PT α :=
  PT.rec (motive := fun _ => Nat → α → PT α) (fun k x => sing (Nat.succ (Nat.log2 (Nat.succ k))) k x) (fun l v r il ir k x =>
    Bool.rec (Bool.rec (.node l v (ir (Nat.pred (Nat.div k 2)) x)) (.node (il (Nat.div k 2) x) v r) (Nat.beq (Nat.mod k 2) 1)) (.node l (some x) r) (Nat.beq k 0)) t
/-- 'k' holds nothing any more. -/
noncomputable def del (t : PT α) : Nat → PT α :=
  PT.rec (motive := fun _ => Nat → PT α) (fun _ => .leaf) (fun l v r il ir k =>
    Bool.rec (Bool.rec (.node l v (ir (Nat.pred (Nat.div k 2)))) (.node (il (Nat.div k 2)) v r) (Nat.beq (Nat.mod k 2) 1)) (.node l none r) (Nat.beq k 0)) t

theorem beq_ne {a b : Nat} (h : a ≠ b) : Nat.beq a b = false := by
  cases hb : Nat.beq a b with
  | false => rfl
  | true => exact absurd (Nat.eq_of_beq_eq_true hb) h
theorem get_leaf (k : Nat) : (PT.leaf : PT α).get k = none := rfl
theorem get_node (l : PT α) (v : Option α) (r : PT α) (k : Nat) :
    (PT.node l v r).get k = if k = 0 then v else if k % 2 = 1 then l.get (k / 2) else r.get (k / 2 - 1) := by
  show Bool.rec (motive := fun _ => Option α) (Bool.rec (motive := fun _ => Option α) (r.get (Nat.pred (Nat.div k 2))) (l.get (Nat.div k 2)) (Nat.beq (Nat.mod k 2) 1)) v (Nat.beq k 0) = _
  by_cases h : k = 0
  · subst h; rfl
  · have h0 : Nat.beq k 0 = false := beq_ne h
    rw [h0, if_neg h]
    by_cases h1 : k % 2 = 1
    · have h2 : Nat.beq (Nat.mod k 2) 1 = true := by rw [Nat.beq_eq]; exact h1
      rw [h2, if_pos h1]; rfl
    · have h2 : Nat.beq (Nat.mod k 2) 1 = false := by
        cases hb : Nat.beq (Nat.mod k 2) 1 with
        | false => rfl
        | true => exact absurd (Nat.eq_of_beq_eq_true hb) h1
      rw [h2, if_neg h1]; rfl
theorem set_node (l : PT α) (v : Option α) (r : PT α) (k : Nat) (x : α) :
    (PT.node l v r).set k x = if k = 0 then .node l (some x) r else if k % 2 = 1 then .node (l.set (k / 2) x) v r else .node l v (r.set (k / 2 - 1) x) := by
  show Bool.rec (motive := fun _ => PT α) (Bool.rec (motive := fun _ => PT α) (PT.node l v (r.set (Nat.pred (Nat.div k 2)) x)) (PT.node (l.set (Nat.div k 2) x) v r) (Nat.beq (Nat.mod k 2) 1)) (PT.node l (some x) r) (Nat.beq k 0) = _
  by_cases h : k = 0
  · subst h; rfl
  · have h0 : Nat.beq k 0 = false := beq_ne h
    rw [h0, if_neg h]
    by_cases h1 : k % 2 = 1
    · have h2 : Nat.beq (Nat.mod k 2) 1 = true := by rw [Nat.beq_eq]; exact h1
      rw [h2, if_pos h1]; rfl
    · have h2 : Nat.beq (Nat.mod k 2) 1 = false := by
        cases hb : Nat.beq (Nat.mod k 2) 1 with
        | false => rfl
        | true => exact absurd (Nat.eq_of_beq_eq_true hb) h1
      rw [h2, if_neg h1]; rfl
theorem del_node (l : PT α) (v : Option α) (r : PT α) (k : Nat) :
    (PT.node l v r).del k = if k = 0 then .node l none r else if k % 2 = 1 then .node (l.del (k / 2)) v r else .node l v (r.del (k / 2 - 1)) := by
  show Bool.rec (motive := fun _ => PT α) (Bool.rec (motive := fun _ => PT α) (PT.node l v (r.del (Nat.pred (Nat.div k 2)))) (PT.node (l.del (Nat.div k 2)) v r) (Nat.beq (Nat.mod k 2) 1)) (PT.node l none r) (Nat.beq k 0) = _
  by_cases h : k = 0
  · subst h; rfl
  · have h0 : Nat.beq k 0 = false := beq_ne h
    rw [h0, if_neg h]
    by_cases h1 : k % 2 = 1
    · have h2 : Nat.beq (Nat.mod k 2) 1 = true := by rw [Nat.beq_eq]; exact h1
      rw [h2, if_pos h1]; rfl
    · have h2 : Nat.beq (Nat.mod k 2) 1 = false := by
        cases hb : Nat.beq (Nat.mod k 2) 1 with
        | false => rfl
        | true => exact absurd (Nat.eq_of_beq_eq_true hb) h1
      rw [h2, if_neg h1]; rfl
theorem sing_succ (n k : Nat) (x : α) :
    PT.sing (n + 1) k x = if k = 0 then .node .leaf (some x) .leaf else if k % 2 = 1 then .node (sing n (k / 2) x) none .leaf else .node .leaf none (sing n (k / 2 - 1) x) := by
  show Bool.rec (motive := fun _ => PT α) (Bool.rec (motive := fun _ => PT α) (PT.node .leaf none (sing n (Nat.pred (Nat.div k 2)) x)) (PT.node (sing n (Nat.div k 2) x) none .leaf) (Nat.beq (Nat.mod k 2) 1)) (PT.node .leaf (some x) .leaf) (Nat.beq k 0) = _
  by_cases h : k = 0
  · subst h; rfl
  · have h0 : Nat.beq k 0 = false := beq_ne h
    rw [h0, if_neg h]
    by_cases h1 : k % 2 = 1
    · have h2 : Nat.beq (Nat.mod k 2) 1 = true := by rw [Nat.beq_eq]; exact h1
      rw [h2, if_pos h1]; rfl
    · have h2 : Nat.beq (Nat.mod k 2) 1 = false := by
        cases hb : Nat.beq (Nat.mod k 2) 1 with
        | false => rfl
        | true => exact absurd (Nat.eq_of_beq_eq_true hb) h1
      rw [h2, if_neg h1]; rfl
theorem get_sing (n : Nat) : ∀ (k j : Nat) (x : α), k + 1 < 2 ^ n → (PT.sing n k x).get j = if j = k then some x else none := by
  induction n with
  | zero => intro k j x h; omega
  | succ n ih =>
    intro k j x h
    rw [sing_succ]
    have hp : 2 ^ (n + 1) = 2 * 2 ^ n := by rw [Nat.pow_succ]; omega
    by_cases hk : k = 0
    · subst hk
      rw [if_pos rfl, get_node]
      by_cases hj : j = 0
      · rw [if_pos hj, if_pos hj]
      · rw [if_neg hj, if_neg hj]; split <;> rfl
    · rw [if_neg hk]
      by_cases h1 : k % 2 = 1
      · rw [if_pos h1, get_node, ih (k / 2) (j / 2) x (by omega)]
        by_cases hj : j = 0
        · rw [if_pos hj, if_neg (by omega)]
        · rw [if_neg hj]
          by_cases hj1 : j % 2 = 1
          · rw [if_pos hj1]
            by_cases he : j = k
            · rw [if_pos (by omega), if_pos he]
            · rw [if_neg (by omega), if_neg he]
          · rw [if_neg hj1, get_leaf, if_neg (by omega)]
      · rw [if_neg h1, get_node, ih (k / 2 - 1) (j / 2 - 1) x (by omega)]
        by_cases hj : j = 0
        · rw [if_pos hj, if_neg (by omega)]
        · rw [if_neg hj]
          by_cases hj1 : j % 2 = 1
          · rw [if_pos hj1, get_leaf, if_neg (by omega)]
          · rw [if_neg hj1]
            by_cases he : j = k
            · rw [if_pos (by omega), if_pos he]
            · rw [if_neg (by omega), if_neg he]
theorem get_set (t : PT α) : ∀ (k j : Nat) (x : α), (t.set k x).get j = if j = k then some x else t.get j := by
  induction t with
  | leaf =>
    intro k j x
    show (PT.sing (Nat.succ (Nat.log2 (Nat.succ k))) k x).get j = _
    rw [get_sing _ _ _ _ (by have := @Nat.lt_log2_self (k + 1); simpa using this), get_leaf]
  | node l v r il ir =>
    intro k j x
    rw [set_node]
    by_cases hk : k = 0
    · subst hk
      rw [if_pos rfl, get_node, get_node]
      by_cases hj : j = 0
      · rw [if_pos hj, if_pos hj]
      · rw [if_neg hj, if_neg hj, if_neg hj]
    · rw [if_neg hk]
      by_cases h1 : k % 2 = 1
      · rw [if_pos h1, get_node, get_node, il]
        by_cases hj : j = 0
        · rw [if_pos hj, if_neg (by omega), if_pos hj]
        · rw [if_neg hj, if_neg hj]
          by_cases hj1 : j % 2 = 1
          · rw [if_pos hj1, if_pos hj1]
            by_cases he : j = k
            · rw [if_pos (by omega), if_pos he]
            · rw [if_neg (by omega), if_neg he]
          · rw [if_neg hj1, if_neg hj1, if_neg (by omega)]
      · rw [if_neg h1, get_node, get_node, ir]
        by_cases hj : j = 0
        · rw [if_pos hj, if_neg (by omega), if_pos hj]
        · rw [if_neg hj, if_neg hj]
          by_cases hj1 : j % 2 = 1
          · rw [if_pos hj1, if_pos hj1, if_neg (by omega)]
          · rw [if_neg hj1, if_neg hj1]
            by_cases he : j = k
            · rw [if_pos (by omega), if_pos he]
            · rw [if_neg (by omega), if_neg he]
theorem get_del (t : PT α) : ∀ (k j : Nat), (t.del k).get j = if j = k then none else t.get j := by
  induction t with
  | leaf => intro k j; show (PT.leaf : PT α).get j = _; rw [get_leaf]; split <;> rfl
  | node l v r il ir =>
    intro k j
    rw [del_node]
    by_cases hk : k = 0
    · subst hk
      rw [if_pos rfl, get_node, get_node]
      by_cases hj : j = 0
      · rw [if_pos hj, if_pos hj]
      · rw [if_neg hj, if_neg hj, if_neg hj]
    · rw [if_neg hk]
      by_cases h1 : k % 2 = 1
      · rw [if_pos h1, get_node, get_node, il]
        by_cases hj : j = 0
        · rw [if_pos hj, if_neg (by omega), if_pos hj]
        · rw [if_neg hj, if_neg hj]
          by_cases hj1 : j % 2 = 1
          · rw [if_pos hj1, if_pos hj1]
            by_cases he : j = k
            · rw [if_pos (by omega), if_pos he]
            · rw [if_neg (by omega), if_neg he]
          · rw [if_neg hj1, if_neg hj1, if_neg (by omega)]
      · rw [if_neg h1, get_node, get_node, ir]
        by_cases hj : j = 0
        · rw [if_pos hj, if_neg (by omega), if_pos hj]
        · rw [if_neg hj, if_neg hj]
          by_cases hj1 : j % 2 = 1
          · rw [if_pos hj1, if_pos hj1, if_neg (by omega)]
          · rw [if_neg hj1, if_neg hj1]
            by_cases he : j = k
            · rw [if_pos (by omega), if_pos he]
            · rw [if_neg (by omega), if_neg he]
end PT
end Go.KM
