/-
  What operations look at, and what their answers do to memory.
-/
import Derived.Test.YtffpkcmcoppbmaaGreatDoorKReg
import Derived.Orders
namespace Go.KM
open Go.RowKit
section
variable {g : Nat → Option AV} {D : BinOp → SE → SE → Option Bool} {cf : Nat → List AV → AH → R AV} {e e' : Env} {h : AH}
/-- The same at the named places. -/
def Same (e e' : Env) (l : List Nat) : Prop := ∀ t ∈ l, e.get t = e'.get t
theorem Same.left {l m : List Nat} (s : Same e e' (l ++ m)) : Same e e' l := fun t ht => s t (List.mem_append_left _ ht)
theorem Same.right {l m : List Nat} (s : Same e e' (l ++ m)) : Same e e' m := fun t ht => s t (List.mem_append_right _ ht)
theorem evX_congr {x : KX} (s : Same e e' (kxr x)) : evX g e x = evX g e' x := by
  cases x with
  | t n => exact s n (by simp [kxr])
  | c v => rfl
  | g n => rfl
theorem evXs_congr : ∀ {xs : List KX}, Same e e' (kxsr xs) → evXs g e xs = evXs g e' xs
  | [], _ => rfl
  | x :: l, s => by
    have hx : ∀ e, evXs g e (x :: l) = (match evX g e x with
      | some v => Option.rec (motive := fun _ => Option (List AV)) none (fun vs => some (v :: vs)) (evXs g e l)
      | none => none) := fun _ => rfl
    rw [hx, hx, evX_congr (Same.left (l := kxr x) s), evXs_congr (Same.right (l := kxr x) s)]
theorem evPs_congr : ∀ {xs : List (Nat × Nat × KX)}, Same e e' (kpsr xs) → evPs g e xs = evPs g e' xs
  | [], _ => rfl
  | x :: l, s => by
    have hx : ∀ e, evPs g e (x :: l) = (match evX g e x.2.2 with
      | some v => Option.rec (motive := fun _ => Option (List (Nat × Nat × AV))) none (fun vs => some ((x.1, x.2.1, v) :: vs)) (evPs g e l)
      | none => none) := fun _ => rfl
    rw [hx, hx, evX_congr (Same.left (l := kxr x.2.2) s), evPs_congr (Same.right (l := kxr x.2.2) s)]
theorem evO_congr {x : Option KX} (s : Same e e' (kxor x)) : evO g e x = evO g e' x := by
  cases x with
  | none => rfl
  | some x => simp only [evO, evX_congr (g := g) (x := x) s]
theorem exOp_congr {op : KOp} (s : Same e e' (kreads op)) : exOp g D cf op e h = exOp g D cf op e' h := by
  cases op <;> simp only [kreads] at s <;> simp only [exOp] <;>
    first
      | rw [evX_congr s]
      | rw [evX_congr s.left, evX_congr s.right]
      | rw [evX_congr s.left, evX_congr s.right.left, evX_congr s.right.right]
      | rw [evPs_congr s]
      | rw [evXs_congr s.left, evXs_congr s.right]
      | rw [evX_congr s.left, evO_congr s.right.left, evO_congr s.right.right.left, evO_congr s.right.right.right]
      | rw [evX_congr s.left, evO_congr s.right.left, evO_congr s.right.right]
      | rw [evXs_congr s]
      | rw [evX_congr s.left, evXs_congr s.right]
theorem wants_congr {gd : Option (Nat × Bool)} (s : ∀ t b, gd = some (t, b) → e.get t = e'.get t) : wants gd e = wants gd e' := by
  cases gd with
  | none => rfl
  | some p => obtain ⟨t, b⟩ := p; simp only [wants, s t b rfl]
/-- An answer that leaves memory as it was. -/
def SameH (h : AH) (r : R AV) : Prop := ∀ v h', r = .ok v h' → h' = h
theorem sameH_bad : SameH h .bad := fun _ _ e => by cases e
theorem sameH_ok (v : AV) (h : AH) : SameH h (.ok v h) := fun _ _ e => by injection e with e1 e2; exact e2.symm
theorem sameH_sel {r : R AV} (hr : SameH h r) (c : Bool) : SameH h (Bool.rec (motive := fun _ => R AV) .bad r c) := by cases c; exact sameH_bad; exact hr
theorem sameH_not {r : R AV} (hr : SameH h r) (c : Bool) : SameH h (Bool.rec (motive := fun _ => R AV) r .bad c) := by cases c; exact hr; exact sameH_bad
theorem sameH_two {r s : R AV} (hr : SameH h r) (hs : SameH h s) (c : Bool) : SameH h (Bool.rec (motive := fun _ => R AV) r s c) := by cases c; exact hr; exact hs
theorem sameH_int (k : IntKind) (n : Int) (h : AH) : SameH h (mkInt k n h) := by rw [mkInt_eq]; exact sameH_ok _ _
theorem sameH_bool (b : Bool) (h : AH) : SameH h (mkBool b h) := by rw [mkBool_eq]; exact sameH_ok _ _
theorem sameH_w1 {x : Option AV} {k : AV → R AV} (hk : ∀ v, SameH h (k v)) : SameH h (w1 x k) := by cases x; exact sameH_bad; exact hk _
theorem sameH_wO {x : Option (Option AV)} {k : Option AV → R AV} (hk : ∀ v, SameH h (k v)) : SameH h (wO x k) := by cases x; exact sameH_bad; exact hk _
theorem sh_load1 (x : AV) (h : AH) : SameH h (xload1 x h) := by
  unfold xload1
  repeat' (first | exact sameH_bad | exact sameH_ok _ _ | exact sameH_int _ _ _ | exact sameH_bool _ _ | refine sameH_sel ?_ _ | refine sameH_not ?_ _ | refine sameH_two ?_ ?_ _ | split | (simp only [forceN_eq]))
theorem sh_loadn (n : Nat) (x : AV) (h : AH) : SameH h (xloadn n x h) := by
  unfold xloadn
  repeat' (first | exact sameH_bad | exact sameH_ok _ _ | exact sameH_int _ _ _ | exact sameH_bool _ _ | refine sameH_sel ?_ _ | refine sameH_not ?_ _ | refine sameH_two ?_ ?_ _ | split | (simp only [forceN_eq]))
theorem sh_nilchk (x : AV) (h : AH) : SameH h (xnilchk x h) := by
  unfold xnilchk
  repeat' (first | exact sameH_bad | exact sameH_ok _ _ | exact sameH_int _ _ _ | exact sameH_bool _ _ | refine sameH_sel ?_ _ | refine sameH_not ?_ _ | refine sameH_two ?_ ?_ _ | split | (simp only [forceN_eq]))
theorem sh_sym (D : BinOp → SE → SE → Option Bool) (op : BinOp) (x y : AV) (h : AH) : SameH h (xsym D op x y h) := by
  unfold xsym
  repeat' (first | exact sameH_bad | exact sameH_ok _ _ | exact sameH_int _ _ _ | exact sameH_bool _ _ | refine sameH_sel ?_ _ | refine sameH_not ?_ _ | refine sameH_two ?_ ?_ _ | split | (simp only [forceN_eq]))
theorem sh_eql (n : Bool) (k : Nat) (x y : AV) (h : AH) : SameH h (xeql n k x y h) := by
  unfold xeql
  repeat' (first | exact sameH_bad | exact sameH_ok _ _ | exact sameH_int _ _ _ | exact sameH_bool _ _ | refine sameH_sel ?_ _ | refine sameH_not ?_ _ | refine sameH_two ?_ ?_ _ | split | (simp only [forceN_eq]))
theorem sh_eqs (n : Bool) (ks : List Nat) (x y : AV) (h : AH) : SameH h (xeqs n ks x y h) := by
  unfold xeqs
  repeat' (first | exact sameH_bad | exact sameH_ok _ _ | exact sameH_int _ _ _ | exact sameH_bool _ _ | refine sameH_sel ?_ _ | refine sameH_not ?_ _ | refine sameH_two ?_ ?_ _ | split | (simp only [forceN_eq]))
theorem sh_un (op : UnOp) (x : AV) (h : AH) : SameH h (xun op x h) := by
  unfold xun
  repeat' (first | exact sameH_bad | exact sameH_ok _ _ | exact sameH_int _ _ _ | exact sameH_bool _ _ | refine sameH_sel ?_ _ | refine sameH_not ?_ _ | refine sameH_two ?_ ?_ _ | split | (simp only [forceN_eq]))
theorem sh_conv (k : IntKind) (x : AV) (h : AH) : SameH h (xconv k x h) := by
  unfold xconv
  repeat' (first | exact sameH_bad | exact sameH_ok _ _ | exact sameH_int _ _ _ | exact sameH_bool _ _ | refine sameH_sel ?_ _ | refine sameH_not ?_ _ | refine sameH_two ?_ ?_ _ | split | (simp only [forceN_eq]))
theorem sh_convStr (x : AV) (h : AH) : SameH h (xconvStr x h) := by
  unfold xconvStr
  repeat' (first | exact sameH_bad | exact sameH_ok _ _ | exact sameH_int _ _ _ | exact sameH_bool _ _ | refine sameH_sel ?_ _ | refine sameH_not ?_ _ | refine sameH_two ?_ ?_ _ | split | (simp only [forceN_eq]))
theorem sh_slc (s : Nat) (x : AV) (lo hi mx : Option AV) (h : AH) : SameH h (xslc s x lo hi mx h) := by
  unfold xslc
  repeat' (first | exact sameH_bad | exact sameH_ok _ _ | exact sameH_int _ _ _ | exact sameH_bool _ _ | refine sameH_sel ?_ _ | refine sameH_not ?_ _ | refine sameH_two ?_ ?_ _ | split | (simp only [forceN_eq]))
theorem sh_slcs (x : AV) (lo hi : Option AV) (h : AH) : SameH h (xslcs x lo hi h) := by
  unfold xslcs
  repeat' (first | exact sameH_bad | exact sameH_ok _ _ | exact sameH_int _ _ _ | exact sameH_bool _ _ | refine sameH_sel ?_ _ | refine sameH_not ?_ _ | refine sameH_two ?_ ?_ _ | split | (simp only [forceN_eq]))
theorem sh_slca (n s : Nat) (x : AV) (lo hi mx : Option AV) (h : AH) : SameH h (xslca n s x lo hi mx h) := by
  unfold xslca
  repeat' (first | exact sameH_bad | exact sameH_ok _ _ | exact sameH_int _ _ _ | exact sameH_bool _ _ | refine sameH_sel ?_ _ | refine sameH_not ?_ _ | refine sameH_two ?_ ?_ _ | split | (simp only [forceN_eq]))
theorem sh_fadr (n : Nat) (x : AV) (h : AH) : SameH h (xfadr n x h) := by
  unfold xfadr
  repeat' (first | exact sameH_bad | exact sameH_ok _ _ | exact sameH_int _ _ _ | exact sameH_bool _ _ | refine sameH_sel ?_ _ | refine sameH_not ?_ _ | refine sameH_two ?_ ?_ _ | split | (simp only [forceN_eq]))
theorem sh_fld1 (n : Nat) (x : AV) (h : AH) : SameH h (xfld1 n x h) := by
  unfold xfld1
  repeat' (first | exact sameH_bad | exact sameH_ok _ _ | exact sameH_int _ _ _ | exact sameH_bool _ _ | refine sameH_sel ?_ _ | refine sameH_not ?_ _ | refine sameH_two ?_ ?_ _ | split | (simp only [forceN_eq]))
theorem sh_fldn (n m : Nat) (x : AV) (h : AH) : SameH h (xfldn n m x h) := by
  unfold xfldn
  repeat' (first | exact sameH_bad | exact sameH_ok _ _ | exact sameH_int _ _ _ | exact sameH_bool _ _ | refine sameH_sel ?_ _ | refine sameH_not ?_ _ | refine sameH_two ?_ ?_ _ | split | (simp only [forceN_eq]))
theorem sh_idxa (s : Nat) (x i : AV) (h : AH) : SameH h (xidxa s x i h) := by
  unfold xidxa
  repeat' (first | exact sameH_bad | exact sameH_ok _ _ | exact sameH_int _ _ _ | exact sameH_bool _ _ | refine sameH_sel ?_ _ | refine sameH_not ?_ _ | refine sameH_two ?_ ?_ _ | split | (simp only [forceN_eq]))
theorem sh_idxaa (n s : Nat) (x i : AV) (h : AH) : SameH h (xidxaa n s x i h) := by
  unfold xidxaa
  repeat' (first | exact sameH_bad | exact sameH_ok _ _ | exact sameH_int _ _ _ | exact sameH_bool _ _ | refine sameH_sel ?_ _ | refine sameH_not ?_ _ | refine sameH_two ?_ ?_ _ | split | (simp only [forceN_eq]))
theorem sh_idxs (x i : AV) (h : AH) : SameH h (xidxs x i h) := by
  unfold xidxs
  repeat' (first | exact sameH_bad | exact sameH_ok _ _ | exact sameH_int _ _ _ | exact sameH_bool _ _ | refine sameH_sel ?_ _ | refine sameH_not ?_ _ | refine sameH_two ?_ ?_ _ | split | (simp only [forceN_eq]))
theorem sh_look (kk : Nat) (z : AV) (ok : Bool) (x i : AV) (h : AH) : SameH h (xlook kk z ok x i h) := by
  unfold xlook
  repeat' (first | exact sameH_bad | exact sameH_ok _ _ | exact sameH_int _ _ _ | exact sameH_bool _ _ | refine sameH_sel ?_ _ | refine sameH_not ?_ _ | refine sameH_two ?_ ?_ _ | split | (simp only [forceN_eq]))
theorem sh_ext (x : AV) (i : Nat) (h : AH) : SameH h (xext x i h) := by
  unfold xext
  repeat' (first | exact sameH_bad | exact sameH_ok _ _ | exact sameH_int _ _ _ | exact sameH_bool _ _ | refine sameH_sel ?_ _ | refine sameH_not ?_ _ | refine sameH_two ?_ ?_ _ | split | (simp only [forceN_eq]))
theorem sh_len (kk : Nat) (x : AV) (h : AH) : SameH h (xlen kk x h) := by
  unfold xlen
  repeat' (first | exact sameH_bad | exact sameH_ok _ _ | exact sameH_int _ _ _ | exact sameH_bool _ _ | refine sameH_sel ?_ _ | refine sameH_not ?_ _ | refine sameH_two ?_ ?_ _ | split | (simp only [forceN_eq]))
theorem sh_min (x y : AV) (h : AH) : SameH h (xmin x y h) := by
  unfold xmin
  repeat' (first | exact sameH_bad | exact sameH_ok _ _ | exact sameH_int _ _ _ | exact sameH_bool _ _ | refine sameH_sel ?_ _ | refine sameH_not ?_ _ | refine sameH_two ?_ ?_ _ | split | (simp only [forceN_eq]))
theorem sh_max (x y : AV) (h : AH) : SameH h (xmax x y h) := by
  unfold xmax
  repeat' (first | exact sameH_bad | exact sameH_ok _ _ | exact sameH_int _ _ _ | exact sameH_bool _ _ | refine sameH_sel ?_ _ | refine sameH_not ?_ _ | refine sameH_two ?_ ?_ _ | split | (simp only [forceN_eq]))
theorem sh_convBs (x : AV) (h : AH) : SameH h (xconvBs x h) := by
  unfold xconvBs
  repeat' (first | exact sameH_bad | exact sameH_ok _ _ | exact sameH_int _ _ _ | exact sameH_bool _ _ | refine sameH_sel ?_ _ | refine sameH_not ?_ _ | refine sameH_two ?_ ?_ _ | split | (simp only [forceN_eq]))
theorem sh_bin (D : BinOp → SE → SE → Option Bool) (op : BinOp) (x y : AV) (h : AH) : SameH h (xbin D op x y h) := by
  unfold xbin
  repeat' (first | exact sameH_bad | exact sameH_ok _ _ | exact sameH_int _ _ _ | exact sameH_bool _ _ | exact sh_sym _ _ _ _ _ | refine sameH_sel ?_ _ | refine sameH_not ?_ _ | refine sameH_two ?_ ?_ _ | split | (simp only [forceN_eq]))
theorem exOp_sameH {op : KOp} (hk : kindOf op = 1) : SameH h (exOp g D cf op e h) := by
  cases op <;> simp only [kindOf] at hk <;> (try (cases hk; done)) <;> simp only [exOp] <;>
    repeat' (first | exact sameH_bad | exact sameH_ok _ _ | exact sh_load1 _ _ | exact sh_loadn _ _ _ | exact sh_nilchk _ _ | exact sh_eql _ _ _ _ _ | exact sh_eqs _ _ _ _ _ | exact sh_un _ _ _ | exact sh_conv _ _ _ | exact sh_convStr _ _ | exact sh_slc _ _ _ _ _ _ | exact sh_slcs _ _ _ _ | exact sh_slca _ _ _ _ _ _ _ | exact sh_fadr _ _ _ | exact sh_fld1 _ _ _ | exact sh_fldn _ _ _ _ | exact sh_idxa _ _ _ _ | exact sh_idxaa _ _ _ _ _ | exact sh_idxs _ _ _ | exact sh_look _ _ _ _ _ _ | exact sh_ext _ _ _ | exact sh_len _ _ _ | exact sh_min _ _ _ | exact sh_max _ _ _ | exact sh_convBs _ _ | exact sh_bin _ _ _ _ _ | (refine sameH_w1 fun _ => ?_) | (refine sameH_wO fun _ => ?_) | split)
end
/-! alike -/
theorem beqK_eq {a b : IntKind} (h : beqK a b = true) : a = b := of_decide_eq_true h
theorem beqS_eq : ∀ {a b : SE}, beqS a b = true → a = b
  | .var i, b, h => by cases b <;> simp_all [beqS]
  | .lit n, b, h => by cases b <;> simp_all [beqS]
  | .op o k x y, b, h => by
    cases b with
    | op p l u v =>
      simp only [beqS, Bool.and_eq_true] at h
      obtain ⟨⟨⟨h1, h2⟩, h3⟩, h4⟩ := h
      rw [of_decide_eq_true h1, beqK_eq h2, beqS_eq h3, beqS_eq h4]
    | var i => simp [beqS] at h
    | lit n => simp [beqS] at h
mutual
theorem beqA_eq : ∀ {a b : AV}, beqA a b = true → a = b
  | .bool _, b, h => by cases b <;> simp_all [beqA]
  | .int _ _, b, h => by
    cases b <;> simp only [beqA, Bool.false_eq_true, Bool.and_eq_true, beq_iff_eq] at h
    rw [beqK_eq h.1, h.2]
  | .sym _ _, b, h => by
    cases b <;> simp only [beqA, Bool.false_eq_true, Bool.and_eq_true] at h
    rw [beqK_eq h.1, beqS_eq h.2]
  | .str _, b, h => by cases b <;> simp_all [beqA]
  | .nilp, b, h => by cases b <;> simp_all [beqA]
  | .ptr _ _, b, h => by cases b <;> simp_all [beqA]
  | .rptr x, b, h => by
    cases b <;> simp only [beqA, Bool.false_eq_true] at h
    rw [beqL_eq h]
  | .nils, b, h => by cases b <;> simp_all [beqA]
  | .sl _ _ _ _ _, b, h => by cases b <;> simp_all [beqA]
  | .rsl x _, b, h => by
    cases b <;> simp only [beqA, Bool.false_eq_true, Bool.and_eq_true, beq_iff_eq] at h
    rw [beqL_eq h.2, h.1]
  | .nilm, b, h => by cases b <;> simp_all [beqA]
  | .map _, b, h => by cases b <;> simp_all [beqA]
  | .func _ x y, b, h => by
    cases b <;> simp only [beqA, Bool.false_eq_true, Bool.and_eq_true, beq_iff_eq] at h
    rw [h.1.1, beqL_eq h.1.2, beqL_eq h.2]
  | .nilf, b, h => by cases b <;> simp_all [beqA]
  | .iface _ x, b, h => by
    cases b <;> simp only [beqA, Bool.false_eq_true, Bool.and_eq_true, beq_iff_eq] at h
    rw [h.1, beqA_eq h.2]
  | .nili, b, h => by cases b <;> simp_all [beqA]
  | .agg x, b, h => by
    cases b <;> simp only [beqA, Bool.false_eq_true] at h
    rw [beqL_eq h]
  | .tup x, b, h => by
    cases b <;> simp only [beqA, Bool.false_eq_true] at h
    rw [beqL_eq h]
theorem beqL_eq : ∀ {a b : List AV}, beqL a b = true → a = b
  | [], b, h => by cases b <;> simp_all [beqL]
  | x :: l, b, h => by
    cases b <;> simp only [beqL, Bool.false_eq_true, Bool.and_eq_true] at h
    rw [beqA_eq h.1, beqL_eq h.2]
end
end Go.KM
