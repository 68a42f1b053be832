/-
  Runs of the small machine without a count of steps; and the same, read off the code's structure, what follows handed on ('cps').
-/
import Derived.Test.YtffpkcmcoppbmaaGreatDoorKLst
namespace Go.KM

/-! what a row of tries comes to -/
open Classical in
noncomputable def evR (f : Nat → R AV) : R AV := if H : ∃ n, f n ≠ .bad then f (Classical.choose H) else .bad
open Classical in
noncomputable def evO' (f : Nat → Out) : Out := if H : ∃ n, f n ≠ .bad then f (Classical.choose H) else .bad
def MonoR (f : Nat → R AV) : Prop := ∀ n m, n ≤ m → f n ≠ .bad → f m = f n
def MonoO (f : Nat → Out) : Prop := ∀ n m, n ≤ m → f n ≠ .bad → f m = f n
theorem evR_of {f : Nat → R AV} (hm : MonoR f) {n : Nat} (h : f n ≠ .bad) : evR f = f n := by
  have H : ∃ n, f n ≠ .bad := ⟨n, h⟩
  unfold evR
  rw [dif_pos H]
  have hc := Classical.choose_spec H
  rcases Nat.le_total n (Classical.choose H) with hl | hl
  · exact hm _ _ hl h
  · exact (hm _ _ hl hc).symm
theorem evR_ex {f : Nat → R AV} (hm : MonoR f) (h : evR f ≠ .bad) : ∃ n, ∀ m, n ≤ m → f m = evR f := by
  unfold evR at h ⊢
  split at h
  · rename_i H
    refine ⟨Classical.choose H, fun m hle => ?_⟩
    rw [dif_pos H]
    exact hm _ _ hle (Classical.choose_spec H)
  · exact absurd rfl h
theorem evO_of {f : Nat → Out} (hm : MonoO f) {n : Nat} (h : f n ≠ .bad) : evO' f = f n := by
  have H : ∃ n, f n ≠ .bad := ⟨n, h⟩
  unfold evO'
  rw [dif_pos H]
  have hc := Classical.choose_spec H
  rcases Nat.le_total n (Classical.choose H) with hl | hl
  · exact hm _ _ hl h
  · exact (hm _ _ hl hc).symm
theorem evO_ex {f : Nat → Out} (hm : MonoO f) (h : evO' f ≠ .bad) : ∃ n, ∀ m, n ≤ m → f m = evO' f := by
  unfold evO' at h ⊢
  split at h
  · rename_i H
    refine ⟨Classical.choose H, fun m hle => ?_⟩
    rw [dif_pos H]
    exact hm _ _ hle (Classical.choose_spec H)
  · exact absurd rfl h

/-! more of what is known, more of what is called: no other result -/
/-- What is known in the one is known in the other. -/
def LeE (e e' : Env) : Prop := ∀ t v, e.get t = some v → e'.get t = some v
theorem LeE.refl (e : Env) : LeE e e := fun _ _ h => h
theorem LeE.trans {a b c : Env} (h : LeE a b) (k : LeE b c) : LeE a c := fun t v e => k t v (h t v e)
theorem LeE.set {e e' : Env} (h : LeE e e') (t : Nat) (v : AV) : LeE (e.set t v) (e'.set t v) := fun s u he => by
  rw [PT.get_set] at he ⊢
  by_cases hs : s = t
  · rw [if_pos hs] at he ⊢; exact he
  · rw [if_neg hs] at he ⊢; exact h s u he
theorem LeE.putD {e e' : Env} (h : LeE e e') (d : Option Nat) (v : AV) : LeE (putD d v e) (putD d v e') := by
  cases d with
  | none => exact h
  | some d => exact h.set d v
/-- A way in which one may know more than another. -/
structure ER (E : Env → Env → Prop) : Prop where
  le : ∀ {e e'}, E e e' → LeE e e'
  set : ∀ {e e'} (t : Nat) (v : AV), E e e' → E (e.set t v) (e'.set t v)
theorem ER.leE : ER LeE := ⟨fun h => h, fun t v h => h.set t v⟩
theorem ER.eq : ER Eq := ⟨fun h => h ▸ LeE.refl _, fun _ _ h => by rw [h]⟩
theorem ER.putD {E : Env → Env → Prop} (hE : ER E) {e e' : Env} (h : E e e') (d : Option Nat) (v : AV) : E (putD d v e) (putD d v e') := by
  cases d with
  | none => exact h
  | some d => exact hE.set d v h
abbrev CF := Nat → List AV → AH → R AV
def LeF (cf cf' : CF) : Prop := ∀ f vs h, cf f vs h ≠ .bad → cf' f vs h = cf f vs h
theorem LeF.refl (cf : CF) : LeF cf cf := fun _ _ _ _ => rfl
section
variable {g : Nat → Option AV} {D : BinOp → SE → SE → Option Bool} {cf cf' : CF} {e e' : Env} {h : AH}
def LeO {α : Type} (a b : Option α) : Prop := ∀ v, a = some v → b = some v
theorem LeO.refl {α : Type} (a : Option α) : LeO a a := fun _ h => h
theorem evX_le (he : LeE e e') (x : KX) : LeO (evX g e x) (evX g e' x) := fun v h => by
  cases x with
  | t n => exact he n v h
  | c v => exact h
  | g n => exact h
theorem evXs_le (he : LeE e e') : ∀ xs : List KX, LeO (evXs g e xs) (evXs g e' xs)
  | [], v, h => h
  | x :: xs, v, h => by
    have e1 : ∀ e : Env, evXs g e (x :: xs) = (match evX g e x with
      | some v => Option.rec (motive := fun _ => Option (List AV)) none (fun vs => some (v :: vs)) (evXs g e xs)
      | none => none) := fun _ => rfl
    rw [e1] at h ⊢
    cases hx : evX g e x with
    | none => rw [hx] at h; cases h
    | some u =>
      cases hs : evXs g e xs with
      | none => rw [hx, hs] at h; cases h
      | some us => rw [evX_le he x u hx, evXs_le he xs us hs]; rw [hx, hs] at h; exact h
theorem evPs_le (he : LeE e e') : ∀ xs : List (Nat × Nat × KX), LeO (evPs g e xs) (evPs g e' xs)
  | [], v, h => h
  | x :: xs, v, h => by
    have e1 : ∀ e : Env, evPs g e (x :: xs) = (match evX g e x.2.2 with
      | some v => Option.rec (motive := fun _ => Option (List (Nat × Nat × AV))) none (fun vs => some ((x.1, x.2.1, v) :: vs)) (evPs g e xs)
      | none => none) := fun _ => rfl
    rw [e1] at h ⊢
    cases hx : evX g e x.2.2 with
    | none => rw [hx] at h; cases h
    | some u =>
      cases hs : evPs g e xs with
      | none => rw [hx, hs] at h; cases h
      | some us => rw [evX_le he x.2.2 u hx, evPs_le he xs us hs]; rw [hx, hs] at h; exact h
theorem evO_le (he : LeE e e') (x : Option KX) : LeO (evO g e x) (evO g e' x) := fun v h => by
  cases x with
  | none => exact h
  | some x =>
    have e1 : ∀ e : Env, evO g e (some x) = (match evX g e x with
      | some v => some (some v)
      | none => none) := fun _ => rfl
    rw [e1] at h ⊢
    cases hx : evX g e x with
    | none => rw [hx] at h; cases h
    | some u => rw [evX_le he x u hx]; rw [hx] at h; exact h
def LeR (a b : R AV) : Prop := a ≠ .bad → b = a
theorem LeR.refl (a : R AV) : LeR a a := fun _ => rfl
theorem w1_le {a b : Option AV} {k k' : AV → R AV} (ha : LeO a b) (hk : ∀ v, LeR (k v) (k' v)) : LeR (w1 a k) (w1 b k') := fun hb => by
  cases a with
  | none => exact absurd rfl hb
  | some v => rw [ha v rfl]; exact hk v hb
theorem wO_le {a b : Option (Option AV)} {k k' : Option AV → R AV} (ha : LeO a b) (hk : ∀ v, LeR (k v) (k' v)) : LeR (wO a k) (wO b k') := fun hb => by
  cases a with
  | none => exact absurd rfl hb
  | some v => rw [ha v rfl]; exact hk v hb
theorem opt_le {α : Type} {a b : Option α} (F F' : Option α → R AV) (h0 : F none = .bad) (hk : ∀ v, LeR (F (some v)) (F' (some v))) (ha : LeO a b) : LeR (F a) (F' b) := fun hb => by
  cases a with
  | none => exact absurd h0 hb
  | some v => have := ha v rfl; subst this; exact hk v hb
theorem exOp_le (he : LeE e e') (hc : LeF cf cf') (op : KOp) : LeR (exOp g D cf op e h) (exOp g D cf' op e' h) := by
  cases op with
  | build z ps =>
    exact opt_le (fun o => match o with | some ps => (match fill z ps with | some cs => .ok (.agg cs) h | none => .bad) | none => .bad)
      (fun o => match o with | some ps => (match fill z ps with | some cs => .ok (.agg cs) h | none => .bad) | none => .bad) rfl (fun ps => LeR.refl _) (evPs_le he ps)
  | bslice s z n ps =>
    exact opt_le (fun o => match o with | some ps => (match fill z ps with | some cs => .ok (.sl h.next 0 n s (some n)) (newBlk (.cells cs) h) | none => .bad) | none => .bad)
      (fun o => match o with | some ps => (match fill z ps with | some cs => .ok (.sl h.next 0 n s (some n)) (newBlk (.cells cs) h) | none => .bad) | none => .bad) rfl (fun ps => LeR.refl _) (evPs_le he ps)
  | mkfn f a c =>
    intro hb
    show (match evXs g e' a, evXs g e' c with
      | some a, some c => R.ok (AV.func f a c) h
      | _, _ => .bad) = (match evXs g e a, evXs g e c with
      | some a, some c => R.ok (AV.func f a c) h
      | _, _ => .bad)
    replace hb : (match evXs g e a, evXs g e c with
      | some a, some c => R.ok (AV.func f a c) h
      | _, _ => .bad) ≠ .bad := hb
    cases ha : evXs g e a with
    | none => rw [ha] at hb; exact absurd rfl hb
    | some va =>
      cases hc : evXs g e c with
      | none => rw [ha, hc] at hb; exact absurd rfl hb
      | some vc => rw [evXs_le he a va ha, evXs_le he c vc hc]
  | call f args => exact opt_le (fun o => match o with | some vs => cf f vs h | none => .bad) (fun o => match o with | some vs => cf' f vs h | none => .bad) rfl (fun vs => hc f vs h) (evXs_le he args)
  | callv x args =>
    refine w1_le (evX_le he x) fun v => ?_
    cases v with
    | func f a c => exact opt_le (fun o => match o with | some vs => cf f (app a (app vs c)) h | none => .bad) (fun o => match o with | some vs => cf' f (app a (app vs c)) h | none => .bad) rfl (fun vs => hc f _ h) (evXs_le he args)
    | _ => exact LeR.refl _
  | pick c a b =>
    refine w1_le (evX_le he c) fun v => ?_
    cases v with
    | bool b' => cases b' <;> exact w1_le (evX_le he _) fun _ => LeR.refl _
    | _ => exact LeR.refl _
  | _ =>
    first
    | exact LeR.refl _
    | exact w1_le (evX_le he _) fun _ => LeR.refl _
    | exact w1_le (evX_le he _) fun _ => w1_le (evX_le he _) fun _ => LeR.refl _
    | exact w1_le (evX_le he _) fun _ => w1_le (evX_le he _) fun _ => w1_le (evX_le he _) fun _ => LeR.refl _
    | exact w1_le (evX_le he _) fun _ => wO_le (evO_le he _) fun _ => wO_le (evO_le he _) fun _ => LeR.refl _
    | exact w1_le (evX_le he _) fun _ => wO_le (evO_le he _) fun _ => wO_le (evO_le he _) fun _ => wO_le (evO_le he _) fun _ => LeR.refl _
theorem wants_le (he : LeE e e') (gd : Option (Nat × Bool)) : LeO (wants gd e) (wants gd e') := fun c h => by
  cases gd with
  | none => exact h
  | some p =>
    obtain ⟨t, b⟩ := p
    have e1 : ∀ e : Env, wants (some (t, b)) e = (match e.get t with
      | some (.bool c) => some (Bool.rec (Bool.not c) c b)
      | some (.tup _) => some false
      | _ => none) := fun _ => rfl
    rw [e1] at h ⊢
    cases ht : e.get t with
    | none => rw [ht] at h; cases h
    | some v => rw [he t v ht]; rw [ht] at h; exact h
theorem pendOk_le (he : LeE e e') (hc : LeF cf cf') (k : Nat) (ps : List Pend) (hp : pendOk g D cf e h k ps = true) : pendOk g D cf' e' h k ps = true := by
  unfold pendOk at hp ⊢
  rw [allB_iff] at hp ⊢
  intro p hm
  have h1 := hp p hm
  cases hb : Nat.ble k p.hi with
  | false => rfl
  | true =>
    rw [hb] at h1
    replace h1 : p.ok g D cf e h = true := h1
    show p.ok g D cf' e' h = true
    cases p with
    | made hi b cs => exact h1
    | reads hi op v =>
      have e1 : ∀ (cf : CF) (e : Env), Pend.ok g D cf e h (.reads hi op v) = (match exOp g D cf op e h with
        | .ok u _ => beqA u v
        | _ => false) := fun _ _ => rfl
      rw [e1] at h1 ⊢
      have hx := exOp_le (g := g) (D := D) (h := h) he hc op
      cases hr : exOp g D cf op e h with
      | bad => rw [hr] at h1; cases h1
      | pan v h' => rw [hr] at h1; cases h1
      | ok u h' =>
        have := hx (by rw [hr]; simp)
        rw [this, hr]; rw [hr] at h1; exact h1
/-- What code comes to, with more known. -/
inductive LeRE (E : Env → Env → Prop) : RE → RE → Prop
  | bad (r : RE) : LeRE E .bad r
  | ok (e e' : Env) (h : AH) (he : E e e') : LeRE E (.ok e h) (.ok e' h)
  | pan (v : AV) (e e' : Env) (h : AH) (he : E e e') : LeRE E (.pan v e h) (.pan v e' h)
inductive LeOut (E : Env → Env → Prop) : Out → Out → Prop
  | bad (r : Out) : LeOut E .bad r
  | norm (e e' : Env) (h : AH) (he : E e e') : LeOut E (.norm e h) (.norm e' h)
  | exit (i : Nat) (e e' : Env) (h : AH) (he : E e e') : LeOut E (.exit i e h) (.exit i e' h)
  | ret (e e' : Env) (h : AH) (he : E e e') : LeOut E (.ret e h) (.ret e' h)
  | pan (v : AV) (e e' : Env) (h : AH) (he : E e e') : LeOut E (.pan v e h) (.pan v e' h)
section
variable {E : Env → Env → Prop}
theorem exOper_le (hE : ER E) (he : E e e') (hc : LeF cf cf') (o : KOper) : LeRE E (exOper g D cf o e h) (exOper g D cf' o e' h) := by
  have e1 : ∀ (cf : CF) (e : Env), exOper g D cf o e h = (match wants o.guard e with
    | none => .bad
    | some false => .ok (putD o.dst (.tup []) e) h
    | some true => match exOp g D cf o.op e h with
      | .ok v h => .ok (putD o.dst v e) h
      | .pan v h => .pan v e h
      | .bad => .bad) := fun _ _ => rfl
  rw [e1, e1]
  cases hw : wants o.guard e with
  | none => exact .bad _
  | some c =>
    rw [wants_le (hE.le he) o.guard c hw]
    cases c with
    | false => exact .ok _ _ _ (hE.putD he _ _)
    | true =>
      dsimp only
      have hx := exOp_le (g := g) (D := D) (h := h) (hE.le he) hc o.op
      cases hr : exOp g D cf o.op e h with
      | bad => exact .bad _
      | pan v h' => rw [hx (by rw [hr]; simp), hr]; exact .pan _ _ _ _ he
      | ok v h' => rw [hx (by rw [hr]; simp), hr]; exact .ok _ _ _ (hE.putD he _ _)
theorem exOpers_le (hE : ER E) (hc : LeF cf cf') : ∀ (l : List KOper) {e e' : Env} {h : AH}, E e e' → LeRE E (exOpers g D cf l e h) (exOpers g D cf' l e' h)
  | [], _, _, _, he => .ok _ _ _ he
  | o :: l, e, e', h, he => by
    have e1 : ∀ (cf : CF) (e : Env), exOpers g D cf (o :: l) e h = (match exOper g D cf o e h with
      | .ok e h => exOpers g D cf l e h
      | r => r) := fun _ _ => rfl
    rw [e1, e1]
    have hx := exOper_le hE (g := g) (D := D) (h := h) he hc o
    revert hx
    generalize exOper g D cf o e h = r
    generalize exOper g D cf' o e' h = r'
    intro hx
    cases hx with
    | bad => exact .bad _
    | ok _ _ _ he => exact exOpers_le hE hc l he
    | pan v _ _ _ he => exact .pan _ _ _ _ he
theorem selRE_le {c c' : Bool} {r r' : RE} (hc : c = true → c' = true) (hr : LeRE E r r') : LeRE E (Bool.rec (motive := fun _ => RE) .bad r c) (Bool.rec (motive := fun _ => RE) .bad r' c') := by
  cases c with
  | false => exact .bad _
  | true => rw [hc rfl]; exact hr
theorem exDr_le (hE : ER E) (hc : LeF cf cf') : ∀ (l : List KDr) {k : Nat} {ps : List Pend} {e e' : Env} {h : AH}, E e e' → LeRE E (exDr g D cf l k ps e h) (exDr g D cf' l k ps e' h)
  | [], k, ps, e, e', h, he => selRE_le (pendOk_le (hE.le he) hc k ps) (.ok _ _ _ he)
  | d :: l, k, ps, e, e', h, he => by
    have e1 : ∀ (cf : CF) (e : Env), exDr g D cf (d :: l) k ps e h = (match wants d.o.guard e with
      | none => .bad
      | some false => Bool.rec (motive := fun _ => RE) (exDr g D cf l k ps (putD d.o.dst (.tup []) e) h)
          (Bool.rec (motive := fun _ => RE) .bad (exDr g D cf l (Nat.succ k) ps (putD d.o.dst (.tup []) e) h) (pendOk g D cf e h k ps)) (Nat.beq d.kind 3)
      | some true => Bool.rec (motive := fun _ => RE)
          (match exOp g D cf d.o.op e h with
          | .ok v h' => Bool.rec (motive := fun _ => RE)
              (exDr g D cf l k (.reads d.hi d.o.op v :: ps) (putD d.o.dst v e) h)
              (match cellsAt h.next h' with
              | some cs => exDr g D cf l k (.made d.hi h.next cs :: ps) (putD d.o.dst v e) h'
              | none => .bad) (Nat.beq d.kind 2)
          | _ => .bad)
          (Bool.rec (motive := fun _ => RE) .bad
            (match exOp g D cf d.o.op e h with
            | .ok v h' => exDr g D cf l (Nat.succ k) ps (putD d.o.dst v e) h'
            | _ => .bad) (pendOk g D cf e h k ps)) (Nat.beq d.kind 3)) := fun _ _ => rfl
    rw [e1, e1]
    cases hw : wants d.o.guard e with
    | none => exact .bad _
    | some c =>
      rw [wants_le (hE.le he) d.o.guard c hw]
      have hx := exOp_le (g := g) (D := D) (h := h) (hE.le he) hc d.o.op
      cases c with
      | false =>
        dsimp only
        cases Nat.beq d.kind 3 with
        | false => exact exDr_le hE hc l (hE.putD he _ _)
        | true => exact selRE_le (pendOk_le (hE.le he) hc k ps) (exDr_le hE hc l (hE.putD he _ _))
      | true =>
        dsimp only
        cases hr : exOp g D cf d.o.op e h with
        | bad => cases Nat.beq d.kind 3 with
          | false => exact .bad _
          | true => show LeRE E (Bool.rec (motive := fun _ => RE) .bad .bad (pendOk g D cf e h k ps)) _; cases pendOk g D cf e h k ps <;> exact .bad _
        | pan v h' => cases Nat.beq d.kind 3 with
          | false => exact .bad _
          | true => show LeRE E (Bool.rec (motive := fun _ => RE) .bad .bad (pendOk g D cf e h k ps)) _; cases pendOk g D cf e h k ps <;> exact .bad _
        | ok v h' =>
          rw [hx (by rw [hr]; simp), hr]
          dsimp only
          cases Nat.beq d.kind 3 with
          | true => exact selRE_le (pendOk_le (hE.le he) hc k ps) (exDr_le hE hc l (hE.putD he _ _))
          | false =>
            cases Nat.beq d.kind 2 with
            | false => exact exDr_le hE hc l (hE.putD he _ _)
            | true =>
              dsimp only
              cases cellsAt h.next h' with
              | none => exact .bad _
              | some cs => exact exDr_le hE hc l (hE.putD he _ _)
end
theorem resOf_le (he : LeE e e') (r : KRes) : LeO (resOf e h r) (resOf e' h r) := fun v hv => by
  cases r with
  | tmp t => exact he t v hv
  | cell1 t =>
    replace hv : (match e.get t with
      | some a => match xload1 a h with
        | .ok v _ => some v
        | _ => none
      | none => none) = some v := hv
    show (match e'.get t with
      | some a => match xload1 a h with
        | .ok v _ => some v
        | _ => none
      | none => none) = some v
    cases ht : e.get t with
    | none => rw [ht] at hv; cases hv
    | some u => rw [he t u ht]; rw [ht] at hv; exact hv
  | celln t n =>
    replace hv : (match e.get t with
      | some a => match xloadn n a h with
        | .ok v _ => some v
        | _ => none
      | none => none) = some v := hv
    show (match e'.get t with
      | some a => match xloadn n a h with
        | .ok v _ => some v
        | _ => none
      | none => none) = some v
    cases ht : e.get t with
    | none => rw [ht] at hv; cases hv
    | some u => rw [he t u ht]; rw [ht] at hv; exact hv
theorem ressOf_le (he : LeE e e') : ∀ l : List KRes, LeO (ressOf e h l) (ressOf e' h l)
  | [], v, hv => hv
  | r :: l, v, hv => by
    have e1 : ∀ e : Env, ressOf e h (r :: l) = (match resOf e h r with
      | some v => Option.rec (motive := fun _ => Option (List AV)) none (fun vs => some (v :: vs)) (ressOf e h l)
      | none => none) := fun _ => rfl
    rw [e1] at hv ⊢
    cases hx : resOf e h r with
    | none => rw [hx] at hv; cases hv
    | some u =>
      cases hs : ressOf e h l with
      | none => rw [hx, hs] at hv; cases hv
      | some us => rw [resOf_le he r u hx, ressOf_le he l us hs]; rw [hx, hs] at hv; exact hv
theorem resV_le (he : LeE e e') (l : List KRes) : LeR (resV e h l) (resV e' h l) := fun hb => by
  unfold resV at hb ⊢
  cases hr : ressOf e h l with
  | none => rw [hr] at hb; exact absurd rfl hb
  | some vs => rw [ressOf_le he l vs hr]
end

section
variable {E : Env → Env → Prop} (K : KP KF) {c : KC} {e : Env} {h : AH} {f : Nat} {vs : List AV}
/-- A function's end. -/
noncomputable def finish (l : List KRes) (o : Out) : R AV := match o with
  | .norm e h => resV e h l
  | .ret e h => resV e h l
  | .pan v _ h => .pan v h
  | _ => .bad
theorem callF_eq (run : KC → Env → AH → Out) (f : Nat) (vs : List AV) (h : AH) : callF K run f vs h = match K.F f with
  | none => match K.pr f with
    | some p => p vs h
    | none => .bad
  | some fn => finish fn.res (run fn.body (envOf vs) h) := rfl
theorem finish_le (hE : ER E) {l : List KRes} {o o' : Out} (h : LeOut E o o') : LeR (finish l o) (finish l o') := by
  cases h with
  | bad => exact fun hb => absurd rfl hb
  | norm _ _ _ he => exact resV_le (hE.le he) l
  | exit _ _ _ _ _ => exact fun hb => absurd rfl hb
  | ret _ _ _ he => exact resV_le (hE.le he) l
  | pan _ _ _ _ _ => exact LeR.refl _
theorem reOut_le {r r' : RE} (h : LeRE E r r') : LeOut E (reOut r) (reOut r') := by
  cases h with
  | bad => exact .bad _
  | ok _ _ _ he => exact .norm _ _ _ he
  | pan _ _ _ _ he => exact .pan _ _ _ _ he
theorem thenO_le {o o' : Out} {k k' : Env → AH → Out} (ho : LeOut E o o') (hk : ∀ e e' h, E e e' → LeOut E (k e h) (k' e' h)) : LeOut E (thenO o k) (thenO o' k') := by
  cases ho with
  | bad => exact .bad _
  | norm _ _ _ he => exact hk _ _ _ he
  | exit _ _ _ _ he => exact .exit _ _ _ _ he
  | ret _ _ _ he => exact .ret _ _ _ he
  | pan _ _ _ _ he => exact .pan _ _ _ _ he
theorem inBlk_le {o o' : Out} (id : Nat) (ho : LeOut E o o') : LeOut E (inBlk id o) (inBlk id o') := by
  cases ho with
  | bad => exact .bad _
  | norm _ _ _ he => exact .norm _ _ _ he
  | exit i e e' h he =>
    show LeOut E (Bool.rec (motive := fun _ => Out) (.exit i e h) (.norm e h) (Nat.beq i id)) (Bool.rec (motive := fun _ => Out) (.exit i e' h) (.norm e' h) (Nat.beq i id))
    cases Nat.beq i id with
    | false => exact .exit _ _ _ _ he
    | true => exact .norm _ _ _ he
  | ret _ _ _ he => exact .ret _ _ _ he
  | pan _ _ _ _ he => exact .pan _ _ _ _ he
def LeRun (E : Env → Env → Prop) (run run' : KC → Env → AH → Out) : Prop := ∀ c e e' h, E e e' → LeOut E (run c e h) (run' c e' h)
theorem callF_le (hE : ER E) (hrfl : ∀ e, E e e) {run run' : KC → Env → AH → Out} (hr : LeRun E run run') : LeF (callF K run) (callF K run') := fun f vs h hb => by
  rw [callF_eq] at hb ⊢
  rw [callF_eq]
  cases hf : K.F f with
  | none => rfl
  | some fn => rw [hf] at hb; exact finish_le hE (hr _ _ _ _ (hrfl _)) hb
theorem stepC_le (hE : ER E) (hrfl : ∀ e, E e e) {run run' : KC → Env → AH → Out} (hr : LeRun E run run') : LeRun E (stepC K run) (stepC K run') := fun c e e' h he => by
  cases c with
  | skip => exact .norm _ _ _ he
  | rgn l => exact reOut_le (exOpers_le hE (callF_le K hE hrfl hr) l he)
  | drw l => exact reOut_le (exDr_le hE (callF_le K hE hrfl hr) l he)
  | seq a b => exact thenO_le (hr _ _ _ _ he) fun _ _ _ he => hr _ _ _ _ he
  | cond x a b =>
    show LeOut E (match evX K.g e x with
      | some (.bool true) => run a e h
      | some (.bool false) => run b e h
      | _ => .bad) (match evX K.g e' x with
      | some (.bool true) => run' a e' h
      | some (.bool false) => run' b e' h
      | _ => .bad)
    cases hx : evX K.g e x with
    | none => exact .bad _
    | some v =>
      rw [evX_le (hE.le he) x v hx]
      cases v with
      | bool b => cases b <;> exact hr _ _ _ _ he
      | _ => exact .bad _
  | block id b => exact inBlk_le id (hr _ _ _ _ he)
  | loop b => exact thenO_le (hr _ _ _ _ he) fun _ _ _ he => hr _ _ _ _ he
  | exit id => exact .exit _ _ _ _ he
  | ret => exact .ret _ _ _ he
theorem runC_succ (n : Nat) : runC K (n + 1) = stepC K (runC K n) := rfl
theorem runC_le (hE : ER E) (hrfl : ∀ e, E e e) : ∀ n, LeRun E (runC K n) (runC K (n + 1))
  | 0 => fun _ _ _ _ _ => .bad _
  | n + 1 => by rw [runC_succ K (n + 1)]; exact stepC_le K hE hrfl (runC_le hE hrfl n)
theorem LeOut.eqs {o o' : Out} (h : LeOut Eq o o') (hb : o ≠ .bad) : o' = o := by
  cases h with
  | bad => exact absurd rfl hb
  | norm _ _ _ he => rw [he]
  | exit _ _ _ _ he => rw [he]
  | ret _ _ _ he => rw [he]
  | pan _ _ _ _ he => rw [he]
theorem runC_mono : MonoO (fun n => runC K n c e h) := by
  have h1 : ∀ n, runC K n c e h ≠ .bad → runC K (n + 1) c e h = runC K n c e h := fun n hb => (runC_le K ER.eq (fun _ => rfl) n c e e h rfl).eqs hb
  intro n m hle hb
  show runC K m c e h = runC K n c e h
  replace hb : runC K n c e h ≠ .bad := hb
  induction hle with
  | refl => rfl
  | step hle ih => exact (h1 _ (by rw [ih]; exact hb)).trans ih
theorem callC_mono : MonoR (fun n => callC K n f vs h) := by
  have h1 : ∀ n, callC K n f vs h ≠ .bad → callC K (n + 1) f vs h = callC K n f vs h := fun n hb => callF_le K ER.eq (fun _ => rfl) (runC_le K ER.eq (fun _ => rfl) n) f vs h hb
  intro n m hle hb
  show callC K m f vs h = callC K n f vs h
  replace hb : callC K n f vs h ≠ .bad := hb
  induction hle with
  | refl => rfl
  | step hle ih => exact (h1 _ (by rw [ih]; exact hb)).trans ih
end
end Go.KM
