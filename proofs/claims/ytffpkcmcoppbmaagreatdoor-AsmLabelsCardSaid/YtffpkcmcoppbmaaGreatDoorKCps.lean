/-
  A run, read off the code's structure; what follows is handed on; loops by a count of rounds; at a loop's head only what is alive is kept.
-/
import Derived.Test.YtffpkcmcoppbmaaGreatDoorKEval
namespace Go.KM

/-- Code whose loops tell what is alive at their heads. -/
inductive KA where
  | skip
  | rgn (l : List KOper)
  | drw (l : List KDr)
  | seq (a b : KA)
  | cond (c : KX) (a b : KA)
  | block (id : Nat) (b : KA)
  | loop (live : List Nat) (b : KA)
  | exit (id : Nat)
  | ret
  deriving Inhabited
noncomputable def KA.era (c : KA) : KC := KA.rec (motive := fun _ => KC) .skip (fun l => .rgn l) (fun l => .drw l) (fun _ _ a b => .seq a b) (fun x _ _ a b => .cond x a b) (fun i _ b => .block i b) (fun _ _ b => .loop b) (fun i => .exit i) .ret c

noncomputable def bdp (r : R AV) (k p : AV → AH → R AV) : R AV := R.rec (motive := fun _ => R AV) k p .bad r
noncomputable def bd (r : R AV) (k : AV → AH → R AV) : R AV := bdp r k fun v h => .pan v h
noncomputable def bdn (r : R AV) (k : AV → AH → R AV) : R AV := bdp r k fun _ _ => .bad
noncomputable def gdo (w : Option Bool) (x y : R AV) : R AV := match w with
  | none => .bad
  | some false => y
  | some true => x
noncomputable def wv (b : Bool) (v : AV) : Option Bool := match v with
  | .bool c => some (Bool.rec (motive := fun _ => Bool) (Bool.not c) c b)
  | .tup _ => some false
  | _ => none
noncomputable def wants' (gd : Option (Nat × Bool)) (e : Env) : Option Bool := match gd with
  | none => some true
  | some (t, b) => Option.rec (motive := fun _ => Option Bool) none (fun v => wv b v) (e.get t)
theorem wants'_eq (gd : Option (Nat × Bool)) (e : Env) : wants' gd e = wants gd e := by
  cases gd with
  | none => rfl
  | some p =>
    obtain ⟨t, b⟩ := p
    unfold wants' wants
    dsimp only
    cases e.get t with
    | none => rfl
    | some v => cases v <;> rfl
noncomputable def ck (b : Bool) (x : R AV) : R AV := Bool.rec (motive := fun _ => R AV) .bad x b
noncomputable def oc (o : Option (List AV)) (k : List AV → R AV) : R AV := Option.rec (motive := fun _ => R AV) .bad k o
noncomputable def cB (v : AV) (x y : R AV) : R AV := match v with
  | .bool c => Bool.rec (motive := fun _ => R AV) y x c
  | _ => .bad
noncomputable def un (vs : List AV) (k : AV → List AV → R AV) : R AV := List.rec (motive := fun _ => R AV) .bad (fun v r _ => k v r) vs
noncomputable def nl (vs : List AV) (x : R AV) : R AV := List.rec (motive := fun _ => R AV) x (fun _ _ _ => .bad) vs
noncomputable def withL (live : List Nat) (e : Env) : (List AV → R AV) → R AV :=
  List.rec (motive := fun _ => (List AV → R AV) → R AV) (fun k => k []) (fun t _ ih k => Option.rec (motive := fun _ => R AV) .bad (fun v => ih fun vs => k (v :: vs)) (e.get t)) live
noncomputable def litE (live : List Nat) : List AV → Env → (Env → R AV) → R AV :=
  List.rec (motive := fun _ => List AV → Env → (Env → R AV) → R AV) (fun vs e k => nl vs (k e)) (fun t _ ih vs e k => un vs fun v r => ih r (e.set t v) k) live

section
variable (g : Nat → Option AV) (D : BinOp → SE → SE → Option Bool) (cf : CF) (N : Nat)
noncomputable def opR (o : KOper) (e : Env) (h : AH) : R AV := gdo (wants' o.guard e) (exOp g D cf o.op e h) (.ok (.tup []) h)
noncomputable def cpsOps (l : List KOper) : Env → AH → (Env → AH → R AV) → R AV :=
  List.rec (motive := fun _ => Env → AH → (Env → AH → R AV) → R AV) (fun e h k => k e h)
    (fun o _ ih e h k => bd (opR g D cf o e h) fun v h' => ih (putD o.dst v e) h' k) l
noncomputable def cpsDr (l : List KDr) : Nat → List Pend → Env → AH → (Env → AH → R AV) → R AV :=
  List.rec (motive := fun _ => Nat → List Pend → Env → AH → (Env → AH → R AV) → R AV)
    (fun k ps e h κ => ck (pendOk g D cf e h k ps) (κ e h))
    (fun d _ ih k ps e h κ => gdo (wants' d.o.guard e)
      (Bool.rec (motive := fun _ => R AV)
        (Bool.rec (motive := fun _ => R AV)
          (bdn (exOp g D cf d.o.op e h) fun v _ => ih k (.reads d.hi d.o.op v :: ps) (putD d.o.dst v e) h κ)
          (bdn (exOp g D cf d.o.op e h) fun v h' => oc (cellsAt h.next h') fun cs => ih k (.made d.hi h.next cs :: ps) (putD d.o.dst v e) h' κ)
          (Nat.beq d.kind 2))
        (ck (pendOk g D cf e h k ps) (bdn (exOp g D cf d.o.op e h) fun v h' => ih (Nat.succ k) ps (putD d.o.dst v e) h' κ))
        (Nat.beq d.kind 3))
      (Bool.rec (motive := fun _ => R AV) (ih k ps (putD d.o.dst (.tup []) e) h κ) (ck (pendOk g D cf e h k ps) (ih (Nat.succ k) ps (putD d.o.dst (.tup []) e) h κ)) (Nat.beq d.kind 3))) l
/-- 'kn', 'kx', 'kr': what follows at the end, at an exit, at a return. -/
noncomputable def cps (c : KA) : Env → AH → (Env → AH → R AV) → (Nat → Env → AH → R AV) → (Env → AH → R AV) → R AV :=
  KA.rec (motive := fun _ => Env → AH → (Env → AH → R AV) → (Nat → Env → AH → R AV) → (Env → AH → R AV) → R AV)
    (fun e h kn _ _ => kn e h)
    (fun l e h kn _ _ => cpsOps g D cf l e h kn)
    (fun l e h kn _ _ => cpsDr g D cf l 0 [] e h kn)
    (fun _ _ ia ib e h kn kx kr => ia e h (fun e h => ib e h kn kx kr) kx kr)
    (fun x _ _ ia ib e h kn kx kr => Option.rec (motive := fun _ => R AV) .bad (fun v => cB v (ia e h kn kx kr) (ib e h kn kx kr)) (evX g e x))
    (fun id _ ib e h kn kx kr => ib e h kn (fun i e h => Bool.rec (motive := fun _ => R AV) (kx i e h) (kn e h) (Nat.beq i id)) kr)
    (fun live _ ib e h _ kx kr => withL live e fun vs => Nat.rec (motive := fun _ => List AV → AH → R AV) (fun _ _ => .bad)
      (fun _ ih vs h => litE live vs .leaf fun e => ib e h (fun e' h' => withL live e' fun vs' => ih vs' h') kx kr) N vs h)
    (fun id e h _ kx _ => kx id e h)
    (fun e h _ _ kr => kr e h) c
end

/-! what it says of runs -/
section
variable {K : KP KF} {g : Nat → Option AV} {D : BinOp → SE → SE → Option Bool} {cf : CF}
theorem LeR.trans {a b c : R AV} (x : LeR a b) (y : LeR b c) : LeR a c := fun ha => by
  have hb := x ha
  exact (y (by rw [hb]; exact ha)).trans hb
theorem LeR.bad (r : R AV) : LeR .bad r := fun h => absurd rfl h
noncomputable def KO (kn : Env → AH → R AV) (kx : Nat → Env → AH → R AV) (kr : Env → AH → R AV) (o : Out) : R AV := match o with
  | .norm e h => kn e h
  | .exit i e h => kx i e h
  | .ret e h => kr e h
  | .pan v _ h => .pan v h
  | .bad => .bad
def KK (k k' : Out → R AV) : Prop := ∀ o o', LeOut LeE o o' → LeR (k o) (k' o')
theorem cpsOps_eq {kn : Env → AH → R AV} {kx : Nat → Env → AH → R AV} {kr : Env → AH → R AV} : ∀ (l : List KOper) (e : Env) (h : AH), cpsOps g D cf l e h kn = KO kn kx kr (reOut (exOpers g D cf l e h))
  | [], _, _ => rfl
  | o :: l, e, h => by
    have e1 : cpsOps g D cf (o :: l) e h kn = bd (opR g D cf o e h) (fun v h' => cpsOps g D cf l (putD o.dst v e) h' kn) := rfl
    have e2 : exOpers g D cf (o :: l) e h = (match exOper g D cf o e h with
      | .ok e h => exOpers g D cf l e h
      | r => r) := rfl
    have e3 : exOper g D cf o e h = (match wants o.guard e with
      | none => .bad
      | some false => .ok (putD o.dst (.tup []) e) h
      | some true => match exOp g D cf o.op e h with
        | .ok v h => .ok (putD o.dst v e) h
        | .pan v h => .pan v e h
        | .bad => .bad) := rfl
    rw [e1, e2, e3]
    unfold opR
    rw [wants'_eq]
    cases wants o.guard e with
    | none => rfl
    | some c =>
      cases c with
      | false => exact cpsOps_eq l _ h
      | true =>
        show bd (exOp g D cf o.op e h) _ = _
        dsimp only
        cases exOp g D cf o.op e h with
        | ok v h' => exact cpsOps_eq l _ h'
        | pan v h' => rfl
        | bad => rfl
theorem ck_eq {kn : Env → AH → R AV} {kx : Nat → Env → AH → R AV} {kr : Env → AH → R AV} (b : Bool) (r : RE) : ck b (KO kn kx kr (reOut r)) = KO kn kx kr (reOut (Bool.rec (motive := fun _ => RE) .bad r b)) := by
  cases b <;> rfl
theorem cpsDr_eq {k : Env → AH → R AV} {kx : Nat → Env → AH → R AV} {kr : Env → AH → R AV} : ∀ (l : List KDr) (n : Nat) (ps : List Pend) (e : Env) (h : AH), cpsDr g D cf l n ps e h k = KO k kx kr (reOut (exDr g D cf l n ps e h))
  | [], n, ps, e, h => ck_eq (pendOk g D cf e h n ps) (.ok e h)
  | d :: l, n, ps, e, h => by
    have e1 : cpsDr g D cf (d :: l) n ps e h k = gdo (wants' d.o.guard e)
      (Bool.rec (motive := fun _ => R AV)
        (Bool.rec (motive := fun _ => R AV)
          (bdn (exOp g D cf d.o.op e h) fun v _ => cpsDr g D cf l n (.reads d.hi d.o.op v :: ps) (putD d.o.dst v e) h k)
          (bdn (exOp g D cf d.o.op e h) fun v h' => oc (cellsAt h.next h') fun cs => cpsDr g D cf l n (.made d.hi h.next cs :: ps) (putD d.o.dst v e) h' k)
          (Nat.beq d.kind 2))
        (ck (pendOk g D cf e h n ps) (bdn (exOp g D cf d.o.op e h) fun v h' => cpsDr g D cf l (Nat.succ n) ps (putD d.o.dst v e) h' k))
        (Nat.beq d.kind 3))
      (Bool.rec (motive := fun _ => R AV) (cpsDr g D cf l n ps (putD d.o.dst (.tup []) e) h k) (ck (pendOk g D cf e h n ps) (cpsDr g D cf l (Nat.succ n) ps (putD d.o.dst (.tup []) e) h k)) (Nat.beq d.kind 3)) := rfl
    have e2 : exDr g D cf (d :: l) n ps e h = (match wants d.o.guard e with
      | none => .bad
      | some false => Bool.rec (motive := fun _ => RE) (exDr g D cf l n ps (putD d.o.dst (.tup []) e) h)
          (Bool.rec (motive := fun _ => RE) .bad (exDr g D cf l (Nat.succ n) ps (putD d.o.dst (.tup []) e) h) (pendOk g D cf e h n ps)) (Nat.beq d.kind 3)
      | some true => Bool.rec (motive := fun _ => RE)
          (match exOp g D cf d.o.op e h with
          | .ok v h' => Bool.rec (motive := fun _ => RE)
              (exDr g D cf l n (.reads d.hi d.o.op v :: ps) (putD d.o.dst v e) h)
              (match cellsAt h.next h' with
              | some cs => exDr g D cf l n (.made d.hi h.next cs :: ps) (putD d.o.dst v e) h'
              | none => .bad) (Nat.beq d.kind 2)
          | _ => .bad)
          (Bool.rec (motive := fun _ => RE) .bad
            (match exOp g D cf d.o.op e h with
            | .ok v h' => exDr g D cf l (Nat.succ n) ps (putD d.o.dst v e) h'
            | _ => .bad) (pendOk g D cf e h n ps)) (Nat.beq d.kind 3)) := rfl
    rw [e1, e2, wants'_eq]
    cases wants d.o.guard e with
    | none => rfl
    | some c =>
      cases c with
      | false =>
        show Bool.rec (motive := fun _ => R AV) _ _ _ = _
        dsimp only
        cases Nat.beq d.kind 3 with
        | false => exact cpsDr_eq l _ _ _ _
        | true =>
          show ck _ _ = _
          rw [cpsDr_eq (kx := kx) (kr := kr) l _ _ _ _]
          exact ck_eq _ _
      | true =>
        show Bool.rec (motive := fun _ => R AV) _ _ _ = _
        dsimp only
        cases Nat.beq d.kind 3 with
        | true =>
          show ck _ _ = _
          refine Eq.trans ?_ (ck_eq _ _)
          congr 1
          cases exOp g D cf d.o.op e h with
          | ok v h' => exact cpsDr_eq l _ _ _ _
          | pan v h' => rfl
          | bad => rfl
        | false =>
          cases exOp g D cf d.o.op e h with
          | pan v h' => cases Nat.beq d.kind 2 <;> rfl
          | bad => cases Nat.beq d.kind 2 <;> rfl
          | ok v h' =>
            cases Nat.beq d.kind 2 with
            | false => exact cpsDr_eq l _ _ _ _
            | true =>
              show oc (cellsAt h.next h') _ = _
              dsimp only
              cases cellsAt h.next h' with
              | none => rfl
              | some cs => exact cpsDr_eq l _ _ _ _

/-- A call, without a count of steps. -/
noncomputable def callE (K : KP KF) (f : Nat) (vs : List AV) (h : AH) : R AV := evR fun n => callC K n f vs h
noncomputable def evC (K : KP KF) (c : KC) (e : Env) (h : AH) : Out := evO' fun n => runC K n c e h
theorem callE_ex {f : Nat} {vs : List AV} {h : AH} (hb : callE K f vs h ≠ .bad) : ∃ n, ∀ m, n ≤ m → callC K m f vs h = callE K f vs h := evR_ex (callC_mono K) hb
theorem evC_ex {c : KC} {e : Env} {h : AH} (hb : evC K c e h ≠ .bad) : ∃ n, ∀ m, n ≤ m → runC K m c e h = evC K c e h := evO_ex (runC_mono K) hb
theorem callE_of {n f : Nat} {vs : List AV} {h : AH} {r : R AV} (hr : callC K n f vs h = r) (hb : r ≠ .bad) : callE K f vs h = r := by
  subst hr; exact evR_of (callC_mono K) hb
theorem evC_of {n : Nat} {c : KC} {e : Env} {h : AH} {r : Out} (hr : runC K n c e h = r) (hb : r ≠ .bad) : evC K c e h = r := by
  subst hr; exact evO_of (runC_mono K) hb
theorem exOp_ev {op : KOp} {e : Env} {h : AH} (hb : exOp K.g K.D (callE K) op e h ≠ .bad) : ∃ n, ∀ m, n ≤ m → exOp K.g K.D (callC K m) op e h = exOp K.g K.D (callE K) op e h := by
  cases op with
  | call f args =>
    have e1 : ∀ cf : CF, exOp K.g K.D cf (.call f args) e h = (match evXs K.g e args with
      | some vs => cf f vs h
      | none => .bad) := fun _ => rfl
    rw [e1] at hb
    cases ha : evXs K.g e args with
    | none => rw [ha] at hb; exact absurd rfl hb
    | some vs =>
      rw [ha] at hb
      obtain ⟨n, hn⟩ := callE_ex hb
      exact ⟨n, fun m hm => by rw [e1, e1, ha]; exact hn m hm⟩
  | callv x args =>
    have e1 : ∀ cf : CF, exOp K.g K.D cf (.callv x args) e h = w1 (evX K.g e x) fun x => match x with
      | .func f first captured => match evXs K.g e args with
        | some vs => cf f (app first (app vs captured)) h
        | none => .bad
      | _ => .bad := fun _ => rfl
    rw [e1] at hb
    cases hx : evX K.g e x with
    | none => rw [hx] at hb; exact absurd rfl hb
    | some v =>
      rw [hx] at hb
      cases v with
      | func f a c =>
        cases ha : evXs K.g e args with
        | none => rw [ha] at hb; exact absurd rfl hb
        | some vs =>
          rw [ha] at hb
          obtain ⟨n, hn⟩ := callE_ex hb
          exact ⟨n, fun m hm => by rw [e1, e1, hx, ha]; exact hn m hm⟩
      | _ => exact absurd rfl hb
  | _ => exact ⟨0, fun _ _ => rfl⟩
theorem exOper_ev {o : KOper} {e : Env} {h : AH} (hb : exOper K.g K.D (callE K) o e h ≠ .bad) : ∃ n, ∀ m, n ≤ m → exOper K.g K.D (callC K m) o e h = exOper K.g K.D (callE K) o e h := by
  have e1 : ∀ cf : CF, exOper K.g K.D cf o e h = (match wants o.guard e with
    | none => .bad
    | some false => .ok (putD o.dst (.tup []) e) h
    | some true => match exOp K.g K.D cf o.op e h with
      | .ok v h => .ok (putD o.dst v e) h
      | .pan v h => .pan v e h
      | .bad => .bad) := fun _ => rfl
  rw [e1] at hb
  cases hw : wants o.guard e with
  | none => rw [hw] at hb; exact absurd rfl hb
  | some c =>
    cases c with
    | false => exact ⟨0, fun m _ => by rw [e1, e1, hw]⟩
    | true =>
      rw [hw] at hb
      have hx : exOp K.g K.D (callE K) o.op e h ≠ .bad := fun hx => by rw [hx] at hb; exact absurd rfl hb
      obtain ⟨n, hn⟩ := exOp_ev hx
      exact ⟨n, fun m hm => by rw [e1, e1, hw, hn m hm]⟩
theorem exOpers_ev : ∀ {l : List KOper} {e : Env} {h : AH}, exOpers K.g K.D (callE K) l e h ≠ .bad → ∃ n, ∀ m, n ≤ m → exOpers K.g K.D (callC K m) l e h = exOpers K.g K.D (callE K) l e h
  | [], _, _, _ => ⟨0, fun _ _ => rfl⟩
  | o :: l, e, h, hb => by
    have e1 : ∀ cf : CF, exOpers K.g K.D cf (o :: l) e h = (match exOper K.g K.D cf o e h with
      | .ok e h => exOpers K.g K.D cf l e h
      | r => r) := fun _ => rfl
    rw [e1] at hb
    have hx : exOper K.g K.D (callE K) o e h ≠ .bad := fun hx => by rw [hx] at hb; exact absurd rfl hb
    obtain ⟨n, hn⟩ := exOper_ev hx
    cases hr : exOper K.g K.D (callE K) o e h with
    | bad => exact absurd hr hx
    | pan v e' h' => exact ⟨n, fun m hm => by rw [e1, e1, hn m hm, hr]⟩
    | ok e' h' =>
      rw [hr] at hb
      obtain ⟨n2, hn2⟩ := exOpers_ev hb
      refine ⟨max n n2, fun m hm => ?_⟩
      rw [e1, e1, hn m (Nat.le_trans (Nat.le_max_left _ _) hm), hr]
      exact hn2 m (Nat.le_trans (Nat.le_max_right _ _) hm)
theorem pend_ev {e : Env} {h : AH} {k : Nat} : ∀ {ps : List Pend}, pendOk K.g K.D (callE K) e h k ps = true → ∃ n, ∀ m, n ≤ m → pendOk K.g K.D (callC K m) e h k ps = true
  | [], _ => ⟨0, fun _ _ => rfl⟩
  | p :: ps, hp => by
    have e1 : ∀ cf : CF, pendOk K.g K.D cf e h k (p :: ps) = Bool.rec (motive := fun _ => Bool) false (pendOk K.g K.D cf e h k ps) (Bool.rec (motive := fun _ => Bool) true (p.ok K.g K.D cf e h) (Nat.ble k p.hi)) := fun _ => rfl
    rw [e1] at hp
    have h1 : Bool.rec (motive := fun _ => Bool) true (p.ok K.g K.D (callE K) e h) (Nat.ble k p.hi) = true := by
      cases hb : Bool.rec (motive := fun _ => Bool) true (p.ok K.g K.D (callE K) e h) (Nat.ble k p.hi) with
      | true => rfl
      | false => rw [hb] at hp; cases hp
    rw [h1] at hp
    obtain ⟨n, hn⟩ := pend_ev hp
    have h2 : ∃ n, ∀ m, n ≤ m → Bool.rec (motive := fun _ => Bool) true (p.ok K.g K.D (callC K m) e h) (Nat.ble k p.hi) = true := by
      cases hk : Nat.ble k p.hi with
      | false => exact ⟨0, fun _ _ => rfl⟩
      | true =>
        rw [hk] at h1
        cases p with
        | made hi b cs => exact ⟨0, fun _ _ => h1⟩
        | reads hi op v =>
          replace h1 : (match exOp K.g K.D (callE K) op e h with
            | .ok u _ => beqA u v
            | _ => false) = true := h1
          have hx : exOp K.g K.D (callE K) op e h ≠ .bad := fun hx => by rw [hx] at h1; cases h1
          obtain ⟨n, hn⟩ := exOp_ev hx
          refine ⟨n, fun m hm => ?_⟩
          show (match exOp K.g K.D (callC K m) op e h with
            | .ok u _ => beqA u v
            | _ => false) = true
          rw [hn m hm]; exact h1
    obtain ⟨n2, hn2⟩ := h2
    refine ⟨max n n2, fun m hm => ?_⟩
    rw [e1, hn2 m (Nat.le_trans (Nat.le_max_right _ _) hm)]
    exact hn m (Nat.le_trans (Nat.le_max_left _ _) hm)
theorem selRE_ev {b : Bool} {r : RE} (hb : (Bool.rec (motive := fun _ => RE) .bad r b : RE) ≠ .bad) : b = true ∧ r ≠ .bad := by
  cases b with
  | false => exact absurd rfl hb
  | true => exact ⟨rfl, hb⟩
theorem exDr_ev : ∀ {l : List KDr} {k : Nat} {ps : List Pend} {e : Env} {h : AH}, exDr K.g K.D (callE K) l k ps e h ≠ .bad → ∃ n, ∀ m, n ≤ m → exDr K.g K.D (callC K m) l k ps e h = exDr K.g K.D (callE K) l k ps e h
  | [], k, ps, e, h, hb => by
    obtain ⟨hp, -⟩ := selRE_ev hb
    obtain ⟨n, hn⟩ := pend_ev hp
    refine ⟨n, fun m hm => ?_⟩
    show Bool.rec (motive := fun _ => RE) .bad (.ok e h) (pendOk K.g K.D (callC K m) e h k ps) = Bool.rec (motive := fun _ => RE) .bad (.ok e h) (pendOk K.g K.D (callE K) e h k ps)
    rw [hn m hm, hp]
  | d :: l, k, ps, e, h, hb => by
    have e1 : ∀ cf : CF, exDr K.g K.D cf (d :: l) k ps e h = (match wants d.o.guard e with
      | none => .bad
      | some false => Bool.rec (motive := fun _ => RE) (exDr K.g K.D cf l k ps (putD d.o.dst (.tup []) e) h)
          (Bool.rec (motive := fun _ => RE) .bad (exDr K.g K.D cf l (Nat.succ k) ps (putD d.o.dst (.tup []) e) h) (pendOk K.g K.D cf e h k ps)) (Nat.beq d.kind 3)
      | some true => Bool.rec (motive := fun _ => RE)
          (match exOp K.g K.D cf d.o.op e h with
          | .ok v h' => Bool.rec (motive := fun _ => RE)
              (exDr K.g K.D cf l k (.reads d.hi d.o.op v :: ps) (putD d.o.dst v e) h)
              (match cellsAt h.next h' with
              | some cs => exDr K.g K.D cf l k (.made d.hi h.next cs :: ps) (putD d.o.dst v e) h'
              | none => .bad) (Nat.beq d.kind 2)
          | _ => .bad)
          (Bool.rec (motive := fun _ => RE) .bad
            (match exOp K.g K.D cf d.o.op e h with
            | .ok v h' => exDr K.g K.D cf l (Nat.succ k) ps (putD d.o.dst v e) h'
            | _ => .bad) (pendOk K.g K.D cf e h k ps)) (Nat.beq d.kind 3)) := fun _ => rfl
    rw [e1] at hb
    cases hw : wants d.o.guard e with
    | none => rw [hw] at hb; exact absurd rfl hb
    | some c =>
      rw [hw] at hb
      cases c with
      | false =>
        dsimp only at hb
        cases h3 : Nat.beq d.kind 3 with
        | false =>
          rw [h3] at hb
          obtain ⟨n, hn⟩ := exDr_ev hb
          exact ⟨n, fun m hm => by rw [e1, e1, hw]; dsimp only; rw [h3]; exact hn m hm⟩
        | true =>
          rw [h3] at hb
          obtain ⟨hp, hb⟩ := selRE_ev hb
          obtain ⟨n, hn⟩ := exDr_ev hb
          obtain ⟨n2, hn2⟩ := pend_ev hp
          refine ⟨max n n2, fun m hm => ?_⟩
          rw [e1, e1, hw]
          dsimp only
          rw [h3, hp, hn2 m (Nat.le_trans (Nat.le_max_right _ _) hm)]
          exact hn m (Nat.le_trans (Nat.le_max_left _ _) hm)
      | true =>
        dsimp only at hb
        have hx : exOp K.g K.D (callE K) d.o.op e h ≠ .bad := fun hx => by
          rw [hx] at hb
          cases h3 : Nat.beq d.kind 3 with
          | false => rw [h3] at hb; exact absurd rfl hb
          | true => rw [h3] at hb; exact absurd rfl (selRE_ev hb).2
        obtain ⟨n, hn⟩ := exOp_ev hx
        cases hr : exOp K.g K.D (callE K) d.o.op e h with
        | bad => exact absurd hr hx
        | pan v h' =>
          rw [hr] at hb
          cases h3 : Nat.beq d.kind 3 with
          | false => rw [h3] at hb; exact absurd rfl hb
          | true => rw [h3] at hb; exact absurd rfl (selRE_ev hb).2
        | ok v h' =>
          rw [hr] at hb
          cases h3 : Nat.beq d.kind 3 with
          | true =>
            rw [h3] at hb
            obtain ⟨hp, hb⟩ := selRE_ev hb
            obtain ⟨n1, hn1⟩ := exDr_ev hb
            obtain ⟨n2, hn2⟩ := pend_ev hp
            refine ⟨max n (max n1 n2), fun m hm => ?_⟩
            rw [e1, e1, hw]
            dsimp only
            rw [h3, hp, hn2 m (by omega), hn m (by omega), hr]
            exact hn1 m (by omega)
          | false =>
            rw [h3] at hb
            cases h2 : Nat.beq d.kind 2 with
            | false =>
              rw [h2] at hb
              obtain ⟨n1, hn1⟩ := exDr_ev hb
              refine ⟨max n n1, fun m hm => ?_⟩
              rw [e1, e1, hw]
              dsimp only
              rw [h3, hn m (by omega), hr, h2]
              exact hn1 m (by omega)
            | true =>
              rw [h2] at hb
              dsimp only at hb
              cases hc : cellsAt h.next h' with
              | none => rw [hc] at hb; exact absurd rfl hb
              | some cs =>
                rw [hc] at hb
                obtain ⟨n1, hn1⟩ := exDr_ev hb
                refine ⟨max n n1, fun m hm => ?_⟩
                rw [e1, e1, hw]
                dsimp only
                rw [h3, hn m (by omega), hr, h2]
                dsimp only
                rw [hc]
                exact hn1 m (by omega)

/-! code, step by step -/
theorem evC_skip {e : Env} {h : AH} : evC K .skip e h = .norm e h := evC_of (n := 1) rfl (by simp)
theorem evC_exit {i : Nat} {e : Env} {h : AH} : evC K (.exit i) e h = .exit i e h := evC_of (n := 1) rfl (by simp)
theorem evC_ret {e : Env} {h : AH} : evC K .ret e h = .ret e h := evC_of (n := 1) rfl (by simp)
theorem evC_rgn {l : List KOper} {e : Env} {h : AH} (hb : reOut (exOpers K.g K.D (callE K) l e h) ≠ .bad) : evC K (.rgn l) e h = reOut (exOpers K.g K.D (callE K) l e h) := by
  have hx : exOpers K.g K.D (callE K) l e h ≠ .bad := fun hx => by rw [hx] at hb; exact hb rfl
  obtain ⟨n, hn⟩ := exOpers_ev hx
  refine evC_of (n := n + 1) ?_ hb
  show reOut (exOpers K.g K.D (callC K n) l e h) = _
  rw [hn n (Nat.le_refl _)]
theorem evC_drw {l : List KDr} {e : Env} {h : AH} (hb : reOut (exDr K.g K.D (callE K) l 0 [] e h) ≠ .bad) : evC K (.drw l) e h = reOut (exDr K.g K.D (callE K) l 0 [] e h) := by
  have hx : exDr K.g K.D (callE K) l 0 [] e h ≠ .bad := fun hx => by rw [hx] at hb; exact hb rfl
  obtain ⟨n, hn⟩ := exDr_ev hx
  refine evC_of (n := n + 1) ?_ hb
  show reOut (exDr K.g K.D (callC K n) l 0 [] e h) = _
  rw [hn n (Nat.le_refl _)]
theorem thenO_ev {a b : KC} {e : Env} {h : AH} {c : KC} (hc : ∀ n, runC K (n + 1) c e h = thenO (runC K n a e h) fun e h => runC K n b e h) (hb : thenO (evC K a e h) (evC K b) ≠ .bad) : evC K c e h = thenO (evC K a e h) (evC K b) := by
  have ha : evC K a e h ≠ .bad := fun hx => by rw [hx] at hb; exact hb rfl
  obtain ⟨n, hn⟩ := evC_ex ha
  cases hr : evC K a e h with
  | bad => exact absurd hr ha
  | norm e1 h1 =>
    rw [hr] at hb
    obtain ⟨n2, hn2⟩ := evC_ex (show evC K b e1 h1 ≠ .bad from hb)
    refine evC_of (n := max n n2 + 1) ?_ hb
    rw [hc, hn _ (Nat.le_max_left _ _), hr]
    exact hn2 _ (Nat.le_max_right _ _)
  | exit i e1 h1 => exact evC_of (n := n + 1) (by rw [hc, hn n (Nat.le_refl _), hr]; rfl) (by simp [thenO])
  | ret e1 h1 => exact evC_of (n := n + 1) (by rw [hc, hn n (Nat.le_refl _), hr]; rfl) (by simp [thenO])
  | pan v e1 h1 => exact evC_of (n := n + 1) (by rw [hc, hn n (Nat.le_refl _), hr]; rfl) (by simp [thenO])
theorem evC_seq {a b : KC} {e : Env} {h : AH} (hb : thenO (evC K a e h) (evC K b) ≠ .bad) : evC K (.seq a b) e h = thenO (evC K a e h) (evC K b) := thenO_ev (fun _ => rfl) hb
theorem evC_loop {b : KC} {e : Env} {h : AH} (hb : thenO (evC K b e h) (evC K (.loop b)) ≠ .bad) : evC K (.loop b) e h = thenO (evC K b e h) (evC K (.loop b)) := thenO_ev (fun _ => rfl) hb
theorem evC_block {id : Nat} {b : KC} {e : Env} {h : AH} (hb : evC K b e h ≠ .bad) : evC K (.block id b) e h = inBlk id (evC K b e h) := by
  obtain ⟨n, hn⟩ := evC_ex hb
  refine evC_of (n := n + 1) (by show inBlk id (runC K n b e h) = _; rw [hn n (Nat.le_refl _)]) ?_
  cases hr : evC K b e h with
  | bad => exact absurd hr hb
  | exit i e1 h1 =>
    show (Bool.rec (motive := fun _ => Out) (.exit i e1 h1) (.norm e1 h1) (Nat.beq i id) : Out) ≠ .bad
    cases Nat.beq i id <;> simp
  | _ => simp [inBlk]
theorem evC_cond {x : KX} {a b : KC} {e : Env} {h : AH} {c : Bool} (hx : evX K.g e x = some (.bool c)) (hb : evC K (if c then a else b) e h ≠ .bad) : evC K (.cond x a b) e h = evC K (if c then a else b) e h := by
  obtain ⟨n, hn⟩ := evC_ex hb
  refine evC_of (n := n + 1) ?_ hb
  show (match evX K.g e x with
    | some (.bool true) => runC K n a e h
    | some (.bool false) => runC K n b e h
    | _ => .bad) = _
  rw [hx, ← hn n (Nat.le_refl _)]
  cases c <;> rfl

theorem withL_some : ∀ {live : List Nat} {e : Env} {k : List AV → R AV}, withL live e k ≠ .bad → ∃ vs, withL live e k = k vs ∧ (∀ e0 κ, LeE e0 e → ∃ e1, LeE e1 e ∧ litE live vs e0 κ = κ e1) ∧ ∀ e', LeE e e' → ∀ k', withL live e' k' = k' vs
  | [], e, k, _ => ⟨[], rfl, fun e0 κ h => ⟨e0, h, rfl⟩, fun _ _ _ => rfl⟩
  | t :: live, e, k, hb => by
    have e1 : ∀ (e : Env) k, withL (t :: live) e k = Option.rec (motive := fun _ => R AV) .bad (fun v => withL live e fun vs => k (v :: vs)) (e.get t) := fun _ _ => rfl
    rw [e1] at hb
    cases ht : e.get t with
    | none => rw [ht] at hb; exact absurd rfl hb
    | some v =>
      rw [ht] at hb
      obtain ⟨vs, h1, h2, h3⟩ := withL_some (live := live) hb
      refine ⟨v :: vs, by rw [e1, ht]; exact h1, fun e0 κ h => ?_, fun e' he k' => ?_⟩
      · refine h2 (e0.set t v) κ fun s u hs => ?_
        rw [PT.get_set] at hs
        by_cases hst : s = t
        · rw [if_pos hst] at hs; rw [hst, ht]; exact hs
        · rw [if_neg hst] at hs; exact h s u hs
      · rw [e1, he t v ht]; exact h3 e' he _
theorem KK.of {kn kn' : Env → AH → R AV} {kx kx' : Nat → Env → AH → R AV} {kr kr' : Env → AH → R AV} (h1 : ∀ e e' h, LeE e e' → LeR (kn e h) (kn' e' h)) (h2 : ∀ i e e' h, LeE e e' → LeR (kx i e h) (kx' i e' h)) (h3 : ∀ e e' h, LeE e e' → LeR (kr e h) (kr' e' h)) :
    KK (KO kn kx kr) (KO kn' kx' kr') := fun o o' ho => by
  cases ho with
  | bad => exact .bad _
  | norm e e' h he => exact h1 e e' h he
  | exit i e e' h he => exact h2 i e e' h he
  | ret e e' h he => exact h3 e e' h he
  | pan v e e' h he => exact LeR.refl _
theorem KO_then {f : Env → AH → Out} {kn : Env → AH → R AV} {kx : Nat → Env → AH → R AV} {kr : Env → AH → R AV} (o : Out) : KO (fun e h => KO kn kx kr (f e h)) kx kr o = KO kn kx kr (thenO o f) := by
  cases o <;> rfl
theorem KO_blk {kn : Env → AH → R AV} {kx : Nat → Env → AH → R AV} {kr : Env → AH → R AV} (id : Nat) (o : Out) : KO kn (fun i e h => Bool.rec (motive := fun _ => R AV) (kx i e h) (kn e h) (Nat.beq i id)) kr o = KO kn kx kr (inBlk id o) := by
  cases o with
  | exit i e h =>
    show Bool.rec (motive := fun _ => R AV) (kx i e h) (kn e h) (Nat.beq i id) = KO kn kx kr (Bool.rec (motive := fun _ => Out) (.exit i e h) (.norm e h) (Nat.beq i id))
    cases Nat.beq i id <;> rfl
  | _ => rfl
theorem KO_ne {kn : Env → AH → R AV} {kx : Nat → Env → AH → R AV} {kr : Env → AH → R AV} {o : Out} (hb : KO kn kx kr o ≠ .bad) : o ≠ .bad := fun h => by rw [h] at hb; exact hb rfl
theorem cps_sound (N : Nat) : ∀ (c : KA) (e e' : Env) (h : AH) (kn kn' : Env → AH → R AV) (kx kx' : Nat → Env → AH → R AV) (kr kr' : Env → AH → R AV), LeE e e' →
    (∀ e e' h, LeE e e' → LeR (kn e h) (kn' e' h)) → (∀ i e e' h, LeE e e' → LeR (kx i e h) (kx' i e' h)) → (∀ e e' h, LeE e e' → LeR (kr e h) (kr' e' h)) →
    LeR (cps K.g K.D (callE K) N c e h kn kx kr) (KO kn' kx' kr' (evC K c.era e' h)) := by
  intro c
  induction c with
  | skip => intro e e' h kn kn' kx kx' kr kr' he h1 _ _; show LeR (kn e h) (KO kn' kx' kr' (evC K .skip e' h)); rw [evC_skip]; exact h1 _ _ _ he
  | exit i => intro e e' h kn kn' kx kx' kr kr' he _ h2 _; show LeR (kx i e h) (KO kn' kx' kr' (evC K (.exit i) e' h)); rw [evC_exit]; exact h2 _ _ _ _ he
  | ret => intro e e' h kn kn' kx kx' kr kr' he _ _ h3; show LeR (kr e h) (KO kn' kx' kr' (evC K .ret e' h)); rw [evC_ret]; exact h3 _ _ _ he
  | rgn l =>
    intro e e' h kn kn' kx kx' kr kr' he h1 h2 h3
    show LeR (cpsOps K.g K.D (callE K) l e h kn) (KO kn' kx' kr' (evC K (.rgn l) e' h))
    rw [cpsOps_eq (kx := kx) (kr := kr) l e h]
    intro hn
    have hx := KO_ne hn
    have hl := reOut_le (exOpers_le ER.leE (g := K.g) (D := K.D) (LeF.refl (callE K)) l (h := h) he)
    have hx' : reOut (exOpers K.g K.D (callE K) l e' h) ≠ .bad := fun hx' => by
      rw [hx'] at hl
      generalize reOut (exOpers K.g K.D (callE K) l e h) = r at hl hx
      cases hl
      exact hx rfl
    rw [evC_rgn hx']
    exact KK.of h1 h2 h3 _ _ hl hn
  | drw l =>
    intro e e' h kn kn' kx kx' kr kr' he h1 h2 h3
    show LeR (cpsDr K.g K.D (callE K) l 0 [] e h kn) (KO kn' kx' kr' (evC K (.drw l) e' h))
    rw [cpsDr_eq (kx := kx) (kr := kr) l 0 [] e h]
    intro hn
    have hx := KO_ne hn
    have hl := reOut_le (exDr_le ER.leE (g := K.g) (D := K.D) (LeF.refl (callE K)) l (k := 0) (ps := []) (h := h) he)
    have hx' : reOut (exDr K.g K.D (callE K) l 0 [] e' h) ≠ .bad := fun hx' => by
      rw [hx'] at hl
      generalize reOut (exDr K.g K.D (callE K) l 0 [] e h) = r at hl hx
      cases hl
      exact hx rfl
    rw [evC_drw hx']
    exact KK.of h1 h2 h3 _ _ hl hn
  | seq a b iha ihb =>
    intro e e' h kn kn' kx kx' kr kr' he h1 h2 h3
    have h4 := iha e e' h (fun e h => cps K.g K.D (callE K) N b e h kn kx kr) (fun e h => KO kn' kx' kr' (evC K b.era e h)) kx kx' kr kr' he (fun e e' h he => ihb e e' h kn kn' kx kx' kr kr' he h1 h2 h3) h2 h3
    refine LeR.trans h4 ?_
    rw [KO_then]
    intro hn
    show KO kn' kx' kr' (evC K (.seq a.era b.era) e' h) = _
    rw [evC_seq (KO_ne hn)]
  | cond x a b iha ihb =>
    intro e e' h kn kn' kx kx' kr kr' he h1 h2 h3
    show LeR (Option.rec (motive := fun _ => R AV) .bad (fun v => cB v (cps K.g K.D (callE K) N a e h kn kx kr) (cps K.g K.D (callE K) N b e h kn kx kr)) (evX K.g e x)) (KO kn' kx' kr' (evC K (.cond x a.era b.era) e' h))
    cases hx : evX K.g e x with
    | none => exact .bad _
    | some v =>
      cases v with
      | bool c =>
        have hx' := evX_le he x _ hx
        cases c with
        | true =>
          show LeR (cps K.g K.D (callE K) N a e h kn kx kr) _
          intro hn
          have h4 := iha e e' h kn kn' kx kx' kr kr' he h1 h2 h3 hn
          have hne : evC K a.era e' h ≠ .bad := KO_ne (by rw [h4]; exact hn)
          rw [evC_cond hx' (by simpa using hne)]
          simpa using h4
        | false =>
          show LeR (cps K.g K.D (callE K) N b e h kn kx kr) _
          intro hn
          have h4 := ihb e e' h kn kn' kx kx' kr kr' he h1 h2 h3 hn
          have hne : evC K b.era e' h ≠ .bad := KO_ne (by rw [h4]; exact hn)
          rw [evC_cond hx' (by simpa using hne)]
          simpa using h4
      | _ => exact .bad _
  | block id b ihb =>
    intro e e' h kn kn' kx kx' kr kr' he h1 h2 h3
    have h4 := ihb e e' h kn kn' (fun i e h => Bool.rec (motive := fun _ => R AV) (kx i e h) (kn e h) (Nat.beq i id)) (fun i e h => Bool.rec (motive := fun _ => R AV) (kx' i e h) (kn' e h) (Nat.beq i id)) kr kr' he h1
      (fun i e e' h he => by cases Nat.beq i id with | false => exact h2 _ _ _ _ he | true => exact h1 _ _ _ he) h3
    refine LeR.trans h4 ?_
    rw [KO_blk]
    intro hn
    show KO kn' kx' kr' (evC K (.block id b.era) e' h) = _
    have hne : evC K b.era e' h ≠ .bad := fun h0 => by rw [h0] at hn; exact hn rfl
    rw [evC_block hne]
  | loop live b ihb =>
    intro e e' h kn kn' kx kx' kr kr' he h1 h2 h3
    have main : ∀ (M : Nat) (e e' : Env) (h : AH), LeE e e' → LeR (withL live e fun vs => Nat.rec (motive := fun _ => List AV → AH → R AV) (fun _ _ => .bad)
        (fun _ ih vs h => litE live vs .leaf fun e => cps K.g K.D (callE K) N b e h (fun e' h' => withL live e' fun vs' => ih vs' h') kx kr) M vs h) (KO kn' kx' kr' (evC K (.loop b.era) e' h)) := by
      intro M
      induction M with
      | zero =>
        intro e e' h he hn
        obtain ⟨vs, h1, -, -⟩ := withL_some hn
        rw [h1] at hn
        exact absurd rfl hn
      | succ M ih =>
        intro e e' h he hn
        obtain ⟨vs, h5, h6, -⟩ := withL_some hn
        rw [h5] at hn ⊢
        obtain ⟨e1, h7, h8⟩ := h6 .leaf (fun e => cps K.g K.D (callE K) N b e h (fun e' h' => withL live e' fun vs' => Nat.rec (motive := fun _ => List AV → AH → R AV) (fun _ _ => .bad)
          (fun _ ih vs h => litE live vs .leaf fun e => cps K.g K.D (callE K) N b e h (fun e' h' => withL live e' fun vs' => ih vs' h') kx kr) M vs' h') kx kr) (fun t v ht => by cases ht)
        have hn := fun hx => hn (h8.trans hx)
        refine Eq.trans ?_ h8.symm
        have h9 := ihb e1 e' h _ (fun e h => KO kn' kx' kr' (evC K (.loop b.era) e h)) kx kx' kr kr' (h7.trans he) (fun e e' h he => ih e e' h he) h2 h3 hn
        refine Eq.trans ?_ h9
        rw [KO_then] at h9 ⊢
        rw [evC_loop (KO_ne (by rw [h9]; exact hn))]
    exact main N e e' h he

/-- A call of a function whose code is told so. -/
theorem callE_cps {f : Nat} {fn : KF} {c : KA} {vs : List AV} {h : AH} {r : R AV} (N : Nat) (hf : K.F f = some fn) (hc : fn.body = c.era)
    (hr : cps K.g K.D (callE K) N c (envOf vs) h (fun e h => resV e h fn.res) (fun _ _ _ => .bad) (fun e h => resV e h fn.res) = r) (hb : r ≠ .bad) : callE K f vs h = r := by
  subst hr
  have hv : ∀ e e' h, LeE e e' → LeR (resV e h fn.res) (resV e' h fn.res) := fun _ _ _ he => resV_le he _
  have h1 := cps_sound N c (envOf vs) (envOf vs) h _ _ _ (fun _ _ _ => .bad) _ _ (.refl _) hv (fun _ _ _ _ _ => LeR.bad _) hv hb
  refine Eq.trans ?_ h1
  have hne : evC K c.era (envOf vs) h ≠ .bad := KO_ne (by rw [h1]; exact hb)
  obtain ⟨n, hn⟩ := evC_ex hne
  refine callE_of (n := n) ?_ (by rw [h1]; exact hb)
  show callF K (runC K n) f vs h = _
  rw [callF_eq, hf]
  dsimp only
  rw [hc, hn n (Nat.le_refl _)]
  cases evC K c.era (envOf vs) h <;> rfl
/-- A call of a function that is taken for granted. -/
theorem callE_pr {f : Nat} {p : List AV → AH → R AV} {vs : List AV} {h : AH} (hf : K.F f = none) (hp : K.pr f = some p) (hb : p vs h ≠ .bad) : callE K f vs h = p vs h := by
  refine callE_of (n := 0) ?_ hb
  show callF K (runC K 0) f vs h = _
  rw [callF_eq, hf]
  dsimp only
  rw [hp]
end
end Go.KM
