/-
  A region whose order is open: the small machine's run, and the model's, which may lag behind.
-/
import Derived.Test.YtffpkcmcoppbmaaGreatDoorKDrawB
namespace Go.KM
open Go.RowKit
section
variable (P : Program) (W : World) (ρ : Nat → Int) (g : Nat → Option AV) (D : BinOp → SE → SE → Option Bool) (cf : Nat → List AV → AH → R AV) (ops : Array Oper) (nt : Nat) (bs : Array Nat) (ι₀ : Inj) (h₀ : AH) (a₀ : Act)
def Ent (q : Nat × KDr) : Prop := ∃ o, ops[q.1]? = some o ∧ koper P nt ops o = some q.2.o ∧ q.2.kind = kindOf q.2.o.op
/-- What is known of an operation that lags. -/
structure LagOk (ι : Inj) (k : Nat) (ps : List Pend) (e : Env) (h : AH) (p : Lag) : Prop where
  kind : p.d.kind ≠ 3
  hi : k ≤ p.d.hi
  val : ∀ t, p.d.o.dst = some t → e.get t = some p.v
  r : match p.r with
    | .skip => wants p.d.o.guard e = some false
    | .val v => wants p.d.o.guard e = some true ∧ p.d.kind ≠ 2 ∧ Pend.reads p.d.hi p.d.o.op v ∈ ps
    | .made id f cs => wants p.d.o.guard e = some true ∧ p.d.kind = 2 ∧ Mk g D cf p.d.o.op e f cs ∧ Pend.made p.d.hi id cs ∈ ps ∧ ι id = none ∧ id < h.next ∧ h₀.next ≤ id
/-- The small machine stands before 'l'; the model has done what is listed; 'L' lags. -/
structure J (l sn : List (Nat × KDr)) (k : Nat) (ps : List Pend) (e : Env) (h : AH) (L : List Lag) (es : Env) (listed : Array Bool) (ι : Inj) (a : Act) (w : World) : Prop where
  chk : chkAll ops nt bs k sn l = true
  sub : ∀ p ∈ L, (p.i, p.d) ∈ sn
  two : ∀ p ∈ sn, ∀ q ∈ sn, p = q ∨ chkTwo bs p q = true ∨ chkTwo bs q p = true
  self : ∀ p ∈ sn, SelfOk ops nt p
  lsz : listed.size = ops.size
  unl : ∀ i, i < ops.size → (listed.getD i false = false ↔ (∃ p ∈ L, p.i = i) ∨ ∃ q ∈ l, q.1 = i)
  one : ∀ p ∈ L, ∀ q ∈ L, p.i = q.i → p = q
  closed : Closed ops listed
  entL : ∀ p ∈ L, Ent P ops nt (p.i, p.d)
  ent : ∀ q ∈ l, Ent P ops nt q
  env : EnvR W ρ ι es a.tmps
  agree : ∀ t, (∀ p ∈ L, p.d.o.dst ≠ some t) → es.get t = e.get t
  size : nt ≤ a.tmps.size
  inv : Inv W ρ ι h w
  lag : ∀ p ∈ L, LagOk g D cf h₀ ι k ps e h p
  ids : ∀ p ∈ L, ∀ q ∈ L, ∀ id f cs f' cs', p.r = .made id f cs → q.r = .made id f' cs' → p = q
  ext : Ext ι₀ h₀ ι h
  defers : a.defers = a₀.defers
end
section
variable {P : Program} {W : World} {ρ : Nat → Int} {g : Nat → Option AV} {D : BinOp → SE → SE → Option Bool} {cf : Nat → List AV → AH → R AV} {ops : Array Oper} {nt : Nat} {bs : Array Nat} {ι₀ : Inj} {h₀ : AH} {a₀ : Act}

theorem exDr_cons {d : KDr} {l : List KDr} {k : Nat} {ps : List Pend} {e eF : Env} {h hF : AH} (hr : exDr g D cf (d :: l) k ps e h = .ok eF hF) :
    (d.kind = 3 ∧ pendOk g D cf e h k ps = true ∧ ((wants d.o.guard e = some false ∧ exDr g D cf l (k + 1) ps (putD d.o.dst (.tup []) e) h = .ok eF hF) ∨
      (wants d.o.guard e = some true ∧ ∃ v h', exOp g D cf d.o.op e h = .ok v h' ∧ exDr g D cf l (k + 1) ps (putD d.o.dst v e) h' = .ok eF hF))) ∨
    (d.kind ≠ 3 ∧ ((wants d.o.guard e = some false ∧ exDr g D cf l k ps (putD d.o.dst (.tup []) e) h = .ok eF hF) ∨
      (wants d.o.guard e = some true ∧ ∃ v h', exOp g D cf d.o.op e h = .ok v h' ∧
        ((d.kind = 2 ∧ ∃ cs, cellsAt h.next h' = some cs ∧ exDr g D cf l k (.made d.hi h.next cs :: ps) (putD d.o.dst v e) h' = .ok eF hF) ∨
        (d.kind ≠ 2 ∧ exDr g D cf l k (.reads d.hi d.o.op v :: ps) (putD d.o.dst v e) h = .ok eF hF))))) := by
  have hx : exDr g D cf (d :: l) k ps e h = (match wants d.o.guard e with
      | none => .bad
      | some false => Bool.rec (motive := fun _ => RE) (exDr g D cf l k ps (putD d.o.dst (.tup []) e) h)
          (Bool.rec (motive := fun _ => RE) .bad (exDr g D cf l (Nat.succ k) ps (putD d.o.dst (.tup []) e) h) (pendOk g D cf e h k ps)) (Nat.beq d.kind 3)
      | some true => Bool.rec (motive := fun _ => RE)
          (match exOp g D cf d.o.op e h with
          | .ok v h' => Bool.rec (motive := fun _ => RE)
              (exDr g D cf l k (.reads d.hi d.o.op v :: ps) (putD d.o.dst v e) h)
              (match cellsAt h.next h' with
              | some cs => exDr g D cf l k (.made d.hi h.next cs :: ps) (putD d.o.dst v e) h'
              | none => .bad) (Nat.beq d.kind 2)
          | _ => .bad)
          (Bool.rec (motive := fun _ => RE) .bad
            (match exOp g D cf d.o.op e h with
            | .ok v h' => exDr g D cf l (Nat.succ k) ps (putD d.o.dst v e) h'
            | _ => .bad) (pendOk g D cf e h k ps)) (Nat.beq d.kind 3)) := rfl
  rw [hx] at hr
  by_cases h3 : d.kind = 3
  · left
    rw [beq_iff.2 h3] at hr
    split at hr
    · cases hr
    · rename_i hw
      cases hp : pendOk g D cf e h k ps with
      | false => rw [hp] at hr; cases hr
      | true => rw [hp] at hr; exact ⟨h3, rfl, .inl ⟨hw, hr⟩⟩
    · rename_i hw
      cases hp : pendOk g D cf e h k ps with
      | false => rw [hp] at hr; cases hr
      | true =>
        rw [hp] at hr
        dsimp only at hr
        split at hr
        · rename_i v h' ho; exact ⟨h3, rfl, .inr ⟨hw, v, h', ho, hr⟩⟩
        · cases hr
  · right
    rw [PT.beq_ne h3] at hr
    refine ⟨h3, ?_⟩
    split at hr
    · cases hr
    · rename_i hw; exact .inl ⟨hw, hr⟩
    · rename_i hw
      dsimp only at hr
      split at hr
      · rename_i v h' ho
        refine .inr ⟨hw, v, h', ho, ?_⟩
        by_cases h2 : d.kind = 2
        · rw [beq_iff.2 h2] at hr
          dsimp only at hr
          split at hr
          · rename_i cs hcs; exact .inl ⟨h2, cs, hcs, hr⟩
          · cases hr
        · rw [PT.beq_ne h2] at hr
          exact .inr ⟨h2, hr⟩
      · cases hr
theorem exDr_nil {k : Nat} {ps : List Pend} {e eF : Env} {h hF : AH} (hr : exDr g D cf [] k ps e h = .ok eF hF) : pendOk g D cf e h k ps = true ∧ eF = e ∧ hF = h := by
  have hx : exDr g D cf [] k ps e h = Bool.rec (motive := fun _ => RE) .bad (.ok e h) (pendOk g D cf e h k ps) := rfl
  rw [hx] at hr
  cases hp : pendOk g D cf e h k ps with
  | false => rw [hp] at hr; cases hr
  | true => rw [hp] at hr; injection hr with h1 h2; exact ⟨rfl, h1.symm, h2.symm⟩

theorem guard_reads {o : KOper} {t : Nat} {b : Bool} (h : o.guard = some (t, b)) : t ∈ koReads o := by simp [koReads, h]
theorem op_reads {o : KOper} {t : Nat} (h : t ∈ kreads o.op) : t ∈ koReads o := by simp [koReads, h]
theorem Same.atOp {o : KOper} {e e' : Env} (s : Same e e' (koReads o)) : Same e e' (kreads o.op) := fun t ht => s t (op_reads ht)
theorem Same.atGuard {o : KOper} {e e' : Env} (s : Same e e' (koReads o)) : wants o.guard e = wants o.guard e' := wants_congr fun t b hb => s t (guard_reads hb)
theorem same_putD {l : List Nat} {d : Option Nat} {v : AV} {e : Env} (h : ∀ f, d = some f → f ∉ l) : Same e (putD d v e) l := fun t ht => by
  rw [putD_get, if_neg fun hh => h t hh ht]
/-- What lags lags on, if the small machine does one more. -/
theorem LagOk.step {ι ι' : Inj} {k k' : Nat} {ps ps' : List Pend} {e : Env} {h h' : AH} {p : Lag} (x : LagOk g D cf h₀ ι k ps e h p) {q : Nat × KDr} {v : AV} (htwo : chkTwo bs (p.i, p.d) q = true) (hk : k' ≤ p.d.hi)
    (hps : ∀ y ∈ ps, y ∈ ps') (hι : ∀ b, b < h.next → ι' b = ι b) (hn : h.next ≤ h'.next) : LagOk g D cf h₀ ι' k' ps' (putD q.2.o.dst v e) h' p := by
  obtain ⟨-, t2, t3, -, -⟩ := chkTwo_spec htwo
  have s : Same e (putD q.2.o.dst v e) (koReads p.d.o) := same_putD fun f hf => t3 f hf
  refine ⟨x.kind, hk, fun t ht => ?_, ?_⟩
  · rw [putD_get, if_neg fun hh => t2 t t ht hh rfl]; exact x.val t ht
  · have hr := x.r
    split at hr
    · rename_i hp; rw [← s.atGuard]; exact hr
    · rename_i v hp; rw [← s.atGuard]; exact ⟨hr.1, hr.2.1, hps _ hr.2.2⟩
    · rename_i id f cs hp
      rw [← s.atGuard]
      exact ⟨hr.1, hr.2.1, fun h => by rw [← exOp_congr s.atOp]; exact hr.2.2.1 h, hps _ hr.2.2.2.1, (hι _ hr.2.2.2.2.2.1).trans hr.2.2.2.2.1, Nat.lt_of_lt_of_le hr.2.2.2.2.2.1 hn, hr.2.2.2.2.2.2⟩

/-- The small machine goes ahead. -/
theorem J.push {q : Nat × KDr} {l sn : List (Nat × KDr)} {k : Nat} {ps ps' : List Pend} {e es : Env} {h h' : AH} {L : List Lag} {listed : Array Bool} {ι : Inj} {a : Act} {w : World}
    (j : J P W ρ g D cf ops nt bs ι₀ h₀ a₀ (q :: l) sn k ps e h L es listed ι a w) (hk : q.2.kind ≠ 3) {r : Lv} (hps : ∀ y ∈ ps, y ∈ ps') (hn : h.next ≤ h'.next) (hI : Inv W ρ ι h' w)
    (hlag : match r with
      | .skip => wants q.2.o.guard e = some false
      | .val v => wants q.2.o.guard e = some true ∧ q.2.kind ≠ 2 ∧ Pend.reads q.2.hi q.2.o.op v ∈ ps'
      | .made id f cs => wants q.2.o.guard e = some true ∧ q.2.kind = 2 ∧ Mk g D cf q.2.o.op e f cs ∧ Pend.made q.2.hi id cs ∈ ps' ∧ id < h'.next ∧ h.next ≤ id) :
    J P W ρ g D cf ops nt bs ι₀ h₀ a₀ l (q :: sn) k ps' (putD q.2.o.dst (Lag.v ⟨q.1, q.2, r⟩) e) h' (⟨q.1, q.2, r⟩ :: L) es listed ι a w := by
  obtain ⟨c1, c2⟩ := chkAll_cons j.chk
  obtain ⟨c3, c4, -, c5⟩ := chkOne_spec c1
  rw [show (q.2.kind == 3) = false from by simpa using hk] at c2
  have hs : Same e (putD q.2.o.dst (Lag.v ⟨q.1, q.2, r⟩) e) (koReads q.2.o) := same_putD fun f hf => (c3.2 f hf).1
  have hne : ∀ p ∈ L, p.i ≠ q.1 := fun p hp => (chkTwo_spec (c4 _ (j.sub p hp))).1
  exact {
    chk := c2
    sub := fun p hp => by
      rcases List.mem_cons.1 hp with rfl | hp
      · exact List.mem_cons_self
      · exact List.mem_cons_of_mem _ (j.sub p hp)
    two := fun p hp p' hp' => by
      rcases List.mem_cons.1 hp with q1 | q1 <;> rcases List.mem_cons.1 hp' with q2 | q2
      · exact .inl (q1.trans q2.symm)
      · exact .inr (.inr (q1 ▸ c4 _ q2))
      · exact .inr (.inl (q2 ▸ c4 _ q1))
      · exact j.two p q1 p' q2
    self := fun p hp => by
      rcases List.mem_cons.1 hp with rfl | hp
      · exact c3
      · exact j.self p hp
    lsz := j.lsz
    unl := fun i hi => by
      rw [j.unl i hi]
      constructor
      · rintro (⟨p, hp, h⟩ | ⟨p, hp, h⟩)
        · exact .inl ⟨p, List.mem_cons_of_mem _ hp, h⟩
        · rcases List.mem_cons.1 hp with rfl | hp
          · exact .inl ⟨_, List.mem_cons_self, h⟩
          · exact .inr ⟨p, hp, h⟩
      · rintro (⟨p, hp, h⟩ | ⟨p, hp, h⟩)
        · rcases List.mem_cons.1 hp with rfl | hp
          · exact .inr ⟨q, List.mem_cons_self, h⟩
          · exact .inl ⟨p, hp, h⟩
        · exact .inr ⟨p, List.mem_cons_of_mem _ hp, h⟩
    one := fun p hp p' hp' hi => by
      rcases List.mem_cons.1 hp with q1 | q1 <;> rcases List.mem_cons.1 hp' with q2 | q2
      · exact q1.trans q2.symm
      · subst q1; exact absurd hi.symm (hne p' q2)
      · subst q2; exact absurd hi (hne p q1)
      · exact j.one p q1 p' q2 hi
    closed := j.closed
    entL := fun p hp => by
      rcases List.mem_cons.1 hp with rfl | hp
      · exact j.ent q List.mem_cons_self
      · exact j.entL p hp
    ent := fun p hp => j.ent p (List.mem_cons_of_mem _ hp)
    env := j.env
    agree := fun t ht => by
      rw [putD_get, if_neg (ht _ List.mem_cons_self)]
      exact j.agree t fun p hp => ht p (List.mem_cons_of_mem _ hp)
    size := j.size
    inv := hI
    lag := fun p hp => by
      rcases List.mem_cons.1 hp with rfl | hp
      · refine ⟨hk, c5 hk, fun t ht => by rw [putD_get, if_pos ht], ?_⟩
        cases r with
        | skip => dsimp only at hlag ⊢; rw [← hs.atGuard]; exact hlag
        | val v => dsimp only at hlag ⊢; rw [← hs.atGuard]; exact hlag
        | made id f cs =>
          dsimp only at hlag ⊢
          rw [← hs.atGuard]
          obtain ⟨m1, m2, m3, m4, m5, m6⟩ := hlag
          exact ⟨m1, m2, fun h => by rw [← exOp_congr hs.atOp]; exact m3 h, m4, j.inv.dom_none m6, m5, Nat.le_trans j.ext.next m6⟩
      · exact (j.lag p hp).step (c4 _ (j.sub p hp)) (j.lag p hp).hi hps (fun _ _ => rfl) hn
    ids := fun p hp p' hp' id f cs f' cs' hr hr' => by
      have old : ∀ p ∈ L, ∀ id f cs, p.r = .made id f cs → id < h.next := fun p hp id f cs hr => by
        have := (j.lag p hp).r; rw [hr] at this; exact this.2.2.2.2.2.1
      rcases List.mem_cons.1 hp with rfl | q1 <;> rcases List.mem_cons.1 hp' with rfl | q2
      · rfl
      · dsimp only at hr; subst hr; have := old p' q2 _ _ _ hr'; have := hlag.2.2.2.2.2; omega
      · dsimp only at hr'; subst hr'; have := old p q1 _ _ _ hr; have := hlag.2.2.2.2.2; omega
      · exact j.ids p q1 p' q2 _ _ _ _ _ hr hr'
    ext := j.ext.trans ⟨ι.le_refl, fun _ _ => rfl, hn⟩
    defers := j.defers }
/-- It goes ahead as far as it may. -/
theorem settle {eF : Env} {hF : AH} : ∀ {l sn : List (Nat × KDr)} {k : Nat} {ps : List Pend} {e es : Env} {h : AH} {L : List Lag} {listed : Array Bool} {ι : Inj} {a : Act} {w : World},
    J P W ρ g D cf ops nt bs ι₀ h₀ a₀ l sn k ps e h L es listed ι a w → exDr g D cf (l.map (·.2)) k ps e h = .ok eF hF →
    ∃ l' sn' ps' e' h' L', J P W ρ g D cf ops nt bs ι₀ h₀ a₀ l' sn' k ps' e' h' L' es listed ι a w ∧ exDr g D cf (l'.map (·.2)) k ps' e' h' = .ok eF hF ∧ (l' = [] ∨ ∃ q r, l' = q :: r ∧ q.2.kind = 3)
  | [], sn, k, ps, e, es, h, L, listed, ι, a, w, j, hr => ⟨_, _, _, _, _, _, j, hr, .inl rfl⟩
  | q :: l, sn, k, ps, e, es, h, L, listed, ι, a, w, j, hr => by
    by_cases h3 : q.2.kind = 3
    · exact ⟨_, _, _, _, _, _, j, hr, .inr ⟨q, l, rfl, h3⟩⟩
    · rcases exDr_cons hr with ⟨hk, -, -⟩ | ⟨-, hor⟩
      · exact absurd hk h3
      · rcases hor with ⟨hw, hrun⟩ | ⟨hw, v, h', hx, hor⟩
        · exact settle (j.push h3 (r := .skip) (ps' := ps) (fun _ hy => hy) (Nat.le_refl _) j.inv hw) hrun
        · rcases hor with ⟨h2, cs, hcs, hrun⟩ | ⟨h2, hrun⟩
          · obtain ⟨o, he1, he2, he3⟩ := j.ent q List.mem_cons_self
            obtain ⟨f, cs', rfl, rfl, hm⟩ := exOp_mk (he3.symm.trans h2) hx
            rw [newBlk_cells] at hcs; injection hcs with hcs; subst hcs
            refine settle (j.push h3 (r := .made h.next f cs') (ps' := .made q.2.hi h.next cs' :: ps) (fun _ hy => List.mem_cons_of_mem _ hy) (Nat.le_succ _) ?_ ⟨hw, h2, hm, List.mem_cons_self, Nat.lt_succ_self _, Nat.le_refl _⟩) hrun
            refine j.inv.other (Nat.le_succ _) fun b hb => ?_
            rw [newBlk_get, if_neg]
            rintro rfl; exact hb (j.inv.dom_none (Nat.le_refl _))
          · exact settle (j.push h3 (r := .val v) (ps' := .reads q.2.hi q.2.o.op v :: ps) (fun _ hy => List.mem_cons_of_mem _ hy) (Nat.le_refl _) j.inv ⟨hw, h2, List.mem_cons_self⟩) hrun
end
end Go.KM
