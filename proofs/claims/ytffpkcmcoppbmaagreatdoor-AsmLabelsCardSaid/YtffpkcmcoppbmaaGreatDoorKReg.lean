/-
  A region of the small machine whose order is the text's is one of the model's.
-/
import Derived.Test.YtffpkcmcoppbmaaGreatDoorKExec
import Derived.Tactics
namespace Go.KM
open Go.RowKit

/-- How a frame stands to the small machine's values. -/
structure St (W : World) (ρ : Nat → Int) (n : Nat) (ι : Inj) (e : Env) (h : AH) (a : Act) (w : World) : Prop where
  env : EnvR W ρ ι e a.tmps
  size : n ≤ a.tmps.size
  inv : Inv W ρ ι h w
/-- What becomes of a frame. -/
structure Goes (W : World) (ρ : Nat → Int) (n : Nat) (ι : Inj) (h : AH) (a : Act) (e' : Env) (h' : AH) (ι' : Inj) (a' : Act) (w' : World) : Prop where
  le : Ext ι h ι' h'
  st : St W ρ n ι' e' h' a' w'
  defers : a'.defers = a.defers
def REPost (W : World) (ρ : Nat → Int) (n : Nat) (ι : Inj) (h : AH) (a : Act) (Q : Exit → Act → World → Prop) : RE → Prop
  | .ok e' h' => ∀ ι' a' w', Goes W ρ n ι h a e' h' ι' a' w' → Q .normal a' w'
  | .pan v e' h' => ∀ ι' a' w' v', Goes W ρ n ι h a e' h' ι' a' w' → Rel W ρ ι' v v' → Q (.panic [{ v := v', recovered := false }]) a' w'
  | .bad => False

section
variable {P : Program} {W : World} {ρ : Nat → Int} {ι κ : Inj} {h : AH} {w : World} {g : Nat → Option AV} {D : BinOp → SE → SE → Option Bool} {cf : Nat → List AV → AH → R AV} {e : Env} {a : Act} {n : Nat}

theorem Goes.refl (hs : St W ρ n ι e h a w) : Goes W ρ n ι h a e h ι a w := ⟨.refl ι h, hs, rfl⟩
theorem Goes.trans {e' e'' : Env} {h' h'' : AH} {ι' ι'' : Inj} {a' a'' : Act} {w' w'' : World} (x : Goes W ρ n ι h a e' h' ι' a' w') (y : Goes W ρ n ι' h' a' e'' h'' ι'' a'' w'') : Goes W ρ n ι h a e'' h'' ι'' a'' w'' :=
  ⟨x.le.trans y.le, y.st, y.defers.trans x.defers⟩
theorem REPost.trans {Q : Exit → Act → World → Prop} {e' : Env} {h' : AH} {ι' : Inj} {a' : Act} {w' : World} {r : RE} (x : Goes W ρ n ι h a e' h' ι' a' w') (hp : REPost W ρ n ι h a Q r) : REPost W ρ n ι' h' a' Q r := by
  cases r with
  | ok e h => exact fun ι'' a'' w'' y => hp ι'' a'' w'' (x.trans y)
  | pan v e h => exact fun ι'' a'' w'' v' y hv => hp ι'' a'' w'' v' (x.trans y) hv
  | bad => exact hp
theorem put_size (a : Act) (d : Option Tmp) (v : Value) : (a.put d v).tmps.size = a.tmps.size := by cases d <;> simp [Act.put]
theorem put_defers (a : Act) (d : Option Tmp) (v : Value) : (a.put d v).defers = a.defers := by cases d <;> rfl
theorem put_get (a : Act) (d : Option Tmp) (v : Value) (t : Nat) (hd : ∀ q, d = some q → q < a.tmps.size) : (a.put d v).tmps[t]? = if d = some t then some v else a.tmps[t]? := by
  cases d with
  | none => simp [Act.put]
  | some q =>
    simp only [Act.put, Array.getElem?_setIfInBounds, Option.some.injEq]
    by_cases hq : q = t
    · subst hq; simp [hd q rfl]
    · simp [hq]
theorem putD_get (d : Option Nat) (v : AV) (e : Env) (t : Nat) : (putD d v e).get t = if d = some t then some v else e.get t := by
  cases d with
  | none => simp [putD]
  | some q =>
    show (e.set q v).get t = _
    rw [PT.get_set]
    by_cases hq : t = q
    · subst hq; simp
    · simp [hq, Ne.symm hq]
theorem EnvR.put (hr : EnvR W ρ ι e a.tmps) {d : Option Nat} {v : AV} {v' : Value} (hd : ∀ q, d = some q → q < a.tmps.size) (hv : Rel W ρ ι v v') : EnvR W ρ ι (putD d v e) (a.put d v').tmps := by
  intro t u hu
  rw [putD_get] at hu
  rw [put_get _ _ _ _ hd]
  split at hu
  · rename_i hq; rw [if_pos hq]; injection hu with hu; subst hu; exact ⟨v', rfl, hv⟩
  · rename_i hq; rw [if_neg hq]; exact hr t u hu
theorem koper_some {ops : Array Oper} {o : Oper} {k : KOper} (hk : koper P n ops o = some k) :
    kop P o.op = some k.op ∧ k.dst = o.dst ∧ (∀ d, o.dst = some d → d < n) ∧ ((o.guard = none ∧ k.guard = none) ∨ ∃ j b d, o.guard = some (j, b) ∧ k.guard = some (d, b) ∧ (ops[j]?).bind (·.dst) = some d) := by
  unfold koper at hk
  split at hk
  · cases hk
  · rename_i q hq
    split at hk
    · cases hk
    · rename_i hd
      have hdd : ∀ d, o.dst = some d → d < n := fun d he => by
        rw [he] at hd
        simp only [Option.map_some] at hd
        by_cases hlt : d < n
        · exact hlt
        · exact absurd (by simp [hlt]) hd
      split at hk
      · rename_i hg; injection hk with hk; subst hk; exact ⟨hq, rfl, hdd, .inl ⟨hg, rfl⟩⟩
      · rename_i j b hg
        split at hk
        · rename_i d hj; injection hk with hk; subst hk; exact ⟨hq, rfl, hdd, .inr ⟨j, b, d, hg, rfl, hj⟩⟩
        · cases hk
/-- Whether an operation is done, both say the same. -/
theorem wants_sound {ops : Array Oper} {o : Oper} {k : KOper} (hg : (o.guard = none ∧ k.guard = none) ∨ ∃ j b d, o.guard = some (j, b) ∧ k.guard = some (d, b) ∧ (ops[j]?).bind (·.dst) = some d)
    (hr : ∀ d b, k.guard = some (d, b) → ∀ v, e.get d = some v → ∃ v', a.tmps[d]? = some v' ∧ Rel W ρ ι v v') {c : Bool} (hw : wants k.guard e = some c) : Region.wanted o (yielded ops a.tmps) = c := by
  rcases hg with ⟨h1, h2⟩ | ⟨j, b, d, h1, h2, h3⟩
  · rw [h2] at hw
    simp only [wants] at hw
    injection hw with hw; subst hw
    simp [Region.wanted, h1]
  · rw [h2] at hw
    simp only [wants] at hw
    split at hw
    · rename_i q hq
      injection hw with hw; subst hw
      obtain ⟨v', k1, k2⟩ := hr d b h2 _ hq
      cases k2
      simp only [Region.wanted, h1, yielded, h3, Option.bind_some, k1]
      cases b <;> cases q <;> rfl
    · rename_i vs hq
      injection hw with hw; subst hw
      obtain ⟨v', k1, k2⟩ := hr d b h2 _ hq
      cases k2
      simp [Region.wanted, h1, yielded, h3, k1]
    · cases hw
theorem exOper_bad {o : KOper} {e : Env} {h : AH} (hb : exOper g D cf o e h ≠ .bad) :
    (wants o.guard e = some false ∧ exOper g D cf o e h = .ok (putD o.dst (.tup []) e) h) ∨ (wants o.guard e = some true ∧ exOp g D cf o.op e h ≠ .bad) := by
  unfold exOper at hb ⊢
  cases hw : wants o.guard e with
  | none => rw [hw] at hb; exact absurd rfl hb
  | some b =>
    rw [hw] at hb
    cases b with
    | false => exact .inl ⟨rfl, rfl⟩
    | true =>
      right
      refine ⟨rfl, fun hh => ?_⟩
      dsimp only at hb
      rw [hh] at hb; exact hb rfl
theorem opers_sound (hg : GOk W ρ g) (hD : DOk ρ D) (hc : CfOk P W ρ cf) {ops : Array Oper} {Q : Exit → Act → World → Prop} : ∀ {l : List Oper} {ks : List KOper} {ι : Inj} {e : Env} {h : AH} {a : Act} {w : World}, kopers P n ops l = some ks →
    St W ρ n ι e h a w → exOpers g D cf ks e h ≠ .bad → REPost W ρ n ι h a Q (exOpers g D cf ks e h) → wpList P ops Q l a w
  | [], ks, ι, e, h, a, w, hk, hs, hb, hp => by
    simp only [kopers] at hk
    injection hk with hk; subst hk
    exact hp ι a w (Goes.refl hs)
  | o :: l, ks, ι, e, h, a, w, hk, hs, hb, hp => by
    simp only [kopers] at hk
    split at hk
    · rename_i k r h1 h2
      injection hk with hk; subst hk
      obtain ⟨q1, q2, q3, q4⟩ := koper_some h1
      have hx : exOpers g D cf (k :: r) e h = (match exOper g D cf k e h with | .ok e h => exOpers g D cf r e h | r => r) := rfl
      have hd : ∀ d, o.dst = some d → d < a.tmps.size := fun d he => Nat.lt_of_lt_of_le (q3 d he) hs.size
      have hxb : exOper g D cf k e h ≠ .bad := fun hh => by rw [hx, hh] at hb; exact hb rfl
      rw [hx] at hb hp
      refine wpList_step fun K hK => ?_
      rcases exOper_bad hxb with ⟨hw, he⟩ | ⟨hw, hxo⟩
      · rw [wants_sound q4 (fun d b _ v hv => hs.env d v hv) hw]
        simp only [Bool.false_eq_true, if_false]
        rw [he] at hb hp
        dsimp only at hb hp
        rw [q2] at hb hp
        have hgo : Goes W ρ n ι h a (putD o.dst (.tup []) e) h ι (a.put o.dst undef) w := ⟨.refl ι h, ⟨hs.env.put hd (.tup _ _ .nil), by rw [put_size]; exact hs.size, hs.inv⟩, put_defers _ _ _⟩
        exact hK _ _ (opers_sound hg hD hc h2 hgo.st hb (hp.trans hgo))
      · rw [wants_sound q4 (fun d b _ v hv => hs.env d v hv) hw]
        simp only [if_true]
        refine exOp_sound hg hD hc hs.inv hs.env q1 hxo ?_
        have hxe : exOper g D cf k e h = (match exOp g D cf k.op e h with | .ok v h => .ok (putD k.dst v e) h | .pan v h => .pan v e h | .bad => .bad) := by
          unfold exOper; rw [hw]; rfl
        rw [hxe, q2] at hb hp
        cases hr : exOp g D cf k.op e h with
        | bad => exact absurd hr hxo
        | ok v h' =>
          rw [hr] at hb hp
          dsimp only at hb hp
          intro ι' w' v' m1 m2 m3
          have hgo : Goes W ρ n ι h a (putD o.dst v e) h' ι' (a.put o.dst v') w' := ⟨m1, ⟨(hs.env.mono m1.le).put hd m3, by rw [put_size]; exact hs.size, m2⟩, put_defers _ _ _⟩
          exact hK _ _ (opers_sound hg hD hc h2 hgo.st hb (hp.trans hgo))
        | pan v h' =>
          rw [hr] at hb hp
          intro ι' w' v' m1 m2 m3
          exact hp ι' a w' v' ⟨m1, ⟨hs.env.mono m1.le, hs.size, m2⟩, rfl⟩ m3
    · cases hk
end
end Go.KM
