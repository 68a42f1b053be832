/-
  A region whose order is open: the small machine runs it in one order; whatever the model's order, it comes to the same.
-/
import Derived.Test.YtffpkcmcoppbmaaGreatDoorKDrawD
namespace Go.KM
open Go.RowKit
section
variable {P : Program} {W : World} {ρ : Nat → Int} {g : Nat → Option AV} {D : BinOp → SE → SE → Option Bool} {cf : Nat → List AV → AH → R AV} {ops : Array Oper} {nt : Nat} {bs : Array Nat} {ι₀ : Inj} {h₀ : AH} {a₀ : Act}

theorem wpOp_run {ι : Inj} {a : Act} {w : World} {es : Env} (hr : EnvR W ρ ι es a.tmps) {i : Nat} {o : Oper} {k : KOper} (ho : ops[i]? = some o) (hk : koper P nt ops o = some k) {K : Act → World → Prop} {Q : Exit → Act → World → Prop} :
    (wants k.guard es = some false → K (a.put k.dst undef) w → wpOp P ops Q i K a w) ∧ (wants k.guard es = some true → o.wp P a w K Q → wpOp P ops Q i K a w) := by
  obtain ⟨-, q2, -, q4⟩ := koper_some hk
  constructor
  · intro hw h
    have := wants_sound q4 (fun d b _ v hv => hr d v hv) hw
    unfold wpOp; rw [ho]; dsimp only; rw [if_neg (by rw [this]; simp)]; rw [← q2]; exact h
  · intro hw h
    have := wants_sound q4 (fun d b _ v hv => hr d v hv) hw
    unfold wpOp; rw [ho]; dsimp only; rw [if_pos this]; exact .inl h
theorem count_set {listed : Array Bool} {i : Nat} (hi : i < listed.size) (hf : listed.getD i false = false) {n : Nat} (h : listed.toList.count false ≤ n + 1) : (listed.setIfInBounds i true).toList.count false ≤ n := by
  have hl : i < listed.toList.length := by simpa using hi
  have hg : listed.toList[i] = false := by simpa [hi] using hf
  have hpos : 0 < listed.toList.count false := List.count_pos_iff.2 (hg ▸ List.getElem_mem hl)
  rw [Array.toList_setIfInBounds, List.count_set hl, hg]
  simp; simp at h hpos; omega
theorem all_listed {listed : Array Bool} (hs : listed.size = ops.size) (h : listed.toList.count false = 0) : ∀ i, i < ops.size → listed.getD i false = true := by
  intro i hi
  have hl : i < listed.size := by omega
  cases hg : listed.getD i false with
  | true => rfl
  | false =>
    have : listed.toList[i]'(by simpa using hl) = false := by simpa [hl] using hg
    have hm := List.getElem_mem (l := listed.toList) (n := i) (by simpa using hl)
    rw [this] at hm
    have := List.count_pos_iff.2 hm
    omega
theorem unready_all (he : chkEdges ops = true) {listed : Array Bool} (hs : listed.size = ops.size) (h : Region.ready .any ops listed = []) : ∀ i, i < ops.size → listed.getD i false = true := by
  intro i
  induction i using Nat.strongRecOn with
  | ind i ih =>
    intro hi
    cases hg : listed.getD i false with
    | true => rfl
    | false =>
      exfalso
      have ho : ops[i]? = some ops[i] := Array.getElem?_eq_getElem hi
      simp only [chkEdges, List.all_eq_true, List.mem_range] at he
      have h1 := he i hi
      rw [ho] at h1
      simp only [List.all_eq_true, Bool.or_eq_true, Bool.not_eq_true', decide_eq_true_eq] at h1
      have hm : i ∈ Region.ready .any ops listed := by
        rw [mem_ready]
        refine ⟨?_, _, ho, fun ed hed hb => ?_⟩
        · have : i < listed.size := by omega
          simpa [this] using hg
        · rcases h1 ed (Array.mem_toList_iff.2 hed) with hn | hlt
          · rw [hb] at hn; cases hn
          · exact ih ed.on hlt (Nat.lt_trans hlt hi)
      rw [h] at hm; cases hm
/-- The model may do what it may; all comes to the small machine's. -/
theorem draw_any (hg : GOk W ρ g) (hD : DOk ρ D) (hc : CfOk P W ρ cf) (hf : chkFore ops bs = true) (he : chkEdges ops = true) {eF : Env} {hF : AH} {Q : Exit → Act → World → Prop}
    (hQ : ∀ ι' a' w', Goes W ρ nt ι₀ h₀ a₀ eF hF ι' a' w' → Q .normal a' w') : ∀ (fuel : Nat) {l sn : List (Nat × KDr)} {k : Nat} {ps : List Pend} {e es : Env} {h : AH} {L : List Lag} {listed : Array Bool} {ι : Inj} {a : Act} {w : World},
    J P W ρ g D cf ops nt bs ι₀ h₀ a₀ l sn k ps e h L es listed ι a w → exDr g D cf (l.map (·.2)) k ps e h = .ok eF hF → listed.toList.count false ≤ fuel → wpAny P .any ops Q fuel listed a w := by
  intro fuel
  induction fuel with
  | zero =>
    intro l sn k ps e es h L listed ι a w j hr hcount
    have hall := all_listed j.lsz (Nat.le_zero.1 hcount)
    obtain ⟨l', sn', ps', e', h', L', j', hr', -⟩ := settle j hr
    have hL : L' = [] := List.eq_nil_iff_forall_not_mem.2 fun p hp => by
      obtain ⟨h1, h2⟩ := j'.unlL hp
      rw [hall _ h1] at h2; cases h2
    have hl : l' = [] := List.eq_nil_iff_forall_not_mem.2 fun q hq => by
      obtain ⟨o, ho, -⟩ := j'.ent q hq
      have hi := (Array.getElem?_eq_some_iff.1 ho).1
      have := (j'.unl q.1 hi).2 (.inr ⟨q, hq, rfl⟩)
      rw [hall _ hi] at this; cases this
    subst hL hl
    obtain ⟨-, rfl, rfl⟩ := exDr_nil hr'
    refine ⟨List.eq_nil_iff_forall_not_mem.2 fun i hi => ?_, hQ ι a w ⟨j'.ext, ⟨fun t v hv => j'.env t v (by rw [j'.agree t (by simp)]; exact hv), j'.size, j'.inv⟩, j'.defers⟩⟩
    obtain ⟨h1, o, ho, -⟩ := mem_ready.1 hi
    have hlt := (Array.getElem?_eq_some_iff.1 ho).1
    have := hall i hlt
    have hlt' : i < listed.size := by rw [j.lsz]; exact hlt
    simp [hlt'] at h1 this
    rw [h1] at this; cases this
  | succ fuel ih =>
    intro l sn k ps e es h L listed ι a w j hr hcount
    obtain ⟨l', sn', ps', e', h', L', j', hr', hor⟩ := settle j hr
    clear j hr
    constructor
    · intro hre
      have hall := unready_all he j'.lsz hre
      have hL : L' = [] := List.eq_nil_iff_forall_not_mem.2 fun p hp => by
        obtain ⟨h1, h2⟩ := j'.unlL hp
        rw [hall _ h1] at h2; cases h2
      have hl : l' = [] := List.eq_nil_iff_forall_not_mem.2 fun q hq => by
        obtain ⟨o, ho, -⟩ := j'.ent q hq
        have hi := (Array.getElem?_eq_some_iff.1 ho).1
        have := (j'.unl q.1 hi).2 (.inr ⟨q, hq, rfl⟩)
        rw [hall _ hi] at this; cases this
      subst hL hl
      obtain ⟨-, rfl, rfl⟩ := exDr_nil hr'
      exact hQ ι a w ⟨j'.ext, ⟨fun t v hv => j'.env t v (by rw [j'.agree t (by simp)]; exact hv), j'.size, j'.inv⟩, j'.defers⟩
    · intro i hi
      obtain ⟨h1, o, ho, hall⟩ := mem_ready.1 hi
      have hlt := (Array.getElem?_eq_some_iff.1 ho).1
      have hlt' : i < listed.size := by rw [j'.lsz]; exact hlt
      have hu : listed.getD i false = false := by simpa [hlt'] using h1
      have hcount' := count_set hlt' hu hcount
      have hpend : pendOk g D cf e' h' k ps' = true := by
        rcases hor with rfl | ⟨q, r, rfl, h3⟩
        · exact (exDr_nil hr').1
        · rcases exDr_cons hr' with ⟨-, hp, -⟩ | ⟨hn, -⟩
          · exact hp
          · exact absurd h3 hn
      rcases (j'.unl i hlt).1 hu with ⟨p, hp, rfl⟩ | ⟨q, hq, rfl⟩
      · -- one that lags
        have x := j'.lag p hp
        have hself := j'.self _ (j'.sub p hp)
        have hsame : Same es e' (koReads p.d.o) := j'.same hf (q := (p.i, p.d)) ho hall fun p' hp' => by
          rcases j'.two _ (j'.sub p' hp') _ (j'.sub p hp) with heq | h | h
          · left; intro t ht
            have : p' = p := j'.one p' hp' p hp (congrArg Prod.fst heq)
            subst this
            exact (hself.2 t ht).1
          · exact .inr h
          · left; intro t ht; exact (chkTwo_spec h).2.2.1 t ht
        obtain ⟨o', ho', hko, hkd⟩ := j'.entL p hp
        rw [ho] at ho'; injection ho' with ho'; subst ho'
        obtain ⟨run0, run1⟩ := wpOp_run (w := w) j'.env ho hko (K := wpAny P .any ops Q fuel (listed.setIfInBounds p.i true)) (Q := Q)
        rw [hsame.atGuard] at run0 run1
        obtain ⟨hkop, hdst, -, -⟩ := koper_some hko
        have hxr := x.r
        cases hpr : p.r with
        | skip =>
          rw [hpr] at hxr
          refine run0 hxr (ih (j'.catch hp ho hall ι.le_refl (fun _ _ => rfl) (fun p' hp' _ id f cs hr' => ?_) j'.inv ?_) hr' hcount')
          · have := (j'.lag p' hp').r; rw [hr'] at this; exact this.2.2.2.2.1
          · unfold Lag.v; rw [hpr]; exact .tup _ _ .nil
        | val v =>
          rw [hpr] at hxr
          obtain ⟨m1, m2, m3⟩ := hxr
          have hk1 : kindOf p.d.o.op = 1 := by
            rcases kindOf_cases p.d.o.op with h | h | h
            · exact h
            · exact absurd (hkd.trans h) m2
            · exact absurd (hkd.trans h) x.kind
          obtain ⟨h1', hxo⟩ := pend_reads hpend m3 x.hi
          have := exOp_sameH hk1 _ _ hxo; subst this
          have hxo' : exOp g D cf p.d.o.op es h1' = .ok v h1' := (exOp_congr hsame.atOp).trans hxo
          refine run1 m1 (exOp_sound hg hD hc j'.inv j'.env hkop (by rw [hxo']; simp) ?_)
          rw [hxo']
          intro ι' w' v' e1 e2 e3
          rw [← hdst]
          refine ih (j'.catch hp ho hall e1.le (fun b hb => e1.same b (Nat.lt_of_lt_of_le hb j'.ext.next)) (fun p' hp' _ id f cs hr' => ?_) e2 ?_) hr' hcount'
          · have := (j'.lag p' hp').r; rw [hr'] at this; exact (e1.same _ this.2.2.2.2.2.1).trans this.2.2.2.2.1
          · unfold Lag.v; rw [hpr]; exact e3
        | made id f cs =>
          rw [hpr] at hxr
          obtain ⟨m1, m2, m3, m4, m5, m6, m7⟩ := hxr
          have hcs := cellsAt_some (pend_made hpend m4 x.hi)
          refine run1 m1 (exOp_made hg j'.env hkop (hkd ▸ m2) (fun hh => (exOp_congr hsame.atOp).trans (m3 hh)) fun v' c t hcell hrel => ?_)
          rw [← hdst]
          have hput := Inj.put_same ι id (w.heap.size, 0, c.size)
          refine ih (j'.catch hp ho hall (Inj.le_put ι id (w.heap.size, 0, c.size) m5) (fun b hb => ?_) (fun p' hp' hne id' f' cs' hr' => ?_) (j'.inv.adopt id m5 m6 cs hcs c t (0, 0) (.inl (Nat.le_refl _)) hcell) ?_) hr' hcount'
          · unfold Inj.put; rw [if_neg (by omega)]
          · unfold Inj.put
            split
            · rename_i hid; subst hid
              exact absurd (congrArg Lag.i (j'.ids p' hp' p hp _ _ _ _ _ hr' hpr)) hne
            · have := (j'.lag p' hp').r; rw [hr'] at this; exact this.2.2.2.2.1
          · unfold Lag.v; rw [hpr]; exact hrel _ _ hput
      · -- the next of the kind 3
        rcases hor with rfl | ⟨q0, r, rfl, h3⟩
        · cases hq
        obtain ⟨c1, c2⟩ := chkAll_cons j'.chk
        obtain ⟨c3, c4, c5, -⟩ := chkOne_spec c1
        have hqq : q = q0 := by
          rcases List.mem_cons.1 hq with h | h
          · exact h
          · exfalso
            have := fore_listed hf j'.closed q.1 o ho hall q0.1 c3.1 ((chkTwo_spec (chkAll_later c2 q0 List.mem_cons_self q h)).2.2.2.2 h3)
            rw [(j'.unl q0.1 c3.1).2 (.inr ⟨q0, List.mem_cons_self, rfl⟩)] at this; cases this
        subst hqq
        have hsame : Same es e' (koReads q.2.o) := j'.same hf ho hall fun p' hp' => .inr (c4 _ (j'.sub p' hp'))
        obtain ⟨o', ho', hko, hkd⟩ := j'.ent q List.mem_cons_self
        rw [ho] at ho'; injection ho' with ho'; subst ho'
        obtain ⟨run0, run1⟩ := wpOp_run (w := w) j'.env ho hko (K := wpAny P .any ops Q fuel (listed.setIfInBounds q.1 true)) (Q := Q)
        rw [hsame.atGuard] at run0 run1
        obtain ⟨hkop, hdst, -, -⟩ := koper_some hko
        rcases exDr_cons hr' with ⟨-, -, hor2⟩ | ⟨hn, -⟩
        · rcases hor2 with ⟨hw, hrun⟩ | ⟨hw, v, h2, hxo, hrun⟩
          · exact run0 hw (ih (j'.go hf h3 ho hall (.refl ι _) j'.inv (.tup _ _ .nil)) hrun hcount')
          · have hxo' : exOp g D cf q.2.o.op es h' = .ok v h2 := (exOp_congr hsame.atOp).trans hxo
            refine run1 hw (exOp_sound hg hD hc j'.inv j'.env hkop (by rw [hxo']; simp) ?_)
            rw [hxo']
            intro ι' w' v' e1 e2 e3
            rw [← hdst]
            exact ih (j'.go hf h3 ho hall e1 e2 e3) hrun hcount'
        · exact absurd h3 hn

theorem exDr_noPan {v : AV} {eF : Env} {hF : AH} : ∀ {l : List KDr} {k : Nat} {ps : List Pend} {e : Env} {h : AH}, exDr g D cf l k ps e h ≠ .pan v eF hF
  | [], k, ps, e, h, hr => by
    have hx : exDr g D cf [] k ps e h = Bool.rec (motive := fun _ => RE) .bad (.ok e h) (pendOk g D cf e h k ps) := rfl
    rw [hx] at hr
    cases hp : pendOk g D cf e h k ps <;> rw [hp] at hr <;> cases hr
  | d :: l, k, ps, e, h, hr => by
    have hx : exDr g D cf (d :: l) k ps e h = (match wants d.o.guard e with
      | none => .bad
      | some false => Bool.rec (motive := fun _ => RE) (exDr g D cf l k ps (putD d.o.dst (.tup []) e) h)
          (Bool.rec (motive := fun _ => RE) .bad (exDr g D cf l (Nat.succ k) ps (putD d.o.dst (.tup []) e) h) (pendOk g D cf e h k ps)) (Nat.beq d.kind 3)
      | some true => Bool.rec (motive := fun _ => RE)
          (match exOp g D cf d.o.op e h with
          | .ok v h' => Bool.rec (motive := fun _ => RE)
              (exDr g D cf l k (.reads d.hi d.o.op v :: ps) (putD d.o.dst v e) h)
              (match cellsAt h.next h' with
              | some cs => exDr g D cf l k (.made d.hi h.next cs :: ps) (putD d.o.dst v e) h'
              | none => .bad) (Nat.beq d.kind 2)
          | _ => .bad)
          (Bool.rec (motive := fun _ => RE) .bad
            (match exOp g D cf d.o.op e h with
            | .ok v h' => exDr g D cf l (Nat.succ k) ps (putD d.o.dst v e) h'
            | _ => .bad) (pendOk g D cf e h k ps)) (Nat.beq d.kind 3)) := rfl
    rw [hx] at hr
    split at hr
    · cases hr
    · cases h3 : Nat.beq d.kind 3 <;> rw [h3] at hr
      · exact exDr_noPan hr
      · cases hp : pendOk g D cf e h k ps <;> rw [hp] at hr
        · cases hr
        · exact exDr_noPan hr
    · cases h3 : Nat.beq d.kind 3 <;> rw [h3] at hr <;> dsimp only at hr
      · split at hr
        · cases h2 : Nat.beq d.kind 2 <;> rw [h2] at hr <;> dsimp only at hr
          · exact exDr_noPan hr
          · split at hr
            · exact exDr_noPan hr
            · cases hr
        · cases hr
      · cases hp : pendOk g D cf e h k ps <;> rw [hp] at hr <;> dsimp only at hr
        · cases hr
        · split at hr
          · exact exDr_noPan hr
          · cases hr
theorem kopers_get : ∀ {l : List Oper} {ks : List KOper} {i : Nat} {k : KOper}, kopers P nt ops l = some ks → ks[i]? = some k → ∃ o, l[i]? = some o ∧ koper P nt ops o = some k
  | [], ks, i, k, hk, hi => by
    simp only [kopers] at hk
    injection hk with hk; subst hk
    simp at hi
  | o :: l, ks, i, k, hk, hi => by
    simp only [kopers] at hk
    split at hk
    · rename_i a r h1 h2
      injection hk with hk; subst hk
      cases i with
      | zero => simp at hi; subst hi; exact ⟨o, rfl, h1⟩
      | succ i => simpa using kopers_get h2 (by simpa using hi)
    · cases hk
/-- A region whose order is open. -/
theorem draw_sound (hm : P.follows .mixedOrders = true) (hg : GOk W ρ g) (hD : DOk ρ D) (hc : CfOk P W ρ cf) {id : Nat} {l : List KDr} {ι : Inj} {e : Env} {h : AH} {a : Act} {w : World} {Q : Exit → Act → World → Prop}
    (hk : kregion P nt ops true = some (.drw l)) (hs : St W ρ nt ι e h a w) (hb : exDr g D cf l 0 [] e h ≠ .bad) (hp : REPost W ρ nt ι h a Q (exDr g D cf l 0 [] e h)) : (Code.region id ops true).wp P Q a w := by
  unfold kregion at hk
  split at hk
  · cases hk
  · rename_i ks hks
    rw [if_neg (by simp)] at hk
    dsimp only at hk
    split at hk
    · rename_i hchk
      injection hk with hk; injection hk with hk
      generalize hr : kdr ks (Region.before ops) ((List.range ks.length).filter fun i => (ks.map fun o => kindOf o.op).getD i 0 == 3) (order (ks.map fun o => kindOf o.op) (Region.before ops) ks.length (List.range ks.length) 0) = r at hk hchk
      simp only [Bool.and_eq_true] at hchk
      obtain ⟨⟨⟨k1, k2⟩, k3⟩, k4⟩ := hchk
      subst hk
      have hent : ∀ q ∈ r, Ent P ops nt q := fun q hq => by
        rw [← hr] at hq
        unfold kdr at hq
        obtain ⟨i, -, hi⟩ := List.mem_filterMap.1 hq
        obtain ⟨o, ho, rfl⟩ := map_some hi
        obtain ⟨o', ho', hko⟩ := kopers_get hks ho
        exact ⟨o', by simpa using ho', hko, rfl⟩
      cases hx : exDr g D cf (r.map (·.2)) 0 [] e h with
      | bad => exact absurd hx hb
      | pan v e' h' => exact absurd hx exDr_noPan
      | ok eF hF =>
        rw [hx] at hp
        refine wp_region_any hm (draw_any (P := P) (ops := ops) (nt := nt) (bs := Region.before ops) (ι₀ := ι) (h₀ := h) (a₀ := a) hg hD hc k1 k2 hp ops.size (l := r) (sn := []) (k := 0) (ps := []) (e := e) (es := e) (h := h) (L := []) (ι := ι) ?_ hx ?_)
        · exact {
            chk := k4
            sub := fun p hp => by cases hp
            two := fun p hp => by cases hp
            self := fun p hp => by cases hp
            lsz := by simp
            unl := fun i hi => by
              simp only [List.all_eq_true, List.mem_range, List.any_eq_true, beq_iff_eq] at k3
              exact ⟨fun _ => .inr (k3 i hi), fun _ => by simp [hi]⟩
            one := fun p hp => by cases hp
            closed := fun i o _ hl => by
              exfalso
              by_cases hi : i < ops.size <;> simp [hi] at hl
            entL := fun p hp => by cases hp
            ent := hent
            env := hs.env
            agree := fun _ _ => rfl
            size := hs.size
            inv := hs.inv.drew
            lag := fun p hp => by cases hp
            ids := fun p hp => by cases hp
            ext := .refl ι h
            defers := rfl }
        · refine Nat.le_trans List.count_le_length ?_
          simp
    · cases hk
end
end Go.KM
