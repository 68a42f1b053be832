/-
  A region whose order is open: the model does one more; all of it.
-/
import Derived.Test.YtffpkcmcoppbmaaGreatDoorKDrawC
namespace Go.KM
open Go.RowKit
section
variable {P : Program} {W : World} {ρ : Nat → Int} {g : Nat → Option AV} {D : BinOp → SE → SE → Option Bool} {cf : Nat → List AV → AH → R AV} {ops : Array Oper} {nt : Nat} {bs : Array Nat} {ι₀ : Inj} {h₀ : AH} {a₀ : Act}
  {l sn : List (Nat × KDr)} {k : Nat} {ps : List Pend} {e es : Env} {h : AH} {L : List Lag} {listed : Array Bool} {ι : Inj} {a : Act} {w : World}

theorem getD_set_iff {i j : Nat} (hi : i < listed.size) : (listed.setIfInBounds i true).getD j false = false ↔ j ≠ i ∧ listed.getD j false = false := by
  by_cases hij : i = j
  · subst hij; simp [hi]
  · rw [getD_set_ne false hij]; simp [Ne.symm hij]
theorem closed_set (hc : Closed ops listed) {i : Nat} {o : Oper} (ho : ops[i]? = some o) (hall : ∀ ed ∈ o.after, Region.binds .any ed = true → listed.getD ed.on false = true) :
    Closed ops (listed.setIfInBounds i true) := by
  intro j oj hoj hl ed hed hb
  by_cases hij : i = j
  · subst hij
    rw [ho] at hoj; injection hoj with hoj; subst hoj
    exact getD_set_true (hall ed hed hb)
  · rw [getD_set_ne false hij] at hl
    exact getD_set_true (hc j oj hoj hl ed hed hb)
theorem kindOf_cases (op : KOp) : kindOf op = 1 ∨ kindOf op = 2 ∨ kindOf op = 3 := by cases op <;> simp [kindOf]
theorem pend_all {hp : pendOk g D cf e h k ps = true} : ∀ p ∈ ps, k ≤ p.hi → p.ok g D cf e h = true := by
  intro p hm hk
  unfold pendOk at hp
  rw [allB_iff] at hp
  have := hp p hm
  rw [ble_iff.2 hk] at this
  exact this
theorem pend_reads (hp : pendOk g D cf e h k ps = true) {hi : Nat} {op : KOp} {v : AV} (hm : Pend.reads hi op v ∈ ps) (hk : k ≤ hi) : ∃ h1, exOp g D cf op e h = .ok v h1 := by
  have := pend_all (hp := hp) _ hm hk
  simp only [Pend.ok] at this
  split at this
  · rename_i u h1 he; rw [beqA_eq this] at he; exact ⟨h1, he⟩
  · cases this
theorem pend_made (hp : pendOk g D cf e h k ps = true) {hi b : Nat} {cs : List AV} (hm : Pend.made hi b cs ∈ ps) (hk : k ≤ hi) : cellsAt b h = some cs := by
  have := pend_all (hp := hp) _ hm hk
  simp only [Pend.ok] at this
  split at this
  · rename_i ds he; rw [← beqL_eq this]; exact he
  · cases this

theorem J.unlL (j : J P W ρ g D cf ops nt bs ι₀ h₀ a₀ l sn k ps e h L es listed ι a w) {p : Lag} (hp : p ∈ L) : p.i < ops.size ∧ listed.getD p.i false = false :=
  have hs := (j.self _ (j.sub p hp)).1
  ⟨hs, (j.unl p.i hs).2 (.inl ⟨p, hp, rfl⟩)⟩
/-- What an operation that is ready looks at is there. -/
theorem J.same (hf : chkFore ops bs = true) (j : J P W ρ g D cf ops nt bs ι₀ h₀ a₀ l sn k ps e h L es listed ι a w) {q : Nat × KDr} {o : Oper} (ho : ops[q.1]? = some o)
    (hall : ∀ ed ∈ o.after, Region.binds .any ed = true → listed.getD ed.on false = true)
    (hq : ∀ p ∈ L, (∀ t, p.d.o.dst = some t → t ∉ koReads q.2.o) ∨ chkTwo bs (p.i, p.d) q = true) : Same es e (koReads q.2.o) := by
  intro t ht
  refine j.agree t fun p hp hd => ?_
  rcases hq p hp with hn | htwo
  · exact hn t hd ht
  · obtain ⟨hs, hu⟩ := j.unlL hp
    have := fore_listed hf j.closed q.1 o ho hall p.i hs ((chkTwo_spec htwo).2.2.2.1 t hd ht)
    rw [hu] at this; cases this
/-- The model does the one that the small machine does next, of the kind 3. -/
theorem J.go (hf : chkFore ops bs = true) {q : Nat × KDr} (j : J P W ρ g D cf ops nt bs ι₀ h₀ a₀ (q :: l) sn k ps e h L es listed ι a w) (h3 : q.2.kind = 3) {o : Oper} (ho : ops[q.1]? = some o)
    (hall : ∀ ed ∈ o.after, Region.binds .any ed = true → listed.getD ed.on false = true) {v : AV} {v' : Value} {h' : AH} {ι' : Inj} {w' : World} (hx : Ext ι h ι' h') (hI : Inv W ρ ι' h' w') (hv : Rel W ρ ι' v v') :
    J P W ρ g D cf ops nt bs ι₀ h₀ a₀ l (q :: sn) (k + 1) ps (putD q.2.o.dst v e) h' L (putD q.2.o.dst v es) (listed.setIfInBounds q.1 true) ι' (a.put q.2.o.dst v') w' := by
  obtain ⟨c1, c2⟩ := chkAll_cons j.chk
  obtain ⟨c3, c4, c5, -⟩ := chkOne_spec c1
  rw [show (q.2.kind == 3) = true from by simpa using h3] at c2
  have hne : ∀ p ∈ L, p.i ≠ q.1 := fun p hp => (chkTwo_spec (c4 _ (j.sub p hp))).1
  have hlt : q.1 < listed.size := by rw [j.lsz]; exact c3.1
  have hd : ∀ t, q.2.o.dst = some t → t < a.tmps.size := fun t ht => Nat.lt_of_lt_of_le (c3.2 t ht).2 j.size
  exact {
    chk := c2
    sub := fun p hp => List.mem_cons_of_mem _ (j.sub p hp)
    two := fun p hp p' hp' => by
      rcases List.mem_cons.1 hp with q1 | q1 <;> rcases List.mem_cons.1 hp' with q2 | q2
      · exact .inl (q1.trans q2.symm)
      · exact .inr (.inr (q1 ▸ c4 _ q2))
      · exact .inr (.inl (q2 ▸ c4 _ q1))
      · exact j.two p q1 p' q2
    self := fun p hp => by
      rcases List.mem_cons.1 hp with rfl | hp
      · exact c3
      · exact j.self p hp
    lsz := by simpa using j.lsz
    unl := fun i hi => by
      rw [getD_set_iff hlt, j.unl i hi]
      constructor
      · rintro ⟨hn, ⟨p, hp, h⟩ | ⟨p, hp, h⟩⟩
        · exact .inl ⟨p, hp, h⟩
        · rcases List.mem_cons.1 hp with rfl | hp
          · exact absurd h.symm hn
          · exact .inr ⟨p, hp, h⟩
      · rintro (⟨p, hp, h⟩ | ⟨p, hp, h⟩)
        · exact ⟨h ▸ hne p hp, .inl ⟨p, hp, h⟩⟩
        · exact ⟨h ▸ ((chkTwo_spec (chkAll_later c2 q List.mem_cons_self p hp)).1).symm, .inr ⟨p, List.mem_cons_of_mem _ hp, h⟩⟩
    one := j.one
    closed := closed_set j.closed ho hall
    entL := j.entL
    ent := fun p hp => j.ent p (List.mem_cons_of_mem _ hp)
    env := (j.env.mono hx.le).put hd hv
    agree := fun t ht => by
      rw [putD_get, putD_get]
      split
      · rfl
      · exact j.agree t ht
    size := by rw [put_size]; exact j.size
    inv := hI
    lag := fun p hp => by
      have hki : k + 1 ≤ p.d.hi := by
        rcases c5 h3 _ (j.sub p hp) with h | h | h
        · exact absurd h (j.lag p hp).kind
        · exact h
        · obtain ⟨hs, hu⟩ := j.unlL hp
          have := fore_listed hf j.closed q.1 o ho hall p.i hs h
          rw [hu] at this; cases this
      exact (j.lag p hp).step (c4 _ (j.sub p hp)) hki (fun _ hy => hy) hx.same hx.next
    ids := j.ids
    ext := j.ext.trans hx
    defers := by rw [put_defers]; exact j.defers }
/-- The model does one that lags. -/
theorem J.catch (j : J P W ρ g D cf ops nt bs ι₀ h₀ a₀ l sn k ps e h L es listed ι a w) {p : Lag} (hp : p ∈ L) {o : Oper} (ho : ops[p.i]? = some o)
    (hall : ∀ ed ∈ o.after, Region.binds .any ed = true → listed.getD ed.on false = true) {v' : Value} {ι' : Inj} {w' : World} (hle : ι.le ι') (hsame : ∀ b, b < h₀.next → ι' b = ι b)
    (hids : ∀ p' ∈ L, p'.i ≠ p.i → ∀ id f cs, p'.r = .made id f cs → ι' id = none) (hI : Inv W ρ ι' h w') (hv : Rel W ρ ι' p.v v') :
    J P W ρ g D cf ops nt bs ι₀ h₀ a₀ l sn k ps e h (L.filter fun p' => p'.i != p.i) (putD p.d.o.dst p.v es) (listed.setIfInBounds p.i true) ι' (a.put p.d.o.dst v') w' := by
  have hsub : ∀ {p'}, p' ∈ (L.filter fun p' => p'.i != p.i) → p' ∈ L ∧ p'.i ≠ p.i := fun {p'} hm => by simpa using hm
  have hself := j.self _ (j.sub p hp)
  have hlt : p.i < listed.size := by rw [j.lsz]; exact hself.1
  have hd : ∀ t, p.d.o.dst = some t → t < a.tmps.size := fun t ht => Nat.lt_of_lt_of_le (hself.2 t ht).2 j.size
  exact {
    chk := j.chk
    sub := fun p' hp' => j.sub p' (hsub hp').1
    two := j.two
    self := j.self
    lsz := by simpa using j.lsz
    unl := fun i hi => by
      rw [getD_set_iff hlt, j.unl i hi]
      constructor
      · rintro ⟨hn, ⟨p', hp', h⟩ | ⟨p', hp', h⟩⟩
        · exact .inl ⟨p', by simp [hp', h, hn], h⟩
        · exact .inr ⟨p', hp', h⟩
      · rintro (⟨p', hp', h⟩ | ⟨p', hp', h⟩)
        · exact ⟨h ▸ (hsub hp').2, .inl ⟨p', (hsub hp').1, h⟩⟩
        · exact ⟨h ▸ ((chkTwo_spec (chkAll_later j.chk _ (j.sub p hp) p' hp')).1).symm, .inr ⟨p', hp', h⟩⟩
    one := fun p1 hp1 p2 hp2 => j.one p1 (hsub hp1).1 p2 (hsub hp2).1
    closed := closed_set j.closed ho hall
    entL := fun p' hp' => j.entL p' (hsub hp').1
    ent := j.ent
    env := (j.env.mono hle).put hd hv
    agree := fun t ht => by
      rw [putD_get]
      split
      · rename_i hdt; exact ((j.lag p hp).val t hdt).symm
      · rename_i hdt
        refine j.agree t fun p' hp' hd' => ?_
        by_cases hpp : p'.i = p.i
        · exact hdt (j.one p' hp' p hp hpp ▸ hd')
        · exact ht p' (by simp [hp', hpp]) hd'
    size := by rw [put_size]; exact j.size
    inv := hI
    lag := fun p' hp' => by
      obtain ⟨hm, hne⟩ := hsub hp'
      have x := j.lag p' hm
      refine ⟨x.kind, x.hi, x.val, ?_⟩
      have hr := x.r
      cases hpr : p'.r with
      | skip => rw [hpr] at hr; exact hr
      | val v => rw [hpr] at hr; exact hr
      | made id f cs =>
        rw [hpr] at hr
        exact ⟨hr.1, hr.2.1, hr.2.2.1, hr.2.2.2.1, hids p' hm hne id f cs hpr, hr.2.2.2.2.2⟩
    ids := fun p1 hp1 p2 hp2 => j.ids p1 (hsub hp1).1 p2 (hsub hp2).1
    ext := ⟨Inj.le_trans j.ext.le hle, fun b hb => (hsame b hb).trans (j.ext.same b hb), j.ext.next⟩
    defers := by rw [put_defers]; exact j.defers }
end
end Go.KM
