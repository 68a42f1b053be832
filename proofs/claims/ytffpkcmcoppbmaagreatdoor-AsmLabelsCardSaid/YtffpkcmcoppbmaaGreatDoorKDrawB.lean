/-
  A region whose order is open: the small machine runs it in one order; whatever the model's order, it comes to the same.
-/
import Derived.Test.YtffpkcmcoppbmaaGreatDoorKDrawA
namespace Go.KM
open Go.RowKit

/-- What an operation that the small machine has done, and the model hasn't, will come to. -/
inductive Lv where
  | skip
  | val (v : AV)
  | made (id : Nat) (mk : Nat → AV) (cs : List AV)
structure Lag where
  i : Nat
  d : KDr
  r : Lv
def Lag.v (p : Lag) : AV := match p.r with
  | .skip => .tup []
  | .val v => v
  | .made id f _ => f id
/-- An operation makes a row, of whatever memory. -/
def Mk (g : Nat → Option AV) (D : BinOp → SE → SE → Option Bool) (cf : Nat → List AV → AH → R AV) (op : KOp) (e : Env) (mk : Nat → AV) (cs : List AV) : Prop :=
  ∀ h, exOp g D cf op e h = .ok (mk h.next) (newBlk (.cells cs) h)

section
variable {P : Program} {W : World} {ρ : Nat → Int} {g : Nat → Option AV} {D : BinOp → SE → SE → Option Bool} {cf : Nat → List AV → AH → R AV} {ops : Array Oper} {nt : Nat} {bs : Array Nat}

theorem newBlk_cells (cs : List AV) (h : AH) : cellsAt h.next (newBlk (.cells cs) h) = some cs := by
  unfold cellsAt; rw [newBlk_get, if_pos rfl]
theorem exOp_mk {op : KOp} {e : Env} {h h' : AH} {v : AV} (hk : kindOf op = 2) (hx : exOp g D cf op e h = .ok v h') :
    ∃ mk cs, v = mk h.next ∧ h' = newBlk (.cells cs) h ∧ Mk g D cf op e mk cs := by
  cases op <;> simp only [kindOf] at hk <;> (try (cases hk; done)) <;> simp only [exOp] at hx
  · rename_i z
    unfold xalloc at hx; injection hx with h1 h2
    exact ⟨(.ptr · 0), z, h1.symm, h2.symm, fun h => rfl⟩
  · rename_i x
    obtain ⟨u, m1, m2⟩ := w1_ok hx (by simp)
    unfold xalloc at m2; injection m2 with h1 h2
    exact ⟨(.ptr · 0), u.cells, h1.symm, h2.symm, fun h => by simp only [exOp, m1]; rfl⟩
  · rename_i s z n ps
    split at hx
    · rename_i vs hvs
      split at hx
      · rename_i cs hcs
        injection hx with h1 h2
        exact ⟨(.sl · 0 n s (some n)), cs, h1.symm, h2.symm, fun h => by simp only [exOp, hvs, hcs]⟩
      · cases hx
    · cases hx
  · rename_i s b z l c
    obtain ⟨u, m1, m2⟩ := w1_ok hx (by simp)
    obtain ⟨u2, m3, m4⟩ := w1_ok m2 (by simp)
    unfold xmkslice at m4
    split at m4
    · rename_i n m hn hm
      obtain ⟨hq, m4⟩ := sel_ok m4
      injection m4 with h1 h2
      refine ⟨(.sl · 0 n s (some m)), repN m z, h1.symm, h2.symm, fun h => ?_⟩
      simp only [exOp, m1, m3]
      show xmkslice s b z u u2 h = _
      unfold xmkslice; simp only [hn, hm]; rw [sel_true hq]
    · cases m4

/-! which of the model's operations make a row -/
def No2 (o : Option KOp) : Prop := ∀ k, o = some k → kindOf k ≠ 2
theorem no2_none : No2 none := fun _ h => by cases h
theorem no2_some {k : KOp} (h : kindOf k ≠ 2) : No2 (some k) := fun _ e => by injection e with e; exact e ▸ h
theorem no2_un1 {f : KX → KOp} {x : Operand} (h : ∀ a, kindOf (f a) ≠ 2) : No2 (un1 f x) := fun k e => by obtain ⟨a, -, rfl⟩ := un1_some e; exact h a
theorem no2_bin2 {f : KX → KX → KOp} {x y : Operand} (h : ∀ a b, kindOf (f a b) ≠ 2) : No2 (bin2 f x y) := fun k e => by obtain ⟨a, b, -, -, rfl⟩ := bin2_some e; exact h a b
theorem no2_map {α : Type} {f : α → KOp} {x : Option α} (h : ∀ a, kindOf (f a) ≠ 2) : No2 (x.map f) := fun k e => by obtain ⟨a, -, rfl⟩ := map_some e; exact h a
set_option maxHeartbeats 4000000 in
theorem no2_builtin (b : Builtin) (ts : List TypeId) (xs : List Operand) : No2 (kbuiltin P b ts xs) := by
  unfold kbuiltin
  repeat' (first | contradiction | exact no2_none | exact no2_some (by simp [kindOf]) | exact no2_un1 (fun _ => by simp [kindOf]) | exact no2_bin2 (fun _ _ => by simp [kindOf]) | exact no2_map (fun _ => by simp [kindOf]) | split)
set_option maxHeartbeats 4000000 in
theorem kop_two {op : Op} {k : KOp} (hk : kop P op = some k) (h2 : kindOf k = 2) :
    (∃ t, op = .alloc t) ∨ (∃ t x, op = .box t x) ∨ (∃ t n ps, op = .buildSlice t n ps) ∨ ∃ t l c, op = .makeSlice t l c := by
  cases op <;>
    first
      | exact .inl ⟨_, rfl⟩
      | exact .inr (.inl ⟨_, _, rfl⟩)
      | exact .inr (.inr (.inl ⟨_, _, _, rfl⟩))
      | exact .inr (.inr (.inr ⟨_, _, _, rfl⟩))
      | (exfalso
         refine absurd h2 ((?_ : No2 _) k hk)
         simp only [kop]
         repeat' (first | contradiction | exact no2_none | exact no2_some (by simp [kindOf]) | exact no2_un1 (fun _ => by simp [kindOf]) | exact no2_bin2 (fun _ _ => by simp [kindOf]) | exact no2_map (fun _ => by simp [kindOf]) | exact no2_builtin _ _ _ | split))

theorem Mk.uniq {op : KOp} {e : Env} {f f' : Nat → AV} {cs cs' : List AV} (m : Mk g D cf op e f cs) (m' : Mk g D cf op e f' cs') : f = f' ∧ cs = cs' := by
  have key : ∀ n, f n = f' n ∧ cs = cs' := fun n => by
    have := (m ⟨.leaf, n⟩).symm.trans (m' ⟨.leaf, n⟩)
    injection this with h1 h2
    refine ⟨h1, ?_⟩
    have h3 := newBlk_cells cs ⟨.leaf, n⟩
    rw [h2] at h3
    have h4 := newBlk_cells cs' ⟨.leaf, n⟩
    exact Option.some.inj (h3.symm.trans h4)
  exact ⟨funext fun n => (key n).1, (key 0).2⟩
section
variable {ι : Inj} {w : World} {e : Env} {a : Act}
theorem wp_made {o : Oper} {K : Act → World → Prop} {Q : Exit → Act → World → Prop} {s : Sem Value} {f : Nat → AV} {cs : List AV} (he : (execOp a.eval o).run P w = (s.run P w).andThen fun v w' => .ok (.value v) w')
    (hd : Made W ρ ι w (s.run P w) f cs) (hp : ∀ v' c t, CellsAt W ρ ι c 0 cs → (∀ id κ, κ id = some (w.heap.size, 0, c.size) → Rel W ρ κ (f id) v') → K (a.put o.dst v') (w.alloc (.cells c t))) : o.wp P a w K Q := by
  obtain ⟨v', c, t, h1, h2, h3⟩ := hd
  unfold Oper.wp
  rw [he, h1]
  exact hp v' c t h2 h3
set_option maxHeartbeats 4000000 in
/-- A row is made. -/
theorem exOp_made (hg : GOk W ρ g) (hr : EnvR W ρ ι e a.tmps) {o : Oper} {k : KOp} (hk : kop P o.op = some k) (h2 : kindOf k = 2) {f : Nat → AV} {cs : List AV} (hm : Mk g D cf k e f cs)
    {K : Act → World → Prop} {Q : Exit → Act → World → Prop} (hp : ∀ v' c t, CellsAt W ρ ι c 0 cs → (∀ id κ, κ id = some (w.heap.size, 0, c.size) → Rel W ρ κ (f id) v') → K (a.put o.dst v') (w.alloc (.cells c t))) : o.wp P a w K Q := by
  obtain ⟨dst, op, type, pos, after, guard⟩ := o
  have h0 := hm ah0
  rcases kop_two hk h2 with ⟨t, rfl⟩ | ⟨t, x, rfl⟩ | ⟨t, len, ps, rfl⟩ | ⟨t, l, c, rfl⟩ <;> simp only [kop] at hk
  · obtain ⟨z, h1, rfl⟩ := map_some hk
    obtain ⟨rfl, rfl⟩ := hm.uniq (f' := (.ptr · 0)) (cs' := z.cells) fun h => rfl
    exact wp_made (s := Instr.alloc t true (.tuple #[])) (by simp [execOp]) (alloc_made h1) hp
  · obtain ⟨y, h1, rfl⟩ := un1_some hk
    obtain ⟨v, h2, h3⟩ := w1_ok (r := exOp g D cf (.box y) e ah0) rfl (by rw [h0]; simp)
    obtain ⟨rfl, rfl⟩ := hm.uniq (f' := (.ptr · 0)) (cs' := v.cells) fun h => by simp only [exOp, h2]; rfl
    exact wp_made (s := Instr.box t (a.eval x)) (by simp [execOp]) (box_made t (evX_sound hg hr h1 h2)) hp
  · split at hk
    · rename_i el hu
      split at hk
      · rename_i s z hs hz
        split at hk
        · cases hk
        · rename_i hcond
          simp only [Bool.or_eq_true, decide_eq_true_eq, bne_iff_ne, not_or, ne_eq, Decidable.not_not] at hcond
          obtain ⟨kp, h1, rfl⟩ := map_some hk
          simp only [exOp] at h0
          split at h0
          · rename_i vs hvs
            split at h0
            · rename_i cs' hcs
              have hps := evPs_sound hg hr h1 hvs
              have he : (ps.map fun (i, x) => (i, a.eval x)) = (ps.toList.map fun (i, x) => (i, a.eval x)).toArray := by apply Array.toList_inj.1; simp
              obtain ⟨rfl, rfl⟩ := hm.uniq (f' := (.sl · 0 len s (some len))) (cs' := cs') fun h => by simp only [exOp, hvs, hcs]
              exact wp_made (s := Instr.buildSlice t len (ps.toList.map fun (i, x) => (i, a.eval x)).toArray) (by simp only [execOp, Sem.run_bind, Sem.run_pure]; rw [he]) (bslice_made hu hz hs hcond.1 hcond.2 hps hcs) hp
            · cases h0
          · cases h0
      · cases hk
    · cases hk
  · split at hk
    · rename_i el hu
      split at hk
      · rename_i s b z hs hb' hz
        split at hk
        · cases hk
        · rename_i hzs
          obtain ⟨p, q, q1, q2, rfl⟩ := bin2_some hk
          obtain ⟨u1, m1, m2⟩ := w1_ok (r := exOp g D cf (.mkslice s b z.cells p q) e ah0) rfl (by rw [h0]; simp)
          obtain ⟨u2, m3, m4⟩ := w1_ok m2 (by rw [h0]; simp)
          obtain ⟨f', cs', -, -, hall, hmd⟩ := mkslice_made (w := w) hu hs hb' hz (by simpa using hzs) (evX_sound hg hr q1 m1) (evX_sound hg hr q2 m3) (m4.trans h0)
          obtain ⟨rfl, rfl⟩ := hm.uniq (f' := f') (cs' := cs') fun h => by simp only [exOp, m1, m3]; exact hall h
          exact wp_made (s := Instr.makeSlice t (a.eval l) (a.eval c)) (Sem.run_bind P w _ _) hmd hp
      · cases hk
    · cases hk
end

/-! what was checked -/
theorem chkTwo_spec {p q : Nat × KDr} (h : chkTwo bs p q = true) : p.1 ≠ q.1 ∧ (∀ d f, p.2.o.dst = some d → q.2.o.dst = some f → d ≠ f) ∧ (∀ f, q.2.o.dst = some f → f ∉ koReads p.2.o) ∧
    (∀ d, p.2.o.dst = some d → d ∈ koReads q.2.o → fore bs p.1 q.1 = true) ∧ (p.2.kind = 3 → fore bs p.1 q.1 = true) := by
  simp only [chkTwo, Bool.and_eq_true] at h
  obtain ⟨⟨⟨⟨h1, h2⟩, h3⟩, h4⟩, h5⟩ := h
  refine ⟨by simpa using h1, fun d f hd hf => ?_, fun f hf => ?_, fun d hd hm => ?_, fun hk => ?_⟩
  · rw [hd, hf] at h2; simpa using h2
  · rw [hf] at h3; simpa using h3
  · rw [hd] at h4; simpa [hm] using h4
  · simpa [hk] using h5
def SelfOk (ops : Array Oper) (nt : Nat) (q : Nat × KDr) : Prop := q.1 < ops.size ∧ ∀ f, q.2.o.dst = some f → f ∉ koReads q.2.o ∧ f < nt
theorem chkOne_spec {k : Nat} {sn : List (Nat × KDr)} {q : Nat × KDr} (h : chkOne ops nt bs k sn q = true) : SelfOk ops nt q ∧ (∀ p ∈ sn, chkTwo bs p q = true) ∧
    (q.2.kind = 3 → ∀ p ∈ sn, p.2.kind = 3 ∨ k + 1 ≤ p.2.hi ∨ fore bs p.1 q.1 = true) ∧ (q.2.kind ≠ 3 → k ≤ q.2.hi) := by
  simp only [chkOne, Bool.and_eq_true, decide_eq_true_eq, List.all_eq_true] at h
  obtain ⟨⟨⟨⟨h1, h2⟩, h3⟩, h4⟩, h5⟩ := h
  refine ⟨⟨h1, fun f hf => ?_⟩, h3, fun hk p hp => ?_, fun hk => ?_⟩
  · rw [hf] at h2; simpa using h2
  · rw [hk] at h4
    simp only [bne_self_eq_false, Bool.false_or, List.all_eq_true, Bool.or_eq_true, beq_iff_eq, decide_eq_true_eq] at h4
    rcases h4 p hp with (h | h) | h
    · exact .inl h
    · exact .inr (.inl h)
    · exact .inr (.inr h)
  · simpa [hk] using h5
theorem chkAll_cons {k : Nat} {sn : List (Nat × KDr)} {q : Nat × KDr} {l : List (Nat × KDr)} (h : chkAll ops nt bs k sn (q :: l) = true) :
    chkOne ops nt bs k sn q = true ∧ chkAll ops nt bs (if q.2.kind == 3 then k + 1 else k) (q :: sn) l = true := by
  simpa [chkAll] using h
theorem chkAll_later : ∀ {l : List (Nat × KDr)} {k : Nat} {sn : List (Nat × KDr)}, chkAll ops nt bs k sn l = true → ∀ p ∈ sn, ∀ q ∈ l, chkTwo bs p q = true
  | [], _, _, _, _, _, _, hq => by cases hq
  | r :: l, k, sn, h, p, hp, q, hq => by
    obtain ⟨h1, h2⟩ := chkAll_cons h
    rcases List.mem_cons.1 hq with rfl | hq
    · exact (chkOne_spec h1).2.1 p hp
    · exact chkAll_later h2 p (List.mem_cons_of_mem _ hp) q hq
def Closed (ops : Array Oper) (listed : Array Bool) : Prop := ∀ i o, ops[i]? = some o → listed.getD i false = true → ∀ ed ∈ o.after, Region.binds .any ed = true → listed.getD ed.on false = true
/-- What stands ahead of an operation that is ready is done. -/
theorem fore_listed (hf : chkFore ops bs = true) {listed : Array Bool} (hc : Closed ops listed) : ∀ (i : Nat) (o : Oper), ops[i]? = some o → (∀ ed ∈ o.after, Region.binds .any ed = true → listed.getD ed.on false = true) →
    ∀ c, c < ops.size → fore bs c i = true → listed.getD c false = true := by
  intro i
  induction i using Nat.strongRecOn with
  | ind i ih =>
    intro o ho hall c hcs hfo
    have hi := (Array.getElem?_eq_some_iff.1 ho).1
    simp only [chkFore, List.all_eq_true, List.mem_range] at hf
    have h1 := hf i hi c hcs
    rw [hfo, ho] at h1
    simp only [Bool.not_true, Bool.false_or, List.any_eq_true, Bool.and_eq_true, decide_eq_true_eq, Bool.or_eq_true, beq_iff_eq] at h1
    obtain ⟨ed, hed, ⟨hb, hlt⟩, hor⟩ := h1
    have hl := hall ed (Array.mem_toList_iff.1 hed) hb
    rcases hor with rfl | hfo'
    · exact hl
    · have hlt' : ed.on < ops.size := Nat.lt_trans hlt hi
      have ho' : ops[ed.on]? = some ops[ed.on] := Array.getElem?_eq_getElem hlt'
      exact ih ed.on hlt _ ho' (hc _ _ ho' hl) c hcs hfo'
end
end Go.KM
