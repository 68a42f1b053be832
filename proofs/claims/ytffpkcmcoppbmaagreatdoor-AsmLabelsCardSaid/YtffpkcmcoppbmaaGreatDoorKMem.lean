/-
  What becomes of the tie between the two memories when something is made, or written.
-/
import Derived.Test.YtffpkcmcoppbmaaGreatDoorKRel
namespace Go.KM
open Go.RowKit
def Inj.put (ι : Inj) (b : Nat) (p : Nat × Nat × Nat) : Inj := fun b' => if b' = b then some p else ι b'
theorem Inj.put_same (ι : Inj) (b : Nat) (p : Nat × Nat × Nat) : ι.put b p b = some p := by simp [Inj.put]
theorem Inj.le_put (ι : Inj) (b : Nat) (p : Nat × Nat × Nat) (hb : ι b = none) : ι.le (ι.put b p) := by
  intro b' q h
  unfold Inj.put
  split
  · rename_i he; subst he; rw [hb] at h; cases h
  · exact h
theorem Ext.put {ι : Inj} {h h' : AH} (b : Nat) (p : Nat × Nat × Nat) (hb : b = h.next) (hn : ι b = none) (hx : h'.next = h.next + 1) : Ext ι h (ι.put b p) h' := by
  refine ⟨Inj.le_put ι b p hn, fun c hc => ?_, by omega⟩
  unfold Inj.put; rw [if_neg (by omega)]
/-- A block of the model's is another one now. -/
def putB (w : World) (g : Nat) (o : Obj) : World := { w with heap := w.heap.setIfInBounds g o }
theorem putB_get (w : World) (g k : Nat) (o : Obj) : (putB w g o).heap[k]? = if k = g then (if g < w.heap.size then some o else none) else w.heap[k]? := by
  simp only [putB, Array.getElem?_setIfInBounds]
  by_cases h : g = k
  · subst h; simp
  · rw [if_neg h, if_neg (Ne.symm h)]
theorem putB_size (w : World) (g : Nat) (o : Obj) : (putB w g o).heap.size = w.heap.size := by simp [putB]

theorem alloc_old' (w : World) (o : Obj) (i : Nat) (h : i < w.heap.size) : (w.alloc o).heap[i]? = w.heap[i]? := by
  show (w.heap.push o)[i]? = w.heap[i]?
  rw [Array.getElem?_push, if_neg (Nat.ne_of_lt h)]

section
variable {W : World} {ρ : Nat → Int} {ι κ : Inj} {h h' : AH} {w w' : World}
theorem CellsAt.mono (hle : ι.le κ) {c : Array Value} {co : Nat} {cs : List AV} (k : CellsAt W ρ ι c co cs) : CellsAt W ρ κ c co cs :=
  ⟨k.1, fun i v e => let ⟨v', h1, h2⟩ := k.2 i v e; ⟨v', h1, h2.mono hle⟩⟩
theorem EntsAt.mono (hle : ι.le κ) {es : List (AV × AV)} {es' : List MapEntry} (k : EntsAt W ρ ι es es') : EntsAt W ρ κ es es' := ⟨k.1.mono hle, k.2.mono hle⟩
theorem MapAt.mono (hle : ι.le κ) {es : List (AV × AV)} {ents : Array MapEntry} {clock : Nat} (k : MapAt W ρ ι es ents clock) : MapAt W ρ κ es ents clock := ⟨k.1.mono hle, k.2⟩
theorem Inv.dom_none (I : Inv W ρ ι h w) {b : Nat} (hb : h.next ≤ b) : ι b = none := by
  cases e : ι b with
  | none => rfl
  | some p => have := I.dom b p e; omega
/-- What lies nowhere may change. -/
theorem Inv.other (I : Inv W ρ ι h w) (hn : h.next ≤ h'.next) (hm : ∀ b, ι b ≠ none → h'.m.get b = h.m.get b) : Inv W ρ ι h' w where
  below := I.below
  dom := fun b p e => Nat.lt_of_lt_of_le (I.dom b p e) hn
  rng := I.rng
  cells := fun b cs cb co sz e g => I.cells b cs cb co sz e (by rw [← hm b (by rw [e]; simp)]; exact g)
  mps := fun b es cb co sz e g => I.mps b es cb co sz e (by rw [← hm b (by rw [e]; simp)]; exact g)
  inj := fun b b' p p' e e' g g' hp => I.inj b b' p p' e e' (by rw [← hm b (by rw [e]; simp)]; exact g) (by rw [← hm b' (by rw [e']; simp)]; exact g') hp
/-- A block is gone. -/
theorem Inv.del (I : Inv W ρ ι h w) (b : Nat) : Inv W ρ ι (delBlk b h) w where
  below := I.below
  dom := I.dom
  rng := I.rng
  cells := fun b' cs cb co sz e g => by
    simp only [delBlk, PT.get_del] at g
    split at g
    · cases g
    · exact I.cells b' cs cb co sz e g
  mps := fun b' es cb co sz e g => by
    simp only [delBlk, PT.get_del] at g
    split at g
    · cases g
    · exact I.mps b' es cb co sz e g
  inj := fun b1 b2 p p' e e' g g' hp => by
    simp only [delBlk, PT.get_del] at g g'
    split at g
    · exact absurd rfl g
    · split at g'
      · exact absurd rfl g'
      · exact I.inj b1 b2 p p' e e' g g' hp
/-- The model has a block more. -/
theorem Inv.more (I : Inv W ρ ι h w) (o : Obj) : Inv W ρ ι h (w.alloc o) where
  below := I.below.alloc I.below.size o
  dom := I.dom
  rng := fun b cb co sz e => by obtain ⟨h1, h2⟩ := I.rng b cb co sz e; exact ⟨h1, by simp; omega⟩
  cells := fun b cs cb co sz e g => by
    obtain ⟨c, e', fr, h1, h2⟩ := I.cells b cs cb co sz e g
    exact ⟨c, e', fr, by rw [alloc_old' w o cb (I.rng b cb co sz e).2]; exact h1, h2⟩
  mps := fun b es cb co sz e g => by
    obtain ⟨c, e', h1, h2⟩ := I.mps b es cb co sz e g
    exact ⟨c, e', by rw [alloc_old' w o cb (I.rng b cb co sz e).2]; exact h1, h2⟩
  inj := I.inj
/-- A block of the small machine's that lay nowhere lies at a block of the model's where none lay. -/
theorem Inv.adopt (I : Inv W ρ ι h w) (b : Nat) (hb : ι b = none) (hn : b < h.next) (cs : List AV) (hc : h.m.get b = some (.cells cs)) (c : Array Value) (e : TypeId) (fr : Nat × Nat)
    (hf : fr.2 ≤ fr.1 ∨ c.size ≤ fr.1) (hr : CellsAt W ρ ι c 0 cs) : Inv W ρ (ι.put b (w.heap.size, 0, c.size)) h (w.alloc (.cells c e fr)) where
  below := I.below.alloc I.below.size _
  dom := fun b' p e' => by
    unfold Inj.put at e'
    split at e'
    · rename_i hh; rw [hh]; exact hn
    · exact I.dom b' p e'
  rng := fun b' cb co sz e' => by
    unfold Inj.put at e'
    split at e'
    · injection e' with e'; simp only [Prod.mk.injEq] at e'
      obtain ⟨rfl, -, -⟩ := e'
      exact ⟨I.below.size, by simp⟩
    · obtain ⟨h1, h2⟩ := I.rng b' cb co sz e'; exact ⟨h1, by simp; omega⟩
  cells := fun b' cs' cb co sz e' g => by
    have hle := Inj.le_put ι b (w.heap.size, 0, c.size) hb
    unfold Inj.put at e'
    split at e'
    · rename_i hh
      subst hh
      injection e' with e'; simp only [Prod.mk.injEq] at e'
      obtain ⟨rfl, rfl, rfl⟩ := e'
      rw [hc] at g; injection g with g; injection g with g; subst g
      exact ⟨c, e, fr, heap_alloc_new w _, rfl, hf, hr.mono hle⟩
    · obtain ⟨c', e2, fr', h1, h2, h3, h4⟩ := (I.more (.cells c e fr)).cells b' cs' cb co sz e' g
      exact ⟨c', e2, fr', h1, h2, h3, h4.mono hle⟩
  mps := fun b' es cb co sz e' g => by
    have hle := Inj.le_put ι b (w.heap.size, 0, c.size) hb
    unfold Inj.put at e'
    split at e'
    · rename_i hh; subst hh; rw [hc] at g; injection g with g; cases g
    · obtain ⟨c', e2, h1, h2⟩ := (I.more (.cells c e fr)).mps b' es cb co sz e' g
      exact ⟨c', e2, h1, h2.mono hle⟩
  inj := fun b1 b2 p p' e1 e2 g1 g2 hp => by
    unfold Inj.put at e1 e2
    split at e1
    · rename_i h1
      split at e2
      · rename_i h2; rw [h1, h2]
      · injection e1 with e1; subst e1
        obtain ⟨q1, q2, q3⟩ := p'
        have := (I.rng b2 q1 q2 q3 e2).2
        simp only at hp; omega
    · split at e2
      · injection e2 with e2; subst e2
        obtain ⟨q1, q2, q3⟩ := p
        have := (I.rng b1 q1 q2 q3 e1).2
        simp only at hp; omega
      · exact I.inj b1 b2 p p' e1 e2 g1 g2 hp
theorem newBlk_get (b : Blk) (h : AH) (k : Nat) : (newBlk b h).m.get k = if k = h.next then some b else h.m.get k := PT.get_set _ _ _ _
theorem putBlk_get (b : Nat) (x : Blk) (h : AH) (k : Nat) : (putBlk b x h).m.get k = if k = b then some x else h.m.get k := PT.get_set _ _ _ _
/-- Both make a block. -/
theorem Inv.new (I : Inv W ρ ι h w) (cs : List AV) (c : Array Value) (e : TypeId) (fr : Nat × Nat) (hf : fr.2 ≤ fr.1 ∨ c.size ≤ fr.1) (hr : CellsAt W ρ ι c 0 cs) :
    Inv W ρ (ι.put h.next (w.heap.size, 0, c.size)) (newBlk (.cells cs) h) (w.alloc (.cells c e fr)) := by
  have hd := I.dom_none (Nat.le_refl h.next)
  have I' : Inv W ρ ι (newBlk (.cells cs) h) w := I.other (by simp [newBlk]) fun b hb => by
    rw [newBlk_get]; split
    · rename_i he; subst he; exact absurd hd hb
    · rfl
  exact I'.adopt h.next hd (by simp [newBlk]) cs (by rw [newBlk_get]; simp) c e fr hf hr
/-- Both make a map. -/
theorem Inv.newMp (I : Inv W ρ ι h w) : Inv W ρ (ι.put h.next (w.heap.size, 0, 0)) (newBlk (.mp []) h) (w.alloc (.map #[] 0)) := by
  have hd := I.dom_none (Nat.le_refl h.next)
  have hle := Inj.le_put ι h.next (w.heap.size, 0, 0) hd
  have J := I.more (.map #[] 0)
  exact {
    below := J.below
    dom := fun b p e => by
      unfold Inj.put at e
      split at e
      · rename_i hh; rw [hh]; simp [newBlk]
      · have := I.dom b p e; simp [newBlk]; omega
    rng := fun b cb co sz e => by
      unfold Inj.put at e
      split at e
      · injection e with e; simp only [Prod.mk.injEq] at e
        obtain ⟨rfl, -, -⟩ := e
        exact ⟨I.below.size, by simp⟩
      · exact J.rng b cb co sz e
    cells := fun b cs cb co sz e g => by
      unfold Inj.put at e
      rw [newBlk_get] at g
      split at e
      · rename_i hh; rw [if_pos hh] at g; injection g with g; cases g
      · rename_i hh; rw [if_neg hh] at g
        obtain ⟨c, t, fr, h1, h2, h3, h4⟩ := J.cells b cs cb co sz e g
        exact ⟨c, t, fr, h1, h2, h3, h4.mono hle⟩
    mps := fun b es cb co sz e g => by
      unfold Inj.put at e
      rw [newBlk_get] at g
      split at e
      · rename_i hh; rw [if_pos hh] at g; injection g with g; injection g with g; subst g
        injection e with e; simp only [Prod.mk.injEq] at e
        obtain ⟨rfl, -, -⟩ := e
        exact ⟨#[], 0, heap_alloc_new w _, ⟨.nil, .nil⟩, .empty 0⟩
      · rename_i hh; rw [if_neg hh] at g
        obtain ⟨c, t, h1, h2⟩ := J.mps b es cb co sz e g
        exact ⟨c, t, h1, h2.mono hle⟩
    inj := fun b1 b2 p p' e1 e2 g1 g2 hp => by
      unfold Inj.put at e1 e2
      rw [newBlk_get] at g1 g2
      split at e1
      · rename_i h1
        split at e2
        · rename_i h2; rw [h1, h2]
        · injection e1 with e1; subst e1
          obtain ⟨q1, q2, q3⟩ := p'
          have := (I.rng b2 q1 q2 q3 e2).2
          simp only at hp; omega
      · rename_i h1
        rw [if_neg h1] at g1
        split at e2
        · injection e2 with e2; subst e2
          obtain ⟨q1, q2, q3⟩ := p
          have := (I.rng b1 q1 q2 q3 e1).2
          simp only at hp; omega
        · rename_i h2
          rw [if_neg h2] at g2
          exact I.inj b1 b2 p p' e1 e2 g1 g2 hp }
/-- Both write into a block. -/
theorem Inv.write (I : Inv W ρ ι h w) {b cb co sz : Nat} {cs : List AV} (hb : ι b = some (cb, co, sz)) (hc : h.m.get b = some (.cells cs)) (cs' : List AV) (c' : Array Value) (e : TypeId) (fr : Nat × Nat)
    (hs : c'.size = sz) (hf : fr.2 ≤ fr.1 ∨ sz ≤ fr.1) (hr : CellsAt W ρ ι c' co cs') : Inv W ρ ι (putBlk b (.cells cs') h) (putB w cb (.cells c' e fr)) := by
  obtain ⟨hB, hw⟩ := I.rng b cb co sz hb
  have hother : ∀ b' p', ι b' = some p' → b' ≠ b → h.m.get b' ≠ none → p'.1 ≠ cb := fun b' p' e' hne g hp =>
    hne (I.inj b' b p' (cb, co, sz) e' hb g (by rw [hc]; simp) hp)
  exact {
    below := I.below.trans ⟨rfl, rfl, rfl, by rw [putB_size]; exact Nat.le_refl _, fun k hk => by rw [putB_get, if_neg (by omega)]⟩
    dom := I.dom
    rng := fun b' cb' co' sz' e' => by rw [putB_size]; exact I.rng b' cb' co' sz' e'
    cells := fun b' ds cb' co' sz' e' g => by
      rw [putBlk_get] at g
      split at g
      · rename_i he; subst he
        injection g with g; injection g with g; subst g
        rw [hb] at e'; injection e' with e'; simp only [Prod.mk.injEq] at e'
        obtain ⟨rfl, rfl, rfl⟩ := e'
        exact ⟨c', e, fr, by rw [putB_get, if_pos rfl, if_pos hw], hs, hf, hr⟩
      · rename_i he
        obtain ⟨c, t, f2, h1, h2⟩ := I.cells b' ds cb' co' sz' e' g
        exact ⟨c, t, f2, by rw [putB_get, if_neg (hother b' _ e' he (by rw [g]; simp))]; exact h1, h2⟩
    mps := fun b' es cb' co' sz' e' g => by
      rw [putBlk_get] at g
      split at g
      · injection g with g; cases g
      · rename_i he
        obtain ⟨c, t, h1, h2⟩ := I.mps b' es cb' co' sz' e' g
        exact ⟨c, t, by rw [putB_get, if_neg (hother b' _ e' he (by rw [g]; simp))]; exact h1, h2⟩
    inj := fun b1 b2 p p' e1 e2 g1 g2 hp => by
      rw [putBlk_get] at g1 g2
      refine I.inj b1 b2 p p' e1 e2 ?_ ?_ hp
      · intro hn; split at g1
        · rename_i he; subst he; rw [hc] at hn; cases hn
        · exact g1 hn
      · intro hn; split at g2
        · rename_i he; subst he; rw [hc] at hn; cases hn
        · exact g2 hn }
/-- Both write a map. -/
theorem Inv.writeMp (I : Inv W ρ ι h w) {b cb co sz : Nat} {es : List (AV × AV)} (hb : ι b = some (cb, co, sz)) (hc : h.m.get b = some (.mp es)) (es' : List (AV × AV)) (ents : Array MapEntry) (clock : Nat)
    (hr : MapAt W ρ ι es' ents clock) : Inv W ρ ι (putBlk b (.mp es') h) (putB w cb (.map ents clock)) := by
  obtain ⟨hB, hw⟩ := I.rng b cb co sz hb
  have hother : ∀ b' p', ι b' = some p' → b' ≠ b → h.m.get b' ≠ none → p'.1 ≠ cb := fun b' p' e' hne g hp =>
    hne (I.inj b' b p' (cb, co, sz) e' hb g (by rw [hc]; simp) hp)
  exact {
    below := I.below.trans ⟨rfl, rfl, rfl, by rw [putB_size]; exact Nat.le_refl _, fun k hk => by rw [putB_get, if_neg (by omega)]⟩
    dom := I.dom
    rng := fun b' cb' co' sz' e' => by rw [putB_size]; exact I.rng b' cb' co' sz' e'
    cells := fun b' ds cb' co' sz' e' g => by
      rw [putBlk_get] at g
      split at g
      · injection g with g; cases g
      · rename_i he
        obtain ⟨c, t, f2, h1, h2⟩ := I.cells b' ds cb' co' sz' e' g
        exact ⟨c, t, f2, by rw [putB_get, if_neg (hother b' _ e' he (by rw [g]; simp))]; exact h1, h2⟩
    mps := fun b' ds cb' co' sz' e' g => by
      rw [putBlk_get] at g
      split at g
      · rename_i he; subst he
        injection g with g; injection g with g; subst g
        rw [hb] at e'; injection e' with e'; simp only [Prod.mk.injEq] at e'
        obtain ⟨rfl, rfl, rfl⟩ := e'
        exact ⟨ents, clock, by rw [putB_get, if_pos rfl, if_pos hw], hr⟩
      · rename_i he
        obtain ⟨c, t, h1, h2⟩ := I.mps b' ds cb' co' sz' e' g
        exact ⟨c, t, by rw [putB_get, if_neg (hother b' _ e' he (by rw [g]; simp))]; exact h1, h2⟩
    inj := fun b1 b2 p p' e1 e2 g1 g2 hp => by
      rw [putBlk_get] at g1 g2
      refine I.inj b1 b2 p p' e1 e2 ?_ ?_ hp
      · intro hn; split at g1
        · rename_i he; subst he; rw [hc] at hn; cases hn
        · exact g1 hn
      · intro hn; split at g2
        · rename_i he; subst he; rw [hc] at hn; cases hn
        · exact g2 hn }
/-- A slice grows where it is, and is another block from now on; the one that it was is gone. -/
theorem Inv.moved (I : Inv W ρ ι h w) {b cb co sz o : Nat} {cs : List AV} (hb : ι b = some (cb, co, sz)) (hc : h.m.get b = some (.cells cs)) (cs' : List AV) (c' : Array Value) (e : TypeId) (fr : Nat × Nat)
    (hs : c'.size = sz) (hf : fr.2 ≤ fr.1 ∨ sz ≤ fr.1) (hr : CellsAt W ρ ι c' (co + o) cs') :
    Inv W ρ (ι.put h.next (cb, co + o, sz)) (newBlk (.cells cs') (delBlk b h)) (putB w cb (.cells c' e fr)) := by
  obtain ⟨hB, hw⟩ := I.rng b cb co sz hb
  have hd := I.dom_none (Nat.le_refl h.next)
  have hle := Inj.le_put ι h.next (cb, co + o, sz) hd
  have hbn : b < h.next := I.dom b _ hb
  have hother : ∀ b' p', ι b' = some p' → b' ≠ b → h.m.get b' ≠ none → p'.1 ≠ cb := fun b' p' e' hne g hp =>
    hne (I.inj b' b p' (cb, co, sz) e' hb g (by rw [hc]; simp) hp)
  have hget : ∀ k, (newBlk (.cells cs') (delBlk b h)).m.get k = if k = h.next then some (.cells cs') else if k = b then none else h.m.get k := fun k => by
    rw [newBlk_get]
    show (if k = h.next then _ else (h.m.del b).get k) = _
    rw [PT.get_del]
  exact {
    below := I.below.trans ⟨rfl, rfl, rfl, by rw [putB_size]; exact Nat.le_refl _, fun k hk => by rw [putB_get, if_neg (by omega)]⟩
    dom := fun b' p e' => by
      unfold Inj.put at e'
      split at e'
      · rename_i hh; rw [hh]; simp [newBlk, delBlk]
      · have := I.dom b' p e'; simp [newBlk, delBlk]; omega
    rng := fun b' cb' co' sz' e' => by
      rw [putB_size]
      unfold Inj.put at e'
      split at e'
      · injection e' with e'; simp only [Prod.mk.injEq] at e'
        obtain ⟨rfl, -, -⟩ := e'
        exact ⟨hB, hw⟩
      · exact I.rng b' cb' co' sz' e'
    cells := fun b' ds cb' co' sz' e' g => by
      rw [hget] at g
      unfold Inj.put at e'
      split at e'
      · rename_i he
        rw [if_pos he] at g; injection g with g; injection g with g; subst g
        injection e' with e'; simp only [Prod.mk.injEq] at e'
        obtain ⟨rfl, rfl, rfl⟩ := e'
        exact ⟨c', e, fr, by rw [putB_get, if_pos rfl, if_pos hw], hs, hf, hr.mono hle⟩
      · rename_i he
        rw [if_neg he] at g
        split at g
        · cases g
        · rename_i he2
          obtain ⟨c, t, f2, h1, h2, h3, h4⟩ := I.cells b' ds cb' co' sz' e' g
          exact ⟨c, t, f2, by rw [putB_get, if_neg (hother b' _ e' he2 (by rw [g]; simp))]; exact h1, h2, h3, h4.mono hle⟩
    mps := fun b' es cb' co' sz' e' g => by
      rw [hget] at g
      unfold Inj.put at e'
      split at e'
      · rename_i he; rw [if_pos he] at g; injection g with g; cases g
      · rename_i he
        rw [if_neg he] at g
        split at g
        · cases g
        · rename_i he2
          obtain ⟨c, t, h1, h2⟩ := I.mps b' es cb' co' sz' e' g
          exact ⟨c, t, by rw [putB_get, if_neg (hother b' _ e' he2 (by rw [g]; simp))]; exact h1, h2.mono hle⟩
    inj := fun b1 b2 p p' e1 e2 g1 g2 hp => by
      rw [hget] at g1 g2
      unfold Inj.put at e1 e2
      split at e1
      · rename_i h1
        split at e2
        · rename_i h2; rw [h1, h2]
        · rename_i h2
          rw [if_neg h2] at g2
          injection e1 with e1; subst e1
          split at g2
          · exact absurd rfl g2
          · rename_i h3; exact absurd hp.symm (hother b2 p' e2 h3 g2)
      · rename_i h1
        rw [if_neg h1] at g1
        split at g1
        · exact absurd rfl g1
        · rename_i h4
          split at e2
          · injection e2 with e2; subst e2
            exact absurd hp (hother b1 p e1 h4 g1)
          · rename_i h2
            rw [if_neg h2] at g2
            split at g2
            · exact absurd rfl g2
            · exact I.inj b1 b2 p p' e1 e2 g1 g2 hp }
end
end Go.KM
