/-
  Operations of the small machine and the model's, I: constants, reading, writing, making.
-/
import Derived.Test.YtffpkcmcoppbmaaGreatDoorKMem
import Derived.WalkKit
namespace Go.KM
open Go.RowKit
section
variable {P : Program} {W : World} {ρ : Nat → Int} {ι : Inj} {h h' : AH} {w : World}

theorem ofCell_rel {v : Value} {a : AV} (e : ofCell v = some a) : Rel W ρ ι a v := by
  unfold ofCell at e
  split at e <;> first | (injection e with e; subst e; first | constructor | exact .str _) | cases e
theorem ofCell_cell {v : Value} {a : AV} (e : ofCell v = some a) : isCell a = true := by
  unfold ofCell at e
  split at e <;> first | (injection e with e; subst e; rfl) | cases e
theorem ofCells_rel : ∀ {l : List Value} {a : List AV}, ofCells l = some a → RelL W ρ ι a l
  | [], a, e => by simp only [ofCells] at e; injection e with e; subst e; exact .nil
  | v :: l, a, e => by
    simp only [ofCells] at e
    split at e
    · rename_i x y h1 h2
      injection e with e; subst e
      exact .cons _ _ _ _ (ofCell_rel h1) (ofCells_rel h2)
    · cases e
theorem ofCells_cell : ∀ {l : List Value} {a : List AV}, ofCells l = some a → ∀ x ∈ a, isCell x = true
  | [], a, e => by simp only [ofCells] at e; injection e with e; subst e; simp
  | v :: l, a, e => by
    simp only [ofCells] at e
    split at e
    · rename_i x y h1 h2
      injection e with e; subst e
      intro z hz
      rcases List.mem_cons.1 hz with rfl | hz
      · exact ofCell_cell h1
      · exact ofCells_cell h2 z hz
    · cases e
theorem ofConst_rel {v : Value} {a : AV} (e : ofConst v = some a) : Rel W ρ ι a v := by
  unfold ofConst at e
  split at e
  · rename_i cs
    cases hc : ofCells cs.toList with
    | none => rw [hc] at e; cases e
    | some b => rw [hc] at e; injection e with e; subst e; exact .agg _ _ (ofCells_rel hc)
  · rename_i vs
    split at e
    · rename_i hs
      injection e with e; subst e
      have : vs = #[] := Array.eq_empty_of_size_eq_zero hs
      subst this; exact .tup _ _ .nil
    · cases e
  · exact ofCell_rel e
theorem ofConst_cells {v : Value} {a : AV} (e : ofConst v = some a) (ht : a ≠ .tup []) : ∀ x ∈ a.cells, isCell x = true := by
  unfold ofConst at e
  split at e
  · rename_i cs
    cases hc : ofCells cs.toList with
    | none => rw [hc] at e; cases e
    | some b => rw [hc] at e; injection e with e; subst e; exact ofCells_cell hc
  · split at e
    · injection e with e; exact absurd e.symm ht
    · cases e
  · have h1 := ofCell_cell e
    intro x hx
    cases a <;> simp_all [AV.cells, isCell]

theorem run_isAgg {t : TypeId} {b : Bool} (e : aggC P t = some b) : (isAgg t).run P w = .ok b w := by
  unfold aggC at e
  split at e <;> (try (injection e with e; subst e)) <;> first | (cases e; done) | (rename_i hu; simp [isAgg, run_underlying hu]; done) | (rename_i d hn1 hn2 hu; simp only [isAgg, Sem.run_bind, run_underlying hu, Result.andThen_ok]; cases d <;> first | rfl | (exact absurd rfl (hn1 _)) | (exact absurd rfl (hn2 _ _)))
theorem info_of_size {t : TypeId} {n : Nat} (e : sizeC P t = some n) : ∃ i, P.info? t = some i ∧ i.size = n := by
  unfold sizeC at e
  cases hi : P.info? t with
  | none => rw [hi] at e; cases e
  | some i => rw [hi] at e; injection e with e; exact ⟨i, rfl, e⟩
theorem info_of_bytes {t : TypeId} {n : Nat} (e : bytesC P t = some n) : ∃ i, P.info? t = some i ∧ i.bytes = n := by
  unfold bytesC at e
  cases hi : P.info? t with
  | none => rw [hi] at e; cases e
  | some i => rw [hi] at e; injection e with e; exact ⟨i, rfl, e⟩
theorem run_sizeOf' {t : TypeId} {n : Nat} (e : sizeC P t = some n) : (sizeOf t).run P w = .ok n w := by
  obtain ⟨i, hi, rfl⟩ := info_of_size e
  simp [sizeOf, typeInfo, hi]
theorem zero_of {t : TypeId} {z : AV} (e : zeroOf P t = some z) : ∃ i v, P.info? t = some i ∧ i.zero = some v ∧ ofConst v = some z := by
  unfold zeroOf at e
  cases hi : P.info? t with
  | none => rw [hi] at e; cases e
  | some i =>
    rw [hi] at e
    simp only at e
    cases hz : i.zero with
    | none => rw [hz] at e; cases e
    | some v => rw [hz] at e; exact ⟨i, v, rfl, hz, e⟩
theorem run_zeroValue' {t : TypeId} {z : AV} (e : zeroOf P t = some z) : ∃ v, ofConst v = some z ∧ ∀ w, (zeroValue t).run P w = .ok v w := by
  obtain ⟨i, v, hi, hz, hv⟩ := zero_of e
  exact ⟨v, hv, fun w => by simp [zeroValue, typeInfo, hi, hz]⟩

/-- The model's run answers what the small machine's does. -/
def Did (W : World) (ρ : Nat → Int) (ι : Inj) (h : AH) (r : Result Value) (v : AV) (h' : AH) : Prop :=
  ∃ ι' w' v', r = .ok v' w' ∧ Ext ι h ι' h' ∧ Inv W ρ ι' h' w' ∧ Rel W ρ ι' v v'
def DidU (W : World) (ρ : Nat → Int) (ι : Inj) (h : AH) (r : Result Unit) (h' : AH) : Prop :=
  ∃ ι' w', r = .ok () w' ∧ Ext ι h ι' h' ∧ Inv W ρ ι' h' w'
theorem Did.here {r : Result Value} {v : AV} {v' : Value} (I : Inv W ρ ι h w) (e : r = .ok v' w) (hr : Rel W ρ ι v v') : Did W ρ ι h r v h := ⟨ι, w, v', e, .refl ι h, I, hr⟩

theorem Did.from {hh : AH} {r : Result Value} {v : AV} (hn : hh.next = h.next) (d : Did W ρ ι hh r v h') : Did W ρ ι h r v h' := by
  obtain ⟨ι', w', v', h1, h2, h3, h4⟩ := d
  exact ⟨ι', w', v', h1, ⟨h2.le, fun b hb => h2.same b (by omega), hn ▸ h2.next⟩, h3, h4⟩

theorem addr_add (g o i : Nat) : (⟨g, o, none⟩ : Addr).add i = ⟨g, o + i, none⟩ := by
  unfold Addr.add; split <;> simp_all

/-! reading -/
theorem rel_ptr {b o : Nat} {x' : Value} (hx : Rel W ρ ι (.ptr b o) x') : ∃ cb co sz, ι b = some (cb, co, sz) ∧ x' = .pointer (some ⟨cb, co + o, none⟩) := by
  cases hx with | ptr b o cb co sz hb => exact ⟨cb, co, sz, hb, rfl⟩
theorem rel_rptr {cs : List AV} {x' : Value} (hx : Rel W ρ ι (.rptr cs) x') : ∃ g o, RelC W ρ ι g o cs ∧ x' = .pointer (some ⟨g, o, none⟩) := by
  cases hx with | rptr cs g o hc => exact ⟨g, o, hc, rfl⟩
theorem load1_sound (I : Inv W ρ ι h w) {x : AV} {x' : Value} {v : AV} {t : TypeId} (hx : Rel W ρ ι x x') (ht : aggC P t = some false) (e : xload1 x h = .ok v h') :
    h' = h ∧ ∃ v', (Instr.loadAt t x').run P w = .ok v' w ∧ Rel W ρ ι v v' := by
  unfold xload1 at e
  split at e
  · rename_i b o
    obtain ⟨cb, co, sz, hb, rfl⟩ := rel_ptr hx
    split at e
    · rename_i cs hcs
      split at e
      · rename_i u hu
        injection e with e1 e2
        subst e1 e2
        rw [nth_eq] at hu
        obtain ⟨v', h1, h2, h3⟩ := I.cell hb (cellsAt_some hcs) o u hu
        exact ⟨rfl, v', by simp [Instr.loadAt, Instr.sureAddr, loadVar, run_isAgg ht, h1], h2⟩
      · cases e
    · cases e
  · rename_i cs
    obtain ⟨g, o, hc, rfl⟩ := rel_rptr hx
    split at e
    · injection e with e1 e2
      subst e1 e2
      obtain ⟨v', h1, h2⟩ := hc.get 0 _ rfl
      have h3 := I.roCell h1
      exact ⟨rfl, v', by simp only [Nat.add_zero] at h3; simp [Instr.loadAt, Instr.sureAddr, loadVar, run_isAgg ht, h3], h2⟩
    · cases e
  · cases e
/-- The model's cells from an address on. -/
theorem loadCells_sound {g o : Nat} (s : List AV) (hc : ∀ i v, s[i]? = some v → ∃ v', w.cell? ⟨g, o + i, none⟩ = some v' ∧ Rel W ρ ι v v') :
    ∃ vs : List Value, (loadCells ⟨g, o, none⟩ s.length).run P w = .ok vs.toArray w ∧ RelL W ρ ι s vs ∧ ∀ j u, vs[j]? = some u → w.cell? ((⟨g, o, none⟩ : Addr).add j) = some u := by
  have key : ∃ vs : List Value, vs.length = s.length ∧ (∀ (i : Nat) (v : AV) (v' : Value), s[i]? = some v → vs[i]? = some v' → Rel W ρ ι v v') ∧ ∀ (j : Nat) (u : Value), vs[j]? = some u → w.cell? ⟨g, o + j, none⟩ = some u := by
    induction s generalizing o with
    | nil => exact ⟨[], rfl, by simp, by simp⟩
    | cons a s ih =>
      obtain ⟨a', h1, h2⟩ := hc 0 a rfl
      obtain ⟨vs, k1, k2, k3⟩ := @ih (o + 1) (fun i v e => by
        obtain ⟨v', q1, q2⟩ := hc (i + 1) v (by simpa using e)
        exact ⟨v', by rw [show o + 1 + i = o + (i + 1) from by omega]; exact q1, q2⟩)
      refine ⟨a' :: vs, by simp [k1], ?_, ?_⟩
      · intro i v v' e e'
        cases i with
        | zero => simp at e e'; subst e e'; exact h2
        | succ i => exact k2 i v v' (by simpa using e) (by simpa using e')
      · intro j u e
        cases j with
        | zero => simp at e; subst e; simpa using h1
        | succ j => rw [show o + (j + 1) = o + 1 + j from by omega]; exact k3 j u (by simpa using e)
  obtain ⟨vs, k1, k2, k3⟩ := key
  have k4 : ∀ j u, vs[j]? = some u → w.cell? ((⟨g, o, none⟩ : Addr).add j) = some u := fun j u e => by rw [addr_add]; exact k3 j u e
  have hr := run_loadCells_list (P := P) (w := w) ⟨g, o, none⟩ vs k4
  rw [k1] at hr
  exact ⟨vs, hr, .of_get k1.symm k2, k4⟩
theorem cut_cells (I : Inv W ρ ι h w) {b cb co sz o n : Nat} {cs s : List AV} (hb : ι b = some (cb, co, sz)) (hc : h.m.get b = some (.cells cs)) (hs : cut cs o n = some s) :
    ∀ i v, s[i]? = some v → ∃ v', w.cell? ⟨cb, co + o + i, none⟩ = some v' ∧ Rel W ρ ι v v' := by
  intro i v hv
  have hi : i < n := by
    have := (cut_some hs).2
    have := (List.getElem?_eq_some_iff.1 hv).1
    omega
  rw [cut_get hs i hi] at hv
  obtain ⟨v', h1, h2, -⟩ := I.cell hb hc (o + i) v hv
  exact ⟨v', by rw [Nat.add_assoc]; exact h1, h2⟩
theorem cut_ro (I : Inv W ρ ι h w) {g o : Nat} {cs s : List AV} {p n : Nat} (hc : RelC W ρ ι g o cs) (hs : cut cs p n = some s) :
    ∀ i v, s[i]? = some v → ∃ v', w.cell? ⟨g, o + p + i, none⟩ = some v' ∧ Rel W ρ ι v v' := by
  intro i v hv
  have hi : i < n := by
    have := (cut_some hs).2
    have := (List.getElem?_eq_some_iff.1 hv).1
    omega
  rw [cut_get hs i hi] at hv
  obtain ⟨v', h1, h2⟩ := hc.get (p + i) v hv
  exact ⟨v', by rw [Nat.add_assoc]; exact I.roCell h1, h2⟩
theorem loadn_sound (I : Inv W ρ ι h w) {x : AV} {x' : Value} {v : AV} {t n : Nat} (hx : Rel W ρ ι x x') (ht : aggC P t = some true) (hn : sizeC P t = some n) (e : xloadn n x h = .ok v h') :
    h' = h ∧ ∃ v', (Instr.loadAt t x').run P w = .ok v' w ∧ Rel W ρ ι v v' := by
  unfold xloadn at e
  split at e
  · rename_i b o
    obtain ⟨cb, co, sz, hb, rfl⟩ := rel_ptr hx
    split at e
    · rename_i cs hcs
      split at e
      · rename_i s hs
        injection e with e1 e2
        subst e1 e2
        obtain ⟨vs, h1, h2, -⟩ := loadCells_sound (P := P) s (cut_cells I hb (cellsAt_some hcs) hs)
        rw [(cut_some hs).2] at h1
        exact ⟨rfl, .agg vs.toArray, by simp [Instr.loadAt, Instr.sureAddr, loadVar, run_isAgg ht, run_sizeOf' hn, h1], (.agg _ _ (by simpa using h2))⟩
      · cases e
    · cases e
  · rename_i cs
    obtain ⟨g, o, hc, rfl⟩ := rel_rptr hx
    split at e
    · rename_i s hs
      injection e with e1 e2
      subst e1 e2
      obtain ⟨vs, h1, h2, -⟩ := loadCells_sound (P := P) s (cut_ro I hc hs)
      rw [(cut_some hs).2] at h1
      exact ⟨rfl, .agg vs.toArray, by simp only [Nat.add_zero] at h1; simp [Instr.loadAt, Instr.sureAddr, loadVar, run_isAgg ht, run_sizeOf' hn, h1], (.agg _ _ (by simpa using h2))⟩
    · cases e
  · cases e

/-! writing -/
theorem setCell_putB {g i : Nat} {c : Array Value} {e : TypeId} {fr : Nat × Nat} (hg : w.heap[g]? = some (.cells c e fr)) (v : Value) :
    w.setCell ⟨g, i, none⟩ v = putB w g (.cells (c.setIfInBounds i v) e fr) := by
  have hlt := (Array.getElem?_eq_some_iff.1 hg).1
  have hv := (Array.getElem?_eq_some_iff.1 hg).2
  simp only [World.setCell, putB]
  congr 1
  apply Array.ext_getElem?
  intro k
  rw [Array.getElem?_modify, Array.getElem?_setIfInBounds]
  by_cases hk : g = k
  · subst hk
    simp [hlt, hv]
  · simp [hk]
theorem putB_same {g : Nat} {o : Obj} (hg : w.heap[g]? = some o) : putB w g o = w := by
  have hlt := (Array.getElem?_eq_some_iff.1 hg).1
  have hh : w.heap.setIfInBounds g o = w.heap := by
    apply Array.ext_getElem?
    intro k
    rw [Array.getElem?_setIfInBounds]
    by_cases hk : g = k
    · subst hk; rw [if_pos rfl, if_pos hlt, hg]
    · rw [if_neg hk]
  simp only [putB, hh]
theorem putB_putB (w : World) (g : Nat) (a b : Obj) : putB (putB w g a) g b = putB w g b := by simp [putB]
/-- Values laid into a row of the model's, one behind the other. -/
theorem run_storeCells' {g : Nat} {e : TypeId} {fr : Nat × Nat} (off : Nat) : ∀ (vs : List Value) (i : Nat) (c : Array Value) (w : World), w.heap[g]? = some (.cells c e fr) → (∀ v ∈ vs, v.oneCell' = true) →
    off + i + vs.length ≤ c.size → (fr.2 ≤ fr.1 ∨ c.size ≤ fr.1) →
    ∃ c' : Array Value, (storeCells ⟨g, off, none⟩ vs i).run P w = .ok () (putB w g (.cells c' e fr)) ∧ c'.size = c.size ∧
      ∀ j, c'[j]? = if off + i ≤ j ∧ j < off + i + vs.length then vs[j - (off + i)]? else c[j]?
  | [], i, c, w, hg, _, _, _ => by
    have hlt := (Array.getElem?_eq_some_iff.1 hg).1
    refine ⟨c, ?_, rfl, fun j => by rw [if_neg (by simp)]⟩
    simp only [storeCells, Sem.run_pure]
    rw [putB_same hg]
  | v :: vs, i, c, w, hg, h1, hfit, hf => by
    simp only [List.length_cons] at hfit
    have hlt := (Array.getElem?_eq_some_iff.1 hg).1
    have hcell : w.cell? ⟨g, off + i, none⟩ = c[off + i]? := cell_of_row w g (off + i) c e fr hg
    have hc2 : c[off + i]? = some c[off + i] := Array.getElem?_eq_getElem (by omega)
    have hfz : w.frozen? ⟨g, off + i, none⟩ = false := by
      obtain ⟨lo, hi⟩ := fr
      simp only [World.frozen?, hg]
      simp only at hf
      rw [Bool.and_eq_false_iff]
      rcases hf with hf | hf
      · by_cases hl : lo ≤ off + i
        · right; simp; omega
        · left; simpa using hl
      · left; simp; omega
    have hst : (store (⟨g, off + i, none⟩ : Addr) v).run P w = .ok () (putB w g (.cells (c.setIfInBounds (off + i) v) e fr)) := by
      rw [run_store P w _ v .plain (h1 v (by simp)), hcell, hc2]
      simp only [hfz, Bool.false_eq_true, if_false]
      rw [setCell_putB hg]
    have hg2 : (putB w g (.cells (c.setIfInBounds (off + i) v) e fr)).heap[g]? = some (.cells (c.setIfInBounds (off + i) v) e fr) := by rw [putB_get, if_pos rfl, if_pos hlt]
    obtain ⟨c', k1, k2, k3⟩ := run_storeCells' off vs (i + 1) (c.setIfInBounds (off + i) v) _ hg2 (fun u hu => h1 u (by simp [hu])) (by simp; omega) (by simpa using hf)
    refine ⟨c', ?_, by simpa using k2, ?_⟩
    · simp only [storeCells, Sem.run_bind]
      rw [addr_add, hst]
      simp only [Result.andThen_ok]
      rw [k1, putB_putB]
    · intro j
      rw [k3]
      by_cases hj : off + i = j
      · subst hj
        rw [if_neg (by omega), if_pos (by simp)]
        simp [Array.getElem?_setIfInBounds]; omega
      · by_cases hj2 : off + (i + 1) ≤ j ∧ j < off + (i + 1) + vs.length
        · rw [if_pos hj2, if_pos (by simp; omega), show j - (off + i) = j - (off + (i + 1)) + 1 from by omega]; simp
        · rw [if_neg hj2, if_neg (by simp; omega), Array.getElem?_setIfInBounds, if_neg (by omega)]
/-- Both write cells into a block. -/
theorem writeCells (I : Inv W ρ ι h w) {b cb co sz o : Nat} {cs vs : List AV} {vs' : List Value} (hb : ι b = some (cb, co, sz)) (hc : h.m.get b = some (.cells cs)) (hv : RelL W ρ ι vs vs')
    (h1 : ∀ v ∈ vs, isCell v = true) (hfit : o + vs.length ≤ cs.length) :
    ∃ w', (storeCells ⟨cb, co + o, none⟩ vs').run P w = .ok () w' ∧ Inv W ρ ι (putBlk b (.cells (splice cs o vs)) h) w' := by
  obtain ⟨c, e, fr, hw, hs, hf, hr⟩ := I.cells b cs cb co sz hb hc
  have hlen := hv.length
  have hfit2 : co + o + vs'.length ≤ c.size := by have := hr.1; omega
  have hone : ∀ v ∈ vs', v.oneCell' = true := by
    intro v hv'
    obtain ⟨i, hi, rfl⟩ := List.mem_iff_getElem.1 hv'
    obtain ⟨u', hu1, hu2⟩ := hv.get i vs[i] (List.getElem?_eq_getElem (by omega))
    rw [List.getElem?_eq_getElem hi] at hu1
    injection hu1 with hu1; subst hu1
    exact hu2.oneCell (h1 _ (List.getElem_mem _))
  obtain ⟨c', k1, k2, k3⟩ := run_storeCells' (P := P) (co + o) vs' 0 c w hw hone (by simpa using hfit2) (by rw [hs]; exact hf)
  refine ⟨_, k1, I.write hb hc _ c' e fr (by rw [k2, hs]) hf ?_⟩
  refine ⟨by rw [length_splice _ _ _ hfit, k2]; exact hr.1, ?_⟩
  intro i v hi
  rw [getElem?_splice _ _ _ hfit] at hi
  rw [k3]
  split at hi
  · rename_i h2
    rw [if_neg (by omega)]; exact hr.2 i v hi
  · split at hi
    · rename_i h2 h3
      rw [if_pos (by omega), show co + i - (co + o + 0) = i - o from by omega]
      exact hv.get _ _ hi
    · rename_i h2 h3
      rw [if_neg (by omega)]; exact hr.2 i v hi
end
end Go.KM
