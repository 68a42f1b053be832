/-
  How the small machine's values and memory stand to the model's.
-/
import Derived.Test.YtffpkcmcoppbmaaGreatDoorKLst
import Derived.Test.YtffpkcmcoppbmaaGreatDoorKComp
import Derived.Below
import Derived.Laws.Rows
import Derived.Laws.Append
namespace Go.KM
open Go.RowKit

noncomputable def SE.val (ρ : Nat → Int) : SE → Int
  | .var i => ρ i
  | .lit n => n
  | .op o k a b => match o with
    | .add => k.wrap (SE.val ρ a + SE.val ρ b)
    | .sub => k.wrap (SE.val ρ a - SE.val ρ b)
    | .mul => k.wrap (SE.val ρ a * SE.val ρ b)
    | .quo => k.wrap ((SE.val ρ a).tdiv (SE.val ρ b))
    | .rem => (SE.val ρ a).tmod (SE.val ρ b)
    | _ => 0

/-- Where a block of the small machine lies: a block of the model's, the first cell there, how many cells that block has. -/
abbrev Inj := Nat → Option (Nat × Nat × Nat)
def Inj.le (ι κ : Inj) : Prop := ∀ b p, ι b = some p → κ b = some p
theorem Inj.le_refl (ι : Inj) : ι.le ι := fun _ _ h => h
theorem Inj.le_trans {ι κ τ : Inj} (h : ι.le κ) (k : κ.le τ) : ι.le τ := fun b p e => k b p (h b p e)
/-- What lies somewhere stays there; of what was made before, nothing that lay nowhere lies anywhere now. -/
structure Ext (ι : Inj) (h : AH) (ι' : Inj) (h' : AH) : Prop where
  le : ι.le ι'
  same : ∀ b, b < h.next → ι' b = ι b
  next : h.next ≤ h'.next
theorem Ext.here {ι : Inj} {h h' : AH} (hn : h'.next = h.next) : Ext ι h ι h' := ⟨ι.le_refl, fun _ _ => rfl, Nat.le_of_eq hn.symm⟩
theorem Ext.refl (ι : Inj) (h : AH) : Ext ι h ι h := .here rfl
theorem Ext.trans {ι κ τ : Inj} {h k l : AH} (x : Ext ι h κ k) (y : Ext κ k τ l) : Ext ι h τ l :=
  ⟨Inj.le_trans x.le y.le, fun b hb => (y.same b (Nat.lt_of_lt_of_le hb x.next)).trans (x.same b hb), Nat.le_trans x.next y.next⟩

mutual
inductive Rel (W : World) (ρ : Nat → Int) (ι : Inj) : AV → Value → Prop
  | bool (b : Bool) : Rel W ρ ι (.bool b) (.bool b)
  | int (k : IntKind) (n : Int) : Rel W ρ ι (.int k n) (.int k n)
  | sym (k : IntKind) (e : SE) : Rel W ρ ι (.sym k e) (.int k (e.val ρ))
  | str (s : ByteArray) : Rel W ρ ι (.str (bytesOf s)) (.string s)
  | nilp : Rel W ρ ι .nilp (.pointer none)
  | ptr (b o cb co sz : Nat) (h : ι b = some (cb, co, sz)) : Rel W ρ ι (.ptr b o) (.pointer (some ⟨cb, co + o, none⟩))
  | rptr (cs : List AV) (g o : Nat) (h : RelC W ρ ι g o cs) : Rel W ρ ι (.rptr cs) (.pointer (some ⟨g, o, none⟩))
  | nils : Rel W ρ ι .nils (.slice none 0 0)
  | sl (b o len esz c cb co sz : Nat) (h : ι b = some (cb, co, sz)) : Rel W ρ ι (.sl b o len esz (some c)) (.slice (some ⟨cb, co + o, none⟩) len c)
  | slu (b o len esz cap cb co sz : Nat) (h : ι b = some (cb, co, sz)) (hc : co + o + cap * esz = sz) (hl : len ≤ cap) (hm : cap ≤ maxLen) :
      Rel W ρ ι (.sl b o len esz none) (.slice (some ⟨cb, co + o, none⟩) len cap)
  | rsl (cs : List AV) (len cap g o : Nat) (h : RelC W ρ ι g o cs) (hl : len ≤ cap) : Rel W ρ ι (.rsl cs len) (.slice (some ⟨g, o, none⟩) len cap)
  | nilm : Rel W ρ ι .nilm (.map none)
  | map (b cb co sz : Nat) (h : ι b = some (cb, co, sz)) : Rel W ρ ι (.map b) (.map (some cb))
  | func (f : Nat) (a b : List AV) (a' b' : Array Value) (ha : RelL W ρ ι a a'.toList) (hb : RelL W ρ ι b b'.toList) : Rel W ρ ι (.func f a b) (.func (.func f) a' b')
  | nilf : Rel W ρ ι .nilf .nilFunc
  | iface (t : Nat) (v : AV) (v' : Value) (h : Rel W ρ ι v v') : Rel W ρ ι (.iface t v) (.iface t v')
  | nili : Rel W ρ ι .nili .nilIface
  | agg (cs : List AV) (cs' : Array Value) (h : RelL W ρ ι cs cs'.toList) : Rel W ρ ι (.agg cs) (.agg cs')
  | tup (vs : List AV) (vs' : Array Value) (h : RelL W ρ ι vs vs'.toList) : Rel W ρ ι (.tup vs) (.tuple vs')
inductive RelL (W : World) (ρ : Nat → Int) (ι : Inj) : List AV → List Value → Prop
  | nil : RelL W ρ ι [] []
  | cons (v : AV) (v' : Value) (l : List AV) (l' : List Value) (h : Rel W ρ ι v v') (hl : RelL W ρ ι l l') : RelL W ρ ι (v :: l) (v' :: l')
inductive RelC (W : World) (ρ : Nat → Int) (ι : Inj) : Nat → Nat → List AV → Prop
  | nil (g o : Nat) : RelC W ρ ι g o []
  | cons (g o : Nat) (v : AV) (v' : Value) (l : List AV) (hc : W.cell? ⟨g, o, none⟩ = some v') (h : Rel W ρ ι v v') (hl : RelC W ρ ι g (o + 1) l) : RelC W ρ ι g o (v :: l)
end

section
variable {W : World} {ρ : Nat → Int} {ι κ : Inj}
mutual
theorem Rel.mono (hle : ι.le κ) : ∀ {v : AV} {v' : Value}, Rel W ρ ι v v' → Rel W ρ κ v v'
  | _, _, .bool b => .bool b
  | _, _, .int k n => .int k n
  | _, _, .sym k e => .sym k e
  | _, _, .str s => .str s
  | _, _, .nilp => .nilp
  | _, _, .ptr b o cb co sz h => .ptr b o cb co sz (hle _ _ h)
  | _, _, .rptr cs g o h => .rptr cs g o (RelC.mono hle h)
  | _, _, .nils => .nils
  | _, _, .sl b o len esz c cb co sz h => .sl b o len esz c cb co sz (hle _ _ h)
  | _, _, .slu b o len esz cap cb co sz h hc hl hm => .slu b o len esz cap cb co sz (hle _ _ h) hc hl hm
  | _, _, .rsl cs len cap g o h hl => .rsl cs len cap g o (RelC.mono hle h) hl
  | _, _, .nilm => .nilm
  | _, _, .map b cb co sz h => .map b cb co sz (hle _ _ h)
  | _, _, .func f a b a' b' ha hb => .func f a b a' b' (RelL.mono hle ha) (RelL.mono hle hb)
  | _, _, .nilf => .nilf
  | _, _, .iface t v v' h => .iface t v v' (Rel.mono hle h)
  | _, _, .nili => .nili
  | _, _, .agg cs cs' h => .agg cs cs' (RelL.mono hle h)
  | _, _, .tup vs vs' h => .tup vs vs' (RelL.mono hle h)
theorem RelL.mono (hle : ι.le κ) : ∀ {l : List AV} {l' : List Value}, RelL W ρ ι l l' → RelL W ρ κ l l'
  | _, _, .nil => .nil
  | _, _, .cons v v' l l' h hl => .cons v v' l l' (Rel.mono hle h) (RelL.mono hle hl)
theorem RelC.mono (hle : ι.le κ) : ∀ {g o : Nat} {l : List AV}, RelC W ρ ι g o l → RelC W ρ κ g o l
  | _, _, _, .nil g o => .nil g o
  | _, _, _, .cons g o v v' l hc h hl => .cons g o v v' l hc (Rel.mono hle h) (RelC.mono hle hl)
end

theorem RelL.length : ∀ {l : List AV} {l' : List Value}, RelL W ρ ι l l' → l.length = l'.length
  | _, _, .nil => rfl
  | _, _, .cons _ _ _ _ _ hl => by simp [RelL.length hl]
theorem RelL.get : ∀ {l : List AV} {l' : List Value}, RelL W ρ ι l l' → ∀ (i : Nat) (v : AV), l[i]? = some v → ∃ v', l'[i]? = some v' ∧ Rel W ρ ι v v'
  | _, _, .nil, i, v, h => by simp at h
  | _, _, .cons a a' l l' ha hl, 0, v, h => ⟨a', rfl, by simp at h; exact h ▸ ha⟩
  | _, _, .cons a a' l l' ha hl, i + 1, v, h => by simpa using RelL.get hl i v (by simpa using h)
theorem RelL.of_get : ∀ {l : List AV} {l' : List Value}, l.length = l'.length → (∀ (i : Nat) (v : AV) (v' : Value), l[i]? = some v → l'[i]? = some v' → Rel W ρ ι v v') → RelL W ρ ι l l'
  | [], [], _, _ => .nil
  | [], _ :: _, h, _ => by simp at h
  | _ :: _, [], h, _ => by simp at h
  | a :: l, b :: l', h, k => .cons _ _ _ _ (k 0 a b rfl rfl) (RelL.of_get (by simpa using h) fun i v v' e e' => k (i + 1) v v' (by simpa using e) (by simpa using e'))
theorem RelL.append {l m : List AV} {l' m' : List Value} (h : RelL W ρ ι l l') (k : RelL W ρ ι m m') : RelL W ρ ι (l ++ m) (l' ++ m') := by
  induction l generalizing l' with
  | nil => cases h; exact k
  | cons a l ih => cases h with | cons _ a' _ l'' ha hl => exact .cons _ _ _ _ ha (ih hl)
theorem RelL.take {l : List AV} {l' : List Value} (h : RelL W ρ ι l l') (n : Nat) : RelL W ρ ι (l.take n) (l'.take n) := by
  induction n generalizing l l' with
  | zero => exact .nil
  | succ n ih => cases h with
    | nil => exact .nil
    | cons v v' l l' h hl => exact .cons _ _ _ _ h (ih hl)
theorem RelL.drop {l : List AV} {l' : List Value} (h : RelL W ρ ι l l') (n : Nat) : RelL W ρ ι (l.drop n) (l'.drop n) := by
  induction n generalizing l l' with
  | zero => exact h
  | succ n ih => cases h with
    | nil => exact .nil
    | cons v v' l l' h hl => exact ih hl
theorem RelC.get : ∀ {g o : Nat} {l : List AV}, RelC W ρ ι g o l → ∀ (i : Nat) (v : AV), l[i]? = some v → ∃ v', W.cell? ⟨g, o + i, none⟩ = some v' ∧ Rel W ρ ι v v'
  | _, _, _, .nil g o, i, v, h => by simp at h
  | _, _, _, .cons g o a a' l hc ha hl, 0, v, h => ⟨a', hc, by simp at h; exact h ▸ ha⟩
  | _, _, _, .cons g o a a' l hc ha hl, i + 1, v, h => by
    obtain ⟨v', h1, h2⟩ := RelC.get hl i v (by simpa using h)
    exact ⟨v', by rw [show o + (i + 1) = o + 1 + i from by omega]; exact h1, h2⟩
theorem RelC.drop {g o : Nat} {l : List AV} (h : RelC W ρ ι g o l) (n : Nat) : RelC W ρ ι g (o + n) (l.drop n) := by
  induction n generalizing o l with
  | zero => exact h
  | succ n ih => cases h with
    | nil => exact .nil _ _
    | cons _ _ v v' l hc h hl => rw [show o + (n + 1) = o + 1 + n from by omega]; exact ih hl
theorem RelC.take {g o : Nat} {l : List AV} (h : RelC W ρ ι g o l) (n : Nat) : RelC W ρ ι g o (l.take n) := by
  induction n generalizing o l with
  | zero => exact .nil _ _
  | succ n ih => cases h with
    | nil => exact .nil _ _
    | cons _ _ v v' l hc h hl => exact .cons _ _ _ _ _ hc h (ih hl)

theorem Rel.cells {v : AV} {v' : Value} (h : Rel W ρ ι v v') : RelL W ρ ι v.cells v'.cells.toList := by
  cases h <;> first | (exact .cons _ _ _ _ (by constructor <;> assumption) .nil) | assumption
theorem Rel.oneCell {v : AV} {v' : Value} (h : Rel W ρ ι v v') (hc : isCell v = true) : v'.oneCell' = true := by
  cases h <;> first | rfl | (simp [isCell] at hc)
end

/-- The model's cells from 'o' on are as the small machine's. -/
def CellsAt (W : World) (ρ : Nat → Int) (ι : Inj) (c : Array Value) (co : Nat) (cs : List AV) : Prop :=
  co + cs.length ≤ c.size ∧ ∀ i v, cs[i]? = some v → ∃ v', c[co + i]? = some v' ∧ Rel W ρ ι v v'
/-- A map's entries. -/
def EntsAt (W : World) (ρ : Nat → Int) (ι : Inj) (es : List (AV × AV)) (es' : List MapEntry) : Prop :=
  RelL W ρ ι (es.map (·.1)) (es'.map (·.key)) ∧ RelL W ρ ι (es.map (·.2)) (es'.map (·.val))

/-- A map's stamps: none alike, none of a later time. -/
def Born (es : Array MapEntry) (clock : Nat) : Prop := (∀ x ∈ es.toList, x.born < clock) ∧ (es.toList.map (·.born)).Nodup
theorem Born.empty (clock : Nat) : Born #[] clock := ⟨by simp, by simp⟩
theorem Born.push {es : Array MapEntry} {clock : Nat} (h : Born es clock) (key val : Value) : Born (es.push { key, val, born := clock }) (clock + 1) := by
  refine ⟨fun x hx => ?_, ?_⟩
  · rw [Array.toList_push] at hx
    rcases List.mem_append.1 hx with hx | hx
    · exact Nat.lt_succ_of_lt (h.1 x hx)
    · rw [List.mem_singleton.1 hx]; exact Nat.lt_succ_self _
  · rw [Array.toList_push, List.map_append]
    refine List.nodup_append.2 ⟨h.2, by simp, fun a ha b hb hab => ?_⟩
    obtain ⟨x, hx, rfl⟩ := List.mem_map.1 ha
    simp only [List.map_cons, List.map_nil, List.mem_singleton] at hb
    have := h.1 x hx
    omega
theorem Born.modify {es : Array MapEntry} {clock : Nat} (h : Born es clock) (j : Nat) (key val : Value) : Born (es.modify j fun e => { e with key, val }) clock := by
  have hm : (es.modify j fun e => { e with key, val }).toList.map (·.born) = es.toList.map (·.born) := by
    apply List.ext_getElem?
    intro i
    simp only [List.getElem?_map, Array.getElem?_toList, Array.getElem?_modify]
    by_cases hij : j = i
    · subst hij
      rw [if_pos rfl]
      cases es[j]? <;> rfl
    · rw [if_neg hij]
  refine ⟨fun x hx => ?_, by rw [hm]; exact h.2⟩
  have hb : x.born ∈ es.toList.map (·.born) := by rw [← hm]; exact List.mem_map_of_mem hx
  obtain ⟨y, hy, hyx⟩ := List.mem_map.1 hb
  rw [← hyx]; exact h.1 y hy
theorem Born.erase {es : Array MapEntry} {clock : Nat} (h : Born es clock) (j : Nat) : Born (es.eraseIdxIfInBounds j) clock := by
  have hs : (es.eraseIdxIfInBounds j).toList.Sublist es.toList := by
    unfold Array.eraseIdxIfInBounds
    split
    · simp only [Array.toList_eraseIdx]; exact List.eraseIdx_sublist _ _
    · exact List.Sublist.refl _
  exact ⟨fun x hx => h.1 x (hs.subset hx), h.2.sublist (hs.map _)⟩
def MapAt (W : World) (ρ : Nat → Int) (ι : Inj) (es : List (AV × AV)) (ents : Array MapEntry) (clock : Nat) : Prop := EntsAt W ρ ι es ents.toList ∧ Born ents clock

structure Inv (W : World) (ρ : Nat → Int) (ι : Inj) (h : AH) (w : World) : Prop where
  below : Below W.heap.size W w
  dom : ∀ b p, ι b = some p → b < h.next
  rng : ∀ b cb co sz, ι b = some (cb, co, sz) → W.heap.size ≤ cb ∧ cb < w.heap.size
  cells : ∀ b cs cb co sz, ι b = some (cb, co, sz) → h.m.get b = some (.cells cs) →
    ∃ c e fr, w.heap[cb]? = some (.cells c e fr) ∧ c.size = sz ∧ (fr.2 ≤ fr.1 ∨ sz ≤ fr.1) ∧ CellsAt W ρ ι c co cs
  mps : ∀ b es cb co sz, ι b = some (cb, co, sz) → h.m.get b = some (.mp es) →
    ∃ ents clock, w.heap[cb]? = some (.map ents clock) ∧ MapAt W ρ ι es ents clock
  inj : ∀ b b' p p', ι b = some p → ι b' = some p' → h.m.get b ≠ none → h.m.get b' ≠ none → p.1 = p'.1 → b = b'

theorem cellsAt_some {b : Nat} {h : AH} {cs : List AV} (e : cellsAt b h = some cs) : h.m.get b = some (.cells cs) := by
  unfold cellsAt at e
  split at e
  · rename_i cs' he; rw [he]; injection e with e; rw [e]
  · cases e
theorem mpAt_some {b : Nat} {h : AH} {es : List (AV × AV)} (e : mpAt b h = some es) : h.m.get b = some (.mp es) := by
  unfold mpAt at e
  split at e
  · rename_i cs' he; rw [he]; injection e with e; rw [e]
  · cases e

section
variable {W : World} {ρ : Nat → Int} {ι : Inj} {h : AH} {w : World}
/-- What the small machine's block holds, the model's cell holds. -/
theorem Inv.cell (I : Inv W ρ ι h w) {b cb co sz : Nat} {cs : List AV} (hb : ι b = some (cb, co, sz)) (hc : h.m.get b = some (.cells cs)) (i : Nat) (v : AV) (hv : cs[i]? = some v) :
    ∃ v', w.cell? ⟨cb, co + i, none⟩ = some v' ∧ Rel W ρ ι v v' ∧ w.frozen? ⟨cb, co + i, none⟩ = false := by
  obtain ⟨c, e, fr, hw, hs, hf, -, hr⟩ := I.cells b cs cb co sz hb hc
  obtain ⟨v', h1, h2⟩ := hr i v hv
  have hlt : co + i < sz := by rw [← hs]; exact (Array.getElem?_eq_some_iff.1 h1).1
  refine ⟨v', by rw [cell_of_row w cb (co + i) c e fr hw]; exact h1, h2, ?_⟩
  obtain ⟨lo, hi⟩ := fr
  simp only [World.frozen?, hw]
  simp only at hf
  rw [Bool.and_eq_false_iff]
  rcases hf with hf | hf
  · by_cases hl : lo ≤ co + i
    · right; simp; omega
    · left; simpa using hl
  · left; simp; omega
theorem Inv.roCell (I : Inv W ρ ι h w) {g o : Nat} {v : Value} (hc : W.cell? ⟨g, o, none⟩ = some v) : w.cell? ⟨g, o, none⟩ = some v := by
  have hlt := block_lt_of_cell hc
  exact (I.below.cell (p := ⟨g, o, none⟩) hlt).trans hc
/-- Nothing that is told hangs on blocks that lie nowhere. -/
theorem Inv.drew (I : Inv W ρ ι h w) : Inv W ρ ι h w.drew := ⟨I.below.drew, I.dom, I.rng, I.cells, I.mps, I.inj⟩
end
end Go.KM
