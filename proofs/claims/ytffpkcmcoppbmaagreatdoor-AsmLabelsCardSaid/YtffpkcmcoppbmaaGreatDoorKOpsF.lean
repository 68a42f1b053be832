/-
  Operations of the small machine and the model's, VI: append, copy, conversions of bytes.
-/
import Derived.Test.YtffpkcmcoppbmaaGreatDoorKOpsE
import Derived.Laws.AppendOwn
namespace Go.KM
open Go.RowKit
section
variable {P : Program} {W : World} {ρ : Nat → Int} {ι : Inj} {h h' : AH} {w : World}

theorem byteVals_eq (s : List Nat) : byteVals s = s.map fun n => .int .u8 n := by
  induction s with
  | nil => rfl
  | cons a t ih => show _ :: byteVals t = _; rw [ih]; rfl
theorem byteVals_rel (b : ByteArray) : RelL W ρ ι (byteVals (bytesOf b)) (b.data.toList.map fun c => .int .u8 c.toNat) := by
  rw [byteVals_eq]
  show RelL W ρ ι ((b.data.toList.map UInt8.toNat).map _) _
  induction b.data.toList with
  | nil => exact .nil
  | cons a t ih => exact .cons _ _ _ _ (.int _ _) ih
/-- The elements of a slice, or a text, that is read. -/
theorem elems_sound (I : Inv W ρ ι h w) {x : AV} {x' : Value} {esz n : Nat} {s : List AV} (hx : Rel W ρ ι x x') (e : elems esz x h = some (n, s)) :
    s.length = n * esz ∧ (Builtin.lenOf x').run P w = .ok n w ∧ ∀ m, m ≤ n → ∃ vs : List Value, (Builtin.firstCells esz m x').run P w = .ok vs.toArray w ∧ RelL W ρ ι (s.take (m * esz)) vs := by
  have fromCells : ∀ (g o : Nat), s.length = n * esz → (∀ (i : Nat) (v : AV), s[i]? = some v → ∃ v', w.cell? ⟨g, o + i, none⟩ = some v' ∧ Rel W ρ ι v v') → ∀ m, m ≤ n →
      ∃ vs : List Value, (loadCells ⟨g, o, none⟩ (m * esz)).run P w = .ok vs.toArray w ∧ RelL W ρ ι (s.take (m * esz)) vs := fun g o hl hc m hm => by
    have hle : m * esz ≤ n * esz := Nat.mul_le_mul_right _ hm
    obtain ⟨vs, h1, h2, -⟩ := loadCells_sound (P := P) (w := w) (g := g) (o := o) (s.take (m * esz)) fun i v hv => hc i v (by
      rw [List.getElem?_take] at hv
      split at hv
      · exact hv
      · cases hv)
    rw [List.length_take, Nat.min_eq_left (by omega)] at h1
    exact ⟨vs, h1, h2⟩
  unfold elems at e
  split at e
  · cases hx
    injection e with e; simp only [Prod.mk.injEq] at e; obtain ⟨rfl, rfl⟩ := e
    refine ⟨by simp, rfl, fun m hm => ⟨[], ?_, by simp; exact .nil⟩⟩
    have : m = 0 := by omega
    subst this; simp [Builtin.firstCells]
  · cases hx with | str b =>
    cases hb : Nat.beq esz 1 with
    | false => rw [hb] at e; cases e
    | true =>
      rw [hb] at e
      have := beq_iff.1 hb; subst this
      replace e := Option.some.inj e; simp only [Prod.mk.injEq] at e; obtain ⟨rfl, rfl⟩ := e
      refine ⟨by rw [byteVals_eq, List.length_map, lenN_eq, Nat.mul_one], by rw [lenN_eq, bytesOf_length]; rfl, fun m hm => ⟨(b.data.toList.map fun c => .int .u8 c.toNat).take m, ?_, ?_⟩⟩
      · simp only [Builtin.firstCells, Sem.run_pure]
        congr 1
        apply Array.toList_inj.1
        rw [ByteArray.data_extract]
        simp [List.extract_eq_take_drop, List.map_take]
      · rw [Nat.mul_one]; exact (byteVals_rel b).take m
  · rename_i b o len ez cap
    split at e
    · rename_i cs hcs
      split at e
      · rename_i s' hs
        cases hb : Nat.beq ez esz with
        | false => rw [hb] at e; cases e
        | true =>
          rw [hb] at e
          have := beq_iff.1 hb; subst this
          replace e := Option.some.inj e; simp only [Prod.mk.injEq] at e; obtain ⟨rfl, rfl⟩ := e
          have hr : ∃ cb co sz cp, ι b = some (cb, co, sz) ∧ x' = .slice (some ⟨cb, co + o, none⟩) len cp := by
            cases hx with
            | sl _ _ _ _ c cb co sz hb => exact ⟨cb, co, sz, c, hb, rfl⟩
            | slu _ _ _ _ cap cb co sz hb => exact ⟨cb, co, sz, cap, hb, rfl⟩
          obtain ⟨cb, co, sz, cp, hb, rfl⟩ := hr
          exact ⟨(cut_some hs).2, rfl, fun m hm => fromCells cb (co + o) (cut_some hs).2 (cut_cells I hb (cellsAt_some hcs) hs) m hm⟩
      · cases e
    · cases e
  · rename_i cs len
    split at e
    · rename_i s' hs
      injection e with e; simp only [Prod.mk.injEq] at e; obtain ⟨rfl, rfl⟩ := e
      cases hx with | rsl _ _ cap g o hrc hl =>
      exact ⟨(cut_some hs).2, rfl, fun m hm => fromCells g o (cut_some hs).2 (fun i v hv => by
        have := cut_ro I hrc hs i v hv
        rwa [Nat.add_zero] at this) m hm⟩
    · cases e
  · cases e

/-! append -/
/-- What append does where there is room. -/
theorem run_append_place {t u el ty s n sLen sCap : Nat} {x' : Value} {base : Option Addr} {news : Array Value} (ht : P.underlying t = some (.slice el)) (hu : P.underlying u = some .string ∨ ∃ q, P.underlying u = some (.slice q)) (hs : sizeC P el = some s)
    (hl : (Builtin.lenOf x').run P w = .ok n w) (hf : (Builtin.firstCells s n x').run P w = .ok news w) (hroom : sLen + n ≤ sCap) :
    (Builtin.append_ #[t, u] ty #[.slice base sLen sCap, x']).run P w = ((match base with | some a => storeCells (a.add (sLen * s)) news.toList | none => pure ()).run P w).andThen fun _ w' => .ok (.slice base (sLen + n) sCap) w' := by
  rcases hu with hu | ⟨q, hu⟩ <;> cases base <;> simp [Builtin.append_, run_underlying ht, run_underlying hu, run_sizeOf' hs, hl, hf, hroom]
/-- What append does where there is none. -/
theorem run_append_new {t u el ty s b n sLen sCap : Nat} {x' z' : Value} {base : Option Addr} {olds news : Array Value} {i : TypeInfo} (ht : P.underlying t = some (.slice el)) (hu : P.underlying u = some .string ∨ ∃ q, P.underlying u = some (.slice q))
    (hi : P.info? el = some i) (his : i.size = s) (hib : i.bytes = b) (hiz : i.zero = some z')
    (hl : (Builtin.lenOf x').run P w = .ok n w) (ho : (Builtin.firstCells s sLen (.slice base sLen sCap)).run P w.drew = .ok olds w.drew) (hf : (Builtin.firstCells s n x').run P w.drew = .ok news w.drew) (hroom : sCap < sLen + n)
    (hb1 : 1 ≤ b) (hbytes : (sLen + n) * b ≤ 140737488355328) :
    (Builtin.append_ #[t, u] ty #[.slice base sLen sCap, x']).run P w =
      .ok (.slice (some ⟨w.heap.size, 0, none⟩) (sLen + n) (grownCap w (sLen + n) sCap el)) (w.drew.alloc (.cells (olds ++ news ++ Builtin.zeroCells z'.cells (grownCap w (sLen + n) sCap el - (sLen + n))) el)) := by
  subst his hib
  have hfit := growslice_fits hroom hbytes
  have h1 : ¬ (sLen + n ≤ sCap) := by omega
  have hne : ¬ i.bytes = 0 := by omega
  have hsmall : sLen + n ≤ 9223372036854775807 := by
    have := Nat.mul_le_mul_left (sLen + n) hb1
    omega
  rcases hu with hu | ⟨q, hu⟩ <;>
    simp [Builtin.append_, run_underlying ht, run_underlying hu, sizeOf, typeInfo, hi, hl, h1, hfit, hne, Question.forced, ho, hf, hiz, newRow, grownCap, Question.cut, zeroValue, World.drew_eq] <;> omega
end
end Go.KM
