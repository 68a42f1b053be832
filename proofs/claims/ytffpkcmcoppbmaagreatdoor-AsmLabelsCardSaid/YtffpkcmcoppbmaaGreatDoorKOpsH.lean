/-
  Operations of the small machine and the model's, VIII: append of zero values, copy, new slices, bytes.
-/
import Derived.Test.YtffpkcmcoppbmaaGreatDoorKOpsG
namespace Go.KM
open Go.RowKit
section
variable {P : Program} {W : World} {ρ : Nat → Int} {ι : Inj} {h h' : AH} {w : World}

theorem flatten_get {α : Type} (l : List α) : ∀ (n i : Nat), i < n * l.length → (List.replicate n l).flatten[i]? = l[i % l.length]? := by
  intro n
  induction n with
  | zero => intro i hi; simp at hi
  | succ n ih =>
    intro i hi
    rw [List.replicate_succ, List.flatten_cons]
    by_cases h1 : i < l.length
    · rw [List.getElem?_append_left h1, Nat.mod_eq_of_lt h1]
    · rw [List.getElem?_append_right (by omega), ih _ (by rw [Nat.add_mul, Nat.one_mul] at hi; omega), show i % l.length = (i - l.length) % l.length from Nat.mod_eq_sub_mod (by omega)]
theorem length_flatten_rep {α : Type} (l : List α) (n : Nat) : ((List.replicate n l).flatten).length = n * l.length := by
  induction n with
  | zero => simp
  | succ n ih => rw [List.replicate_succ, List.flatten_cons, List.length_append, ih, Nat.add_mul]; omega
theorem zeroCells_rel {z : AV} {z' : Value} (hz : Rel W ρ ι z z') (n : Nat) : RelL W ρ ι (repN n z.cells) (Builtin.zeroCells z'.cells n).toList := by
  have hl := hz.cells.length
  simp only [Array.length_toList] at hl
  rw [repN_eq]
  refine .of_get (by rw [length_flatten_rep]; simp [size_zeroCells, hl]) ?_
  intro i v v' e e'
  have hi : i < n * z.cells.length := by rw [← length_flatten_rep]; exact (List.getElem?_eq_some_iff.1 e).1
  rw [flatten_get _ _ _ hi] at e
  obtain ⟨u', k1, k2⟩ := hz.cells.get _ _ e
  rw [Array.getElem?_toList] at e' k1
  have hpos : 0 < z.cells.length := by
    rcases Nat.eq_zero_or_pos z.cells.length with h0 | h0
    · rw [h0, Nat.mul_zero] at hi; omega
    · exact h0
  have hm : i % z'.cells.size < z'.cells.size := Nat.mod_lt _ (by omega)
  simp only [Builtin.zeroCells, Array.getElem?_map, Array.getElem?_range] at e'
  rw [if_pos (by rw [← hl]; exact hi)] at e'
  simp only [Option.map_some, Option.some.injEq] at e'
  rw [getElem!_pos z'.cells _ hm] at e'
  rw [hl, Array.getElem?_eq_getElem hm] at k1
  injection k1 with k1
  rw [← e', k1]; exact k2
theorem wrap_small {n : Nat} (hn : n ≤ 140737488355328) : IntKind.i64.wrap (n : Int) = n := by
  simp [IntKind.wrap, IntKind.bits, IntKind.signed]; omega
theorem runs_zeros {t u el ty s b n : Nat} {z' : Value} {k k2 : IntKind} (ht : P.underlying t = some (.slice el)) (hu : P.underlying u = some (.int k2)) {i : TypeInfo} (hi : P.info? el = some i) (his : i.size = s) (hib : i.bytes = b)
    (hiz : i.zero = some z') (hzs : z'.cells.size = s) (hb1 : 1 ≤ b) (hnb : n * b ≤ 140737488355328) :
    Runs P w el s b n z' (Builtin.zeroCells z'.cells n).toList (Builtin.zeroCells z'.cells n).toList fun base l c => (Builtin.append_ #[t, u] ty #[.slice base l c, .int k n]).run P w := by
  subst his hib
  have hn : n ≤ 140737488355328 := by have := Nat.mul_le_mul_left n hb1; omega
  have hw := wrap_small hn
  have hz0 : ¬ ((n : Int) < 0) := by omega
  have h48 : ¬ ((n : Int) * (i.bytes : Int) > 281474976710656) := by
    have : ((n * i.bytes : Nat) : Int) ≤ ((140737488355328 : Nat) : Int) := Int.ofNat_le.2 hnb
    rw [Int.natCast_mul] at this; omega
  have h48' : ¬ (281474976710656 < (n : Int) * (i.bytes : Int)) := h48
  have hzero : (if n * i.size = 0 then (#[] : Array Value) else Builtin.zeroCells z'.cells n) = Builtin.zeroCells z'.cells n := by
    split
    · rename_i h0
      have : (Builtin.zeroCells z'.cells n).size = 0 := by rw [size_zeroCells, hzs]; exact h0
      exact (Array.eq_empty_of_size_eq_zero this).symm
    · rfl
  constructor
  · intro base sLen sCap hroom
    by_cases h0 : n * i.size = 0
    · have hnil : Builtin.zeroCells z'.cells n = #[] := by rw [if_pos h0] at hzero; exact hzero.symm
      have h0' : n = 0 ∨ i.size = 0 := Nat.mul_eq_zero.1 h0
      cases base <;> simp [Builtin.append_, run_underlying ht, run_underlying hu, sizeOf, typeInfo, hi, asInt, asIntOf, hw, hz0, h48', hroom, h0, h0', hnil, storeCells]
    · have h0' : ¬ (n = 0 ∨ i.size = 0) := fun q => h0 (Nat.mul_eq_zero.2 q)
      cases base <;> simp [Builtin.append_, run_underlying ht, run_underlying hu, sizeOf, typeInfo, zeroValue, hi, hiz, asInt, asIntOf, hw, hz0, h48', hroom, h0, h0']
  · intro base sLen sCap olds hroom _ hbytes ho
    have hfit := growslice_fits hroom hbytes
    have hfit' : ¬ (281474976710656 < Builtin.nextslicecap (sLen + n) sCap * i.bytes) := by omega
    have h1 : ¬ (sLen + n ≤ sCap) := by omega
    have hsmall : sLen + n ≤ 140737488355328 := by have := Nat.mul_le_mul_left (sLen + n) hb1; omega
    have h63 : ¬ (9223372036854775807 < ((sLen : Int) + (n : Int))) := by omega
    by_cases h0 : n * i.size = 0
    · have hnil : Builtin.zeroCells z'.cells n = #[] := by rw [if_pos h0] at hzero; exact hzero.symm
      have h0' : n = 0 ∨ i.size = 0 := Nat.mul_eq_zero.1 h0
      simp [Builtin.append_, run_underlying ht, run_underlying hu, sizeOf, typeInfo, zeroValue, hi, hiz, asInt, asIntOf, hw, hz0, h48', h1, h63, hfit', Question.forced, ho, h0, h0', hnil, newRow, grownCap, Question.cut, World.drew_eq]
    · have h0' : ¬ (n = 0 ∨ i.size = 0) := fun q => h0 (Nat.mul_eq_zero.2 q)
      simp [Builtin.append_, run_underlying ht, run_underlying hu, sizeOf, typeInfo, zeroValue, hi, hiz, asInt, asIntOf, hw, hz0, h48', h1, h63, hfit', Question.forced, ho, h0, h0', newRow, grownCap, Question.cut, World.drew_eq]
theorem apndz_sound (I : Inv W ρ ι h w) {x y : AV} {x' y' : Value} {v : AV} {t u el ty s b : Nat} {z : AV} {k2 : IntKind} (ht : P.underlying t = some (.slice el)) (hu : P.underlying u = some (.int k2))
    (hs : sizeC P el = some s) (hb : bytesC P el = some b) (hz : zeroOf P el = some z) (hzs : z.cells.length = s) (hx : Rel W ρ ι x x') (hy : Rel W ρ ι y y') (e : xapndz s b z.cells x y h = .ok v h') :
    Did W ρ ι h ((Builtin.append_ #[t, u] ty #[x', y']).run P w) v h' := by
  obtain ⟨i, z', hi, hiz, hzc⟩ := zero_of hz
  obtain ⟨i1, hi1, his⟩ := info_of_size hs
  obtain ⟨i2, hi2, hib⟩ := info_of_bytes hb
  rw [hi] at hi1 hi2; injection hi1 with hi1; injection hi2 with hi2; subst hi1 hi2
  have hzr := ofConst_rel (W := W) (ρ := ρ) (ι := ι) hzc
  have hzl : z'.cells.size = s := by
    have := hzr.cells.length
    rw [hzs] at this; simpa using this.symm
  unfold xapndz at e
  split at e
  · cases e
  · rename_i n hn
    obtain ⟨k, rfl⟩ := natOf_rel hy hn
    obtain ⟨hc, e⟩ := sel_ok e
    simp only [and_iff, ble_iff] at hc
    obtain ⟨hb1, hnb⟩ := hc
    have R := runs_zeros (ty := ty) (k := k) (w := w) ht hu hi his hib hiz hzl hb1 hnb
    have hrel := zeroCells_rel hzr n
    cases hn0 : Nat.beq n 0 with
    | true =>
      rw [hn0] at e
      have := beq_iff.1 hn0; subst this
      have hrun : ∀ base len cp, len ≤ cp → (Builtin.append_ #[t, u] ty #[.slice base len cp, .int k (0 : Nat)]).run P w = .ok (.slice base len cp) w := fun base len cp hle => by
        have := R.place base len cp hle
        try dsimp only at this
        have hnn : (Builtin.zeroCells z'.cells 0).toList = [] := by simp [Builtin.zeroCells]
        rw [hnn] at this
        rw [this]; cases base <;> simp [storeCells]
      split at e
      · cases hx; injection e with e1 e2; subst e1 e2
        exact .here I (hrun none 0 0 (Nat.le_refl _)) .nils
      · obtain ⟨hq, e⟩ := sel_ok e
        injection e with e1 e2; subst e1 e2
        rw [and_iff] at hq
        obtain ⟨hq, hq2⟩ := hq
        have hq := beq_iff.1 hq; subst hq
        cases hx with
        | sl _ _ _ _ c cb co sz hb' => exact .here I (hrun _ _ _ (ble_iff.1 hq2)) (.sl _ _ _ _ _ _ _ _ hb')
        | slu _ _ _ _ cp cb co sz hb' hcp hlc hm => exact .here I (hrun _ _ _ hlc) (.slu _ _ _ _ _ _ _ _ hb' hcp hlc hm)
      · injection e with e1 e2; subst e1 e2
        cases hx with | rsl _ _ cap g o hrc hl => exact .here I (hrun _ _ _ hl) (.rsl _ _ _ _ _ hrc hl)
      · cases e
    | false =>
      rw [hn0] at e
      obtain ⟨hc, e⟩ := sel_ok e
      have hne : n ≠ 0 := fun hh => by rw [beq_iff.2 hh] at hn0; cases hn0
      exact apnd0_sound I (r := fun q => (Builtin.append_ #[t, u] ty #[q, .int k n]).run P w) R hzl hx hrel hrel (by rw [repN_eq, length_flatten_rep, hzs]) hne (mem_of_allB hc) e
theorem copy_sound (I : Inv W ρ ι h w) {x y : AV} {x' y' : Value} {v : AV} {t u el ty s : Nat} (ht : P.underlying t = some (.slice el)) (hs : sizeC P el = some s) (hx : Rel W ρ ι x x') (hy : Rel W ρ ι y y')
    (e : xcopy s x y h = .ok v h') : Did W ρ ι h ((Builtin.copy_ #[t, u] ty #[x', y']).run P w) v h' := by
  unfold xcopy at e
  split at e
  · cases e
  · rename_i n new he
    obtain ⟨hl1, hl2, hl3⟩ := elems_sound (P := P) I hy he
    split at e
    · cases hx; injection e with e1 e2; subst e1 e2
      obtain ⟨vs, f1, f2⟩ := hl3 0 (Nat.zero_le _)
      exact .here (v' := .int .i64 0) I (by simp [Builtin.copy_, run_underlying ht, hl2, run_sizeOf' hs, f1, goInt]) (.int _ _)
    · rename_i b o len ez cap
      split at e
      · cases e
      · rename_i cs hcs
        obtain ⟨hc, e⟩ := sel_ok e
        rw [mkInt_eq] at e; injection e with e1 e2; subst e1 e2
        simp only [and_iff, beq_iff, ble_iff, lenN_eq] at hc
        obtain ⟨rfl, hc1, hc2⟩ := hc
        have hr : ∃ cb co sz cp, ι b = some (cb, co, sz) ∧ x' = .slice (some ⟨cb, co + o, none⟩) len cp := by
          cases hx with
          | sl _ _ _ _ c cb co sz hb => exact ⟨cb, co, sz, c, hb, rfl⟩
          | slu _ _ _ _ cap cb co sz hb => exact ⟨cb, co, sz, cap, hb, rfl⟩
        obtain ⟨cb, co, sz, cp, hb, rfl⟩ := hr
        obtain ⟨vs, f1, f2⟩ := hl3 (Nat.min n len) (Nat.min_le_left _ _)
        rw [← takeN_eq] at f2
        have hlen : (takeN (Nat.min n len * ez) new).length = Nat.min n len * ez := by
          rw [takeN_eq, List.length_take, hl1]
          exact Nat.min_eq_left (Nat.mul_le_mul_right _ (Nat.min_le_left _ _))
        obtain ⟨w', k1, k2⟩ := writeCells (P := P) I (o := o) hb (cellsAt_some hcs) f2 (fun u hu => mem_of_allB hc1 u (by rw [takeN_eq] at hu; exact List.mem_of_mem_take hu)) (by rw [hlen]; exact hc2)
        refine ⟨ι, w', .int .i64 (Nat.min n len : Nat), ?_, (.here rfl), k2, .int _ _⟩
        simp [Builtin.copy_, run_underlying ht, hl2, run_sizeOf' hs, f1, goInt, k1]
    · cases e
theorem mkslice_made {l c : AV} {l' c' : Value} {v : AV} {h h' : AH} {t el s b : Nat} {z : AV} (ht : P.underlying t = some (.slice el)) (hs : sizeC P el = some s) (hb : bytesC P el = some b) (hz : zeroOf P el = some z) (hzs : z.cells.length = s)
    (hl : Rel W ρ ι l l') (hc : Rel W ρ ι c c') (e : xmkslice s b z.cells l c h = .ok v h') : ∃ mk cs, v = mk h.next ∧ h' = newBlk (.cells cs) h ∧ (∀ hh, xmkslice s b z.cells l c hh = .ok (mk hh.next) (newBlk (.cells cs) hh)) ∧ Made W ρ ι w ((Instr.makeSlice t l' c').run P w) mk cs := by
  obtain ⟨i, z', hi, hiz, hzc⟩ := zero_of hz
  obtain ⟨i1, hi1, his⟩ := info_of_size hs
  obtain ⟨i2, hi2, hib⟩ := info_of_bytes hb
  rw [hi] at hi1 hi2; injection hi1 with hi1; injection hi2 with hi2; subst hi1 hi2
  have hzr := ofConst_rel (W := W) (ρ := ρ) (ι := ι) hzc
  have hzl : z'.cells.size = s := by
    have := hzr.cells.length
    rw [hzs] at this; simpa using this.symm
  unfold xmkslice at e
  split at e
  · rename_i n m hn hm
    obtain ⟨k, rfl⟩ := natOf_rel hl hn
    obtain ⟨k2, rfl⟩ := natOf_rel hc hm
    obtain ⟨hq, e⟩ := sel_ok e
    injection e with e1 e2; subst e1 e2
    simp only [and_iff, ble_iff] at hq
    obtain ⟨q1, q2, q3⟩ := hq
    have w1 : IntKind.i64.wrap (n : Int) = n := by simp [IntKind.wrap, IntKind.bits, IntKind.signed]; omega
    have w2 : IntKind.i64.wrap (m : Int) = m := by simp [IntKind.wrap, IntKind.bits, IntKind.signed]; omega
    subst his hib
    have q2' : ((i.bytes : Int) * (m : Int)) ≤ 281474976710656 := by
      have : ((i.bytes * m : Nat) : Int) ≤ ((281474976710656 : Nat) : Int) := Int.ofNat_le.2 q2
      rw [Int.natCast_mul] at this; exact this
    have hnot : ¬ (281474976710656 < (i.bytes : Int) * (m : Int)) := by omega
    have hnl : ¬ ((m : Int) < (n : Int)) := by omega
    have hcells : ∀ a : Array Value, (if m * i.size = 0 then a = #[] else a = z'.cells) → ((Array.range (m * i.size)).map (fun j => a[j % a.size]!)) = Builtin.zeroCells z'.cells m := by
      intro a ha
      split at ha
      · rename_i h0
        subst ha
        have h1 : (Builtin.zeroCells z'.cells m).size = 0 := by rw [size_zeroCells, hzl]; exact h0
        rw [Array.eq_empty_of_size_eq_zero h1, h0]; simp
      · subst ha; simp [Builtin.zeroCells, hzl]
    obtain ⟨k1, k2'⟩ := newRow_made (P := P) (w := w) el (zeroCells_rel hzr m)
    refine ⟨(.sl · 0 n i.size (some m)), _, rfl, rfl, fun hh => ?_, .slice (some ⟨w.heap.size, 0, none⟩) n m, Builtin.zeroCells z'.cells m, el, ?_, k2', fun id κ hput => by simpa using Rel.sl (W := W) (ρ := ρ) id 0 n i.size m _ _ _ hput⟩
    · unfold xmkslice; simp only [hn, hm]; rw [sel_true (by simp only [and_iff, ble_iff]; exact ⟨q1, q2, q3⟩)]
    have hmn : ¬ ((m : Int) < 0) := by omega
    have hnn : ¬ ((n : Int) < 0) := by omega
    by_cases h0 : m * i.size = 0
    · have h0' : m = 0 ∨ i.size = 0 := Nat.mul_eq_zero.1 h0
      have hz2 := hcells #[] (by rw [if_pos h0])
      simp only [h0, List.getElem?_toArray] at hz2
      have hz3 : Builtin.zeroCells z'.cells m = #[] := by rw [← hz2]; simp
      rw [hz3] at k1
      simp [Instr.makeSlice, run_underlying ht, asInt, asIntOf, typeInfo, sizeOf, hi, w1, w2, hnot, hmn, hnn, hnl, h0, h0']
      rw [show Array.map (fun _ => (default : Value)) (Array.range 0) = #[] from by simp, k1, hz3]; rfl
    · have h0' : ¬ (m = 0 ∨ i.size = 0) := fun q => h0 (Nat.mul_eq_zero.2 q)
      have hz2 := hcells z'.cells (by rw [if_neg h0])
      simp [Instr.makeSlice, run_underlying ht, asInt, asIntOf, typeInfo, sizeOf, zeroValue, hi, hiz, w1, w2, hnot, hmn, hnn, hnl, h0, h0']
      rw [hz2, k1]; rfl
  · cases e
end
end Go.KM
