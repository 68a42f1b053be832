/-
  Operations of the small machine and the model's, V: places, slices.
-/
import Derived.Test.YtffpkcmcoppbmaaGreatDoorKOpsD
import Derived.Laws.Slices
namespace Go.KM
open Go.RowKit
section
variable {P : Program} {W : World} {ρ : Nat → Int} {ι : Inj} {h h' : AH} {w : World}

theorem natOf_rel {x : AV} {x' : Value} {n : Nat} (hx : Rel W ρ ι x x') (e : natOf x = some n) : ∃ k, x' = .int k n := by
  unfold natOf at e
  split at e
  · injection e with e; subst e; cases hx; exact ⟨_, rfl⟩
  · cases e
theorem fadr_sound (I : Inv W ρ ι h w) {x : AV} {x' : Value} {v : AV} {t i : Nat} {fs : Array Field} {f : Field} {n : Nat} (hu : P.underlying t = some (.struct fs)) (hf : fs[i]? = some f) (hn : sizeC P f.type = some (n + 1))
    (hx : Rel W ρ ι x x') (e : xfadr f.offset x h = .ok v h') : h' = h ∧ ∃ v', (Instr.fieldAt t x' i).run P w = .ok v' w ∧ Rel W ρ ι v v' := by
  have hp : ∀ a, (fieldPlace a f).run P w = .ok (a.add f.offset) w := fun a => by simp [fieldPlace, run_sizeOf' hn]
  unfold xfadr at e
  split at e
  · obtain ⟨cb, co, sz, hb, rfl⟩ := rel_ptr hx
    rw [forceN_eq] at e; injection e with e1 e2; subst e1 e2
    refine ⟨rfl, _, by simp only [Instr.fieldAt, Sem.run_bind, run_underlying hu, Result.andThen_ok, hf, Instr.sureAddr, Sem.run_pure, hp, addr_add]; rfl, ?_⟩
    rw [Nat.add_assoc]; exact .ptr _ _ _ _ _ hb
  · obtain ⟨g, o, hc, rfl⟩ := rel_rptr hx
    injection e with e1 e2; subst e1 e2
    refine ⟨rfl, _, by simp only [Instr.fieldAt, Sem.run_bind, run_underlying hu, Result.andThen_ok, hf, Instr.sureAddr, Sem.run_pure, hp, addr_add]; rfl, ?_⟩
    rw [dropN_eq]; exact .rptr _ _ _ (hc.drop _)
  · cases e
theorem fld1_sound (I : Inv W ρ ι h w) {x : AV} {x' : Value} {v : AV} {t i : Nat} {fs : Array Field} {f : Field} (hu : P.underlying t = some (.struct fs)) (hf : fs[i]? = some f) (ha : aggC P f.type = some false)
    (hx : Rel W ρ ι x x') (e : xfld1 f.offset x h = .ok v h') : h' = h ∧ ∃ v', (Instr.field t x' i).run P w = .ok v' w ∧ Rel W ρ ι v v' := by
  unfold xfld1 at e
  split at e
  · split at e
    · rename_i u hv
      cases hx with | agg cs cs' hr =>
      injection e with e1 e2; subst e1 e2
      rw [nth_eq] at hv
      obtain ⟨v', h1, h2⟩ := hr.get _ _ hv
      rw [Array.getElem?_toList] at h1
      exact ⟨rfl, v', by simp [Instr.field, run_underlying hu, hf, part, run_isAgg ha, asAgg, h1], h2⟩
    · cases e
  · cases e
theorem fldn_sound (I : Inv W ρ ι h w) {x : AV} {x' : Value} {v : AV} {t i n : Nat} {fs : Array Field} {f : Field} (hu : P.underlying t = some (.struct fs)) (hf : fs[i]? = some f) (ha : aggC P f.type = some true) (hn : sizeC P f.type = some n)
    (hx : Rel W ρ ι x x') (e : xfldn f.offset n x h = .ok v h') : h' = h ∧ ∃ v', (Instr.field t x' i).run P w = .ok v' w ∧ Rel W ρ ι v v' := by
  unfold xfldn at e
  split at e
  · split at e
    · rename_i s hs
      cases hx with | agg cs cs' hr =>
      injection e with e1 e2; subst e1 e2
      obtain ⟨rfl, -⟩ := cut_some hs
      refine ⟨rfl, .agg (cs'.extract f.offset (f.offset + n)), by simp [Instr.field, run_underlying hu, hf, part, run_isAgg ha, run_sizeOf' hn, asAgg], .agg _ _ ?_⟩
      have : (cs'.extract f.offset (f.offset + n)).toList = (cs'.toList.drop f.offset).take n := by
        rw [Array.toList_extract, List.extract_eq_take_drop]; congr 1; omega
      rw [this]; exact (hr.drop _).take _
    · cases e
  · cases e
theorem idxa_sound (I : Inv W ρ ι h w) {x i : AV} {x' i' : Value} {v : AV} {t el s : Nat} (hu : P.underlying t = some (.slice el)) (hs : sizeC P el = some s)
    (hx : Rel W ρ ι x x') (hi : Rel W ρ ι i i') (e : xidxa s x i h = .ok v h') : h' = h ∧ ∃ v', (Instr.indexAt t x' i').run P w = .ok v' w ∧ Rel W ρ ι v v' := by
  unfold xidxa at e
  split at e
  · rename_i n hn
    obtain ⟨k, rfl⟩ := natOf_rel hi hn
    split at e
    · rename_i b o len ez cap
      obtain ⟨hc, e⟩ := sel_ok e
      rw [forceN_eq] at e; injection e with e1 e2; subst e1 e2
      simp only [and_iff, beq_iff, blt_iff] at hc
      obtain ⟨rfl, hlt⟩ := hc
      have hr : ∃ cb co sz cp, ι b = some (cb, co, sz) ∧ x' = .slice (some ⟨cb, co + o, none⟩) len cp := by
        cases hx with
        | sl _ _ _ _ c cb co sz hb => exact ⟨cb, co, sz, c, hb, rfl⟩
        | slu _ _ _ _ cap cb co sz hb => exact ⟨cb, co, sz, cap, hb, rfl⟩
      obtain ⟨cb, co, sz, cp, hb, rfl⟩ := hr
      refine ⟨rfl, .pointer (some ⟨cb, co + (o + n * ez), none⟩), ?_, .ptr _ _ _ _ _ hb⟩
      simp [Instr.indexAt, run_underlying hu, asIntOf, run_sizeOf' hs, hlt, addr_add, Nat.add_assoc]
    · rename_i cs len
      obtain ⟨hc, e⟩ := sel_ok e
      injection e with e1 e2; subst e1 e2
      have hlt := blt_iff.1 hc
      cases hx with | rsl _ _ cap g o hr hl =>
      refine ⟨rfl, .pointer (some ⟨g, o + n * s, none⟩), ?_, by rw [dropN_eq]; exact .rptr _ _ _ (hr.drop _)⟩
      simp [Instr.indexAt, run_underlying hu, asIntOf, run_sizeOf' hs, hlt, addr_add]
    · cases e
  · cases e
theorem idxaa_sound (I : Inv W ρ ι h w) {x i : AV} {x' i' : Value} {v : AV} {t el s m : Nat} (hu : P.underlying t = some (.array m el)) (hs : sizeC P el = some s)
    (hx : Rel W ρ ι x x') (hi : Rel W ρ ι i i') (e : xidxaa m s x i h = .ok v h') : h' = h ∧ ∃ v', (Instr.indexAt t x' i').run P w = .ok v' w ∧ Rel W ρ ι v v' := by
  unfold xidxaa at e
  split at e
  · rename_i n hn
    obtain ⟨k, rfl⟩ := natOf_rel hi hn
    split at e
    · rename_i b o
      obtain ⟨hc, e⟩ := sel_ok e
      rw [forceN_eq] at e; injection e with e1 e2; subst e1 e2
      have hlt := blt_iff.1 hc
      obtain ⟨cb, co, sz, hb, rfl⟩ := rel_ptr hx
      refine ⟨rfl, .pointer (some ⟨cb, co + (o + n * s), none⟩), ?_, .ptr _ _ _ _ _ hb⟩
      simp [Instr.indexAt, run_underlying hu, asIntOf, run_sizeOf' hs, Instr.sureAddr, hlt, addr_add, Nat.add_assoc]
    · rename_i cs
      obtain ⟨hc, e⟩ := sel_ok e
      injection e with e1 e2; subst e1 e2
      have hlt := blt_iff.1 hc
      obtain ⟨g, o, hr, rfl⟩ := rel_rptr hx
      refine ⟨rfl, .pointer (some ⟨g, o + n * s, none⟩), ?_, by rw [dropN_eq]; exact .rptr _ _ _ (hr.drop _)⟩
      simp [Instr.indexAt, run_underlying hu, asIntOf, run_sizeOf' hs, Instr.sureAddr, hlt, addr_add]
    · cases e
  · cases e
theorem idxs_sound (I : Inv W ρ ι h w) {x i : AV} {x' i' : Value} {v : AV} {t : Nat} (hu : P.underlying t = some .string)
    (hx : Rel W ρ ι x x') (hi : Rel W ρ ι i i') (e : xidxs x i h = .ok v h') : h' = h ∧ ∃ v', (Instr.index t x' i').run P w = .ok v' w ∧ Rel W ρ ι v v' := by
  unfold xidxs at e
  split at e
  · rename_i s n hn
    obtain ⟨k, rfl⟩ := natOf_rel hi hn
    cases hx with | str b =>
    split at e
    · rename_i c hc
      rw [mkInt_eq] at e; injection e with e1 e2; subst e1 e2
      rw [nth_eq] at hc
      have hlt : n < b.size := by
        have := (List.getElem?_eq_some_iff.1 hc).1
        rw [bytesOf_length] at this; exact this
      have hb : b[n]? = some b[n] := ByteArray.getElem?_lt' b n hlt
      refine ⟨rfl, .int .u8 (b[n].toNat), by simp [Instr.index, run_underlying hu, asIntOf, hb], ?_⟩
      have : c = b[n].toNat := by
        have h2 : (bytesOf b)[n]? = some (b[n].toNat) := by
          show (b.data.toList.map UInt8.toNat)[n]? = _
          have h3 : n < b.data.toList.length := by simpa using hlt
          rw [List.getElem?_map, List.getElem?_eq_getElem h3]; rfl
        rw [h2] at hc; exact (Option.some.inj hc).symm
      rw [this]; exact .int _ _
    · cases e
  · cases e
theorem ext_sound (I : Inv W ρ ι h w) {x : AV} {x' : Value} {v : AV} {i : Nat} (hx : Rel W ρ ι x x') (e : xext x i h = .ok v h') : h' = h ∧ ∃ v', (Instr.extract x' i).run P w = .ok v' w ∧ Rel W ρ ι v v' := by
  unfold xext at e
  split at e
  · split at e
    · rename_i u hv
      cases hx with | tup vs vs' hr =>
      injection e with e1 e2; subst e1 e2
      rw [nth_eq] at hv
      obtain ⟨v', h1, h2⟩ := hr.get _ _ hv
      rw [Array.getElem?_toList] at h1
      exact ⟨rfl, v', by simp [Instr.extract, h1], h2⟩
    · cases e
  · cases e
/-! bounds -/
inductive RelO (W : World) (ρ : Nat → Int) (ι : Inj) : Option AV → Option Value → Prop
  | none : RelO W ρ ι none none
  | some (v : AV) (v' : Value) (h : Rel W ρ ι v v') : RelO W ρ ι (some v) (some v')
theorem boundOf_rel {x : Option AV} {x' : Option Value} {d n : Nat} (hx : RelO W ρ ι x x') (e : boundOf x d = some n) : (x' = none ∧ n = d) ∨ (∃ k, x' = some (.int k n)) := by
  cases hx with
  | none => unfold boundOf at e; injection e with e; exact .inl ⟨rfl, e.symm⟩
  | some v v' h => obtain ⟨k, rfl⟩ := natOf_rel h e; exact .inr ⟨k, rfl⟩
theorem run_bound (k : IntKind) (i y : Nat) (code : BoundsCode) (hi : i ≤ y) : (Instr.sliceBound (.int k i) y code).run P w = .ok i w := by
  rw [run_sliceBound w k i y code (by omega) (by omega)]; simp
/-- The bounds of a slice expression. -/
theorem run_bounds {b : Bool} {len cap l hh m : Nat} {lo hi mx : Option AV} {lo' hi' mx' : Option Value} (hlo : RelO W ρ ι lo lo') (hhi : RelO W ρ ι hi hi') (hmx : RelO W ρ ι mx mx')
    (el : boundOf lo 0 = some l) (eh : boundOf hi len = some hh) (em : boundOf mx cap = some m) (h1 : m ≤ cap) (h2 : hh ≤ m) (h3 : l ≤ hh) (h4 : mx = none ∨ hi ≠ none) :
    (Instr.sliceBounds b len cap lo' hi' mx').run P w = .ok (l, hh, m) w := by
  unfold Instr.sliceBounds
  rcases boundOf_rel hmx em with ⟨rfl, rfl⟩ | ⟨k1, rfl⟩
  · rcases boundOf_rel hhi eh with ⟨rfl, rfl⟩ | ⟨k2, rfl⟩
    · rcases boundOf_rel hlo el with ⟨rfl, rfl⟩ | ⟨k3, rfl⟩
      · simp
      · simp [run_bound _ _ _ _ h3]
    · rcases boundOf_rel hlo el with ⟨rfl, rfl⟩ | ⟨k3, rfl⟩
      · simp [run_bound _ _ _ _ h2]
      · simp [run_bound _ _ _ _ h2, run_bound _ _ _ _ h3]
  · rcases boundOf_rel hhi eh with ⟨rfl, rfl⟩ | ⟨k2, rfl⟩
    · cases hmx; cases hhi; rcases h4 with h4 | h4 <;> simp at h4
    · rcases boundOf_rel hlo el with ⟨rfl, rfl⟩ | ⟨k3, rfl⟩
      · simp [run_bound _ _ _ _ h1, run_bound _ _ _ _ h2]
      · simp [run_bound _ _ _ _ h1, run_bound _ _ _ _ h2, run_bound _ _ _ _ h3]
theorem slcs_sound (I : Inv W ρ ι h w) {x : AV} {lo hi : Option AV} {x' : Value} {lo' hi' : Option Value} {v : AV} {t : Nat} (hu : P.underlying t = some .string)
    (hx : Rel W ρ ι x x') (hlo : RelO W ρ ι lo lo') (hhi : RelO W ρ ι hi hi') (e : xslcs x lo hi h = .ok v h') : h' = h ∧ ∃ v', (Instr.sliceAt t x' lo' hi' none).run P w = .ok v' w ∧ Rel W ρ ι v v' := by
  unfold xslcs at e
  split at e
  · rename_i s
    cases hx with | str b =>
    split at e
    · rename_i hh l eh el
      obtain ⟨hc, e⟩ := sel_ok e
      injection e with e1 e2; subst e1 e2
      rw [lenN_eq, bytesOf_length] at eh
      simp only [and_iff, ble_iff, lenN_eq, bytesOf_length] at hc
      have hb := run_bounds (P := P) (w := w) (b := false) (mx := none) (cap := b.size) hlo hhi .none el eh rfl (Nat.le_refl _) hc.1 hc.2 (.inl rfl)
      refine ⟨rfl, .string (b.extract l hh), ?_, ?_⟩
      · simp [Instr.sliceAt, Instr.slice, run_underlying hu, hb]
      · have : takeN (Nat.sub hh l) (dropN l (bytesOf b)) = bytesOf (b.extract l hh) := by
          rw [takeN_eq, dropN_eq]
          show _ = List.map UInt8.toNat (b.extract l hh).data.toList
          rw [ByteArray.data_extract, Array.toList_extract, List.extract_eq_take_drop, List.map_take, List.map_drop]
          rfl
        rw [this]; exact .str _
    · cases e
  · cases e
theorem addr_ite (g o l s m : Nat) : (if m = l then (⟨g, o, none⟩ : Addr) else ⟨g, o + l * s, none⟩) = ⟨g, if m = l then o else o + l * s, none⟩ := by split <;> rfl
theorem slc_fin {I : Inv W ρ ι h w} {b o cb co sz l hh m s : Nat} (hb : ι b = some (cb, co, sz)) :
    Rel W ρ ι (.sl b (Bool.rec (motive := fun _ => Nat) (Nat.add o (Nat.mul l s)) o (Nat.beq m l)) (Nat.sub hh l) s (some (Nat.sub m l)))
      (.slice (if m = l then some ⟨cb, co + o, none⟩ else (some (⟨cb, co + o, none⟩ : Addr)).map (·.add (l * s))) (hh - l) (m - l)) := by
  by_cases hm : m = l
  · have : Nat.beq m l = true := beq_iff.2 hm
    rw [this, if_pos hm]
    exact .sl _ _ _ _ _ _ _ _ hb
  · have : Nat.beq m l = false := PT.beq_ne hm
    rw [this, if_neg hm]
    simp only [Option.map_some, addr_add]
    rw [show co + o + l * s = co + (o + l * s) from by omega]
    exact .sl _ _ _ _ _ _ _ _ hb
theorem slc_sound (I : Inv W ρ ι h w) {x : AV} {lo hi mx : Option AV} {x' : Value} {lo' hi' mx' : Option Value} {v : AV} {t el s : Nat} (hu : P.underlying t = some (.slice el)) (hs : sizeC P el = some s)
    (hx : Rel W ρ ι x x') (hlo : RelO W ρ ι lo lo') (hhi : RelO W ρ ι hi hi') (hmx : RelO W ρ ι mx mx') (h4 : mx = none ∨ hi ≠ none) (e : xslc s x lo hi mx h = .ok v h') :
    h' = h ∧ ∃ v', (Instr.sliceAt t x' lo' hi' mx').run P w = .ok v' w ∧ Rel W ρ ι v v' := by
  have hrun : ∀ (a : Option Addr) (len cap l hh m : Nat), (Instr.sliceBounds true len cap lo' hi' mx').run P w = .ok (l, hh, m) w →
      (Instr.sliceAt t (.slice a len cap) lo' hi' mx').run P w = .ok (.slice (if m = l then a else a.map (·.add (l * s))) (hh - l) (m - l)) w := fun a len cap l hh m hb => by
    simp [Instr.sliceAt, Instr.slice, run_underlying hu, hb, run_sizeOf' hs]
  unfold xslc at e
  split at e
  · -- nil
    cases hx
    split at e
    · rename_i el eh em
      injection e with e1 e2; subst e1 e2
      have hb := run_bounds (P := P) (w := w) (b := true) hlo hhi hmx el eh em (Nat.le_refl _) (Nat.le_refl _) (Nat.le_refl _) h4
      exact ⟨rfl, _, hrun _ _ _ _ _ _ hb, .nils⟩
    · cases e
  · -- the capacity is known
    rename_i b o len ez cap
    split at e
    · rename_i m em
      split at e
      · rename_i hh l eh el
        obtain ⟨hc, e⟩ := sel_ok e
        simp only [forceN_eq] at e
        injection e with e1 e2; subst e1 e2
        simp only [and_iff, beq_iff, ble_iff] at hc
        obtain ⟨rfl, c1, c2, c3⟩ := hc
        cases hx with | sl _ _ _ _ _ cb co sz hb =>
        have hbd := run_bounds (P := P) (w := w) (b := true) hlo hhi hmx el eh em c1 c2 c3 h4
        exact ⟨rfl, _, hrun _ _ _ _ _ _ hbd, slc_fin (I := I) hb⟩
      · cases e
    · cases e
  · -- it isn't
    rename_i b o len ez
    split at e
    · split at e
      · rename_i hh l eh el
        obtain ⟨hc, e⟩ := sel_ok e
        simp only [and_iff, beq_iff, ble_iff] at hc
        obtain ⟨rfl, c2, c3⟩ := hc
        cases hx with | slu _ _ _ _ cap cb co sz hb hcp hl hm =>
        have hbd := run_bounds (P := P) (w := w) (b := true) (cap := cap) hlo hhi .none el eh rfl (Nat.le_refl _) (by omega) c3 (.inl rfl)
        have hr := hrun (some ⟨cb, co + o, none⟩) len cap l hh cap (by cases hmx; exact hbd)
        cases hq : Nat.blt l len with
        | true =>
          rw [hq] at e
          simp only [forceN_eq] at e
          injection e with e1 e2; subst e1 e2
          have hlt := blt_iff.1 hq
          rw [if_neg (by omega)] at hr
          refine ⟨rfl, _, hr, ?_⟩
          simp only [Option.map_some, addr_add]
          rw [show co + o + l * ez = co + (o + l * ez) from by omega]
          refine .slu _ _ _ _ (cap - l) _ _ _ hb ?_ (by show hh - l ≤ cap - l; omega) (by omega)
          have : (cap - l) * ez = cap * ez - l * ez := Nat.sub_mul _ _ _
          have h5 : l * ez ≤ cap * ez := Nat.mul_le_mul_right _ (by omega)
          show co + (o + l * ez) + (cap - l) * ez = sz
          omega
        | false =>
          rw [hq] at e
          have hge : ¬ l < len := fun hh => by rw [blt_iff.2 hh] at hq; cases hq
          cases hz : Nat.beq l 0 with
          | true =>
            rw [hz] at e
            injection e with e1 e2; subst e1 e2
            have := beq_iff.1 hz; subst this
            refine ⟨rfl, _, hr, ?_⟩
            have hh0 : hh = 0 := by omega
            subst hh0
            have hl0 : len = 0 := by omega
            have : (if cap = 0 then some (⟨cb, co + o, none⟩ : Addr) else (some (⟨cb, co + o, none⟩ : Addr)).map (·.add (0 * ez))) = some ⟨cb, co + o, none⟩ := by
              split
              · rfl
              · simp [addr_add]
            rw [this]
            exact .slu _ _ _ _ _ _ _ _ hb hcp (by omega) hm
          | false =>
            rw [hz] at e
            injection e with e1 e2; subst e1 e2
            refine ⟨rfl, _, hr, ?_⟩
            have : ∃ o2, (if cap = l then some (⟨cb, co + o, none⟩ : Addr) else (some (⟨cb, co + o, none⟩ : Addr)).map (·.add (l * ez))) = some ⟨cb, o2, none⟩ := by
              split
              · exact ⟨_, rfl⟩
              · exact ⟨_, by simp only [Option.map_some, addr_add]; rfl⟩
            obtain ⟨o2, this⟩ := this
            rw [this, show hh - l = 0 from by omega]
            exact .rsl _ _ _ _ _ (.nil _ _) (by omega)
      · cases e
    · rename_i mv
      split at e
      · rename_i m em
        split at e
        · rename_i hh l eh el
          obtain ⟨hc, e⟩ := sel_ok e
          simp only [forceN_eq] at e
          injection e with e1 e2; subst e1 e2
          simp only [and_iff, beq_iff, ble_iff] at hc
          obtain ⟨rfl, c1, c2, c3⟩ := hc
          cases hx with | slu _ _ _ _ cap cb co sz hb hcp hl hm =>
          have hbd := run_bounds (P := P) (w := w) (b := true) (cap := cap) hlo hhi hmx el eh em (by omega) c2 c3 h4
          exact ⟨rfl, _, hrun _ _ _ _ _ _ hbd, slc_fin (I := I) hb⟩
        · cases e
      · cases e
  · -- nobody writes there
    rename_i cs len
    split at e
    · split at e
      · rename_i hh l eh el
        obtain ⟨hc, e⟩ := sel_ok e
        simp only [and_iff, ble_iff] at hc
        obtain ⟨c2, c3⟩ := hc
        cases hx with | rsl _ _ cap g o hrc hl =>
        have hbd := run_bounds (P := P) (w := w) (b := true) (cap := cap) hlo hhi .none el eh rfl (Nat.le_refl _) (by omega) c3 (.inl rfl)
        have hr := hrun (some ⟨g, o, none⟩) len cap l hh cap (by cases hmx; exact hbd)
        cases hq : Nat.blt l len with
        | true =>
          rw [hq] at e
          simp only [forceN_eq] at e
          injection e with e1 e2; subst e1 e2
          have hlt := blt_iff.1 hq
          rw [if_neg (by omega)] at hr
          refine ⟨rfl, _, hr, ?_⟩
          simp only [Option.map_some, addr_add]
          rw [dropN_eq]
          exact .rsl _ _ _ _ _ (hrc.drop _) (by show hh - l ≤ cap - l; omega)
        | false =>
          rw [hq] at e
          have hge : ¬ l < len := fun hh => by rw [blt_iff.2 hh] at hq; cases hq
          cases hz : Nat.beq l 0 with
          | true =>
            rw [hz] at e
            injection e with e1 e2; subst e1 e2
            have := beq_iff.1 hz; subst this
            refine ⟨rfl, _, hr, ?_⟩
            have : (if cap = 0 then some (⟨g, o, none⟩ : Addr) else (some (⟨g, o, none⟩ : Addr)).map (·.add (0 * s))) = some ⟨g, o, none⟩ := by
              split
              · rfl
              · simp [addr_add]
            rw [this]
            exact .rsl _ _ _ _ _ hrc (by omega)
          | false =>
            rw [hz] at e
            injection e with e1 e2; subst e1 e2
            refine ⟨rfl, _, hr, ?_⟩
            have : ∃ o2, (if cap = l then some (⟨g, o, none⟩ : Addr) else (some (⟨g, o, none⟩ : Addr)).map (·.add (l * s))) = some ⟨g, o2, none⟩ := by
              split
              · exact ⟨_, rfl⟩
              · exact ⟨_, by simp only [Option.map_some, addr_add]; rfl⟩
            obtain ⟨o2, this⟩ := this
            rw [this, show hh - l = 0 from by omega]
            exact .rsl _ _ _ _ _ (.nil _ _) (by omega)
      · cases e
    · cases e
  · cases e
theorem slca_sound (I : Inv W ρ ι h w) {x : AV} {lo hi mx : Option AV} {x' : Value} {lo' hi' mx' : Option Value} {v : AV} {t el n s : Nat} (hs : sizeC P el = some s)
    (hu : P.underlying t = some (.array n el) ∨ ∃ a, P.underlying t = some (.pointer a) ∧ P.underlying a = some (.array n el))
    (hx : Rel W ρ ι x x') (hlo : RelO W ρ ι lo lo') (hhi : RelO W ρ ι hi hi') (hmx : RelO W ρ ι mx mx') (h4 : mx = none ∨ hi ≠ none) (e : xslca n s x lo hi mx h = .ok v h') :
    h' = h ∧ ∃ v', (Instr.sliceAt t x' lo' hi' mx').run P w = .ok v' w ∧ Rel W ρ ι v v' := by
  unfold xslca at e
  split at e
  · rename_i b o
    split at e
    · rename_i m em
      split at e
      · rename_i hh l eh el
        obtain ⟨hc, e⟩ := sel_ok e
        simp only [forceN_eq] at e
        injection e with e1 e2; subst e1 e2
        simp only [and_iff, ble_iff] at hc
        obtain ⟨c1, c2, c3⟩ := hc
        obtain ⟨cb, co, sz, hb, rfl⟩ := rel_ptr hx
        have hbd := run_bounds (P := P) (w := w) (b := false) hlo hhi hmx el eh em c1 c2 c3 h4
        have hf := slc_fin (I := I) (b := b) (o := o) (l := l) (hh := hh) (m := m) (s := s) hb
        refine ⟨rfl, _, ?_, hf⟩
        rcases hu with hu | ⟨a, hu, hu2⟩
        · simp only [Instr.sliceAt, Sem.run_bind, run_underlying hu, Result.andThen_ok, Instr.sureAddr, Sem.run_pure, hbd, run_sizeOf' hs]
          by_cases hm : m = l <;> simp [hm]
        · simp only [Instr.sliceAt, Instr.slice, Sem.run_bind, run_underlying hu, run_underlying hu2, Result.andThen_ok, asAddr, Sem.run_pure, hbd, run_sizeOf' hs]
          by_cases hm : m = l <;> simp [hm]
      · cases e
    · cases e
  · cases e
end
end Go.KM
