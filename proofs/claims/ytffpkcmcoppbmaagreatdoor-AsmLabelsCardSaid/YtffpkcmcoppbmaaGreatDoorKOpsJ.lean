/-
  Operations of the small machine and the model's, X: maps, lengths, what is built.
-/
import Derived.Test.YtffpkcmcoppbmaaGreatDoorKOpsI
namespace Go.KM
open Go.RowKit
section
variable {P : Program} {W : World} {ρ : Nat → Int} {ι : Inj} {h h' : AH} {w : World}

theorem rel_map {b : Nat} {x' : Value} (hx : Rel W ρ ι (.map b) x') : ∃ cb co sz, ι b = some (cb, co, sz) ∧ x' = .map (some cb) := by
  cases hx with | map b cb co sz hb => exact ⟨cb, co, sz, hb, rfl⟩
theorem run_getMap {cb : Nat} {ents : Array MapEntry} {clock : Nat} (hw : w.heap[cb]? = some (.map ents clock)) : (getObj cb).run P w = .ok (.map ents clock) w := by
  simp [getObj, Sem.run, hw]
theorem run_setMap {cb : Nat} {ents : Array MapEntry} {clock : Nat} (hw : w.heap[cb]? = some (.map ents clock)) (o : Obj) : (setObj cb o).run P w = .ok () (putB w cb o) := by
  simp [setObj, Sem.run, hw, putB]
theorem run_findKey {t : TypeId} {d : TypeDesc} (hd : P.underlying t = some d) {k' : Value} {es : List MapEntry} {r : Option (Nat × Value)} (e : Instr.findNow d k' es 0 = some r) : (Instr.findKey t k' es).run P w = .ok r w := by
  simp [Instr.findKey, run_underlying hd, e]
theorem key_desc {t : TypeId} {kk : Nat} (ht : keyOk P t = some kk) : ∃ d, P.underlying t = some d := by
  rcases keyKind ht with ⟨⟨j, hu⟩, -⟩ | ⟨hu, -⟩ <;> exact ⟨_, hu⟩
theorem look_sound (I : Inv W ρ ι h w) {x k : AV} {x' k' : Value} {v : AV} {t kt el kk : Nat} {z : AV} {ok : Bool} (ht : P.underlying t = some (.map kt el)) (hkk : keyOk P kt = some kk) (hz : zeroOf P el = some z)
    (hx : Rel W ρ ι x x') (hk : Rel W ρ ι k k') (e : xlook kk z ok x k h = .ok v h') : h' = h ∧ ∃ v', (Instr.lookup t x' k' ok).run P w = .ok v' w ∧ Rel W ρ ι v v' := by
  obtain ⟨d, hd⟩ := key_desc hkk
  obtain ⟨z', hz1, hz2⟩ := run_zeroValue' hz
  have hzr := ofConst_rel (W := W) (ρ := ρ) (ι := ι) hz1
  have main : ∀ (es : List (AV × AV)) (es' : List MapEntry) (r : Option AV), EntsAt W ρ ι es es' → findE kk k es = some r →
      (∀ u', Instr.findNow d k' es' 0 = some none → (zeroValue el).run P w = .ok u' w → (Instr.lookup t x' k' ok).run P w = .ok (if ok then .tuple #[u', .bool false] else u') w) →
      (∀ j u', Instr.findNow d k' es' 0 = some (some (j, u')) → (Instr.lookup t x' k' ok).run P w = .ok (if ok then .tuple #[u', .bool true] else u') w) →
      (match (some r : Option (Option AV)) with
        | some (some v) => .ok (Bool.rec (motive := fun _ => AV) v (.tup [v, .bool true]) ok) h
        | some none => .ok (Bool.rec (motive := fun _ => AV) z (.tup [z, .bool false]) ok) h
        | none => R.bad) = R.ok v h' →
      h' = h ∧ ∃ v', (Instr.lookup t x' k' ok).run P w = .ok v' w ∧ Rel W ρ ι v v' := by
    intro es es' r hr hf g1 g2 e
    rcases findE_sound hkk hd hk 0 hr hf with ⟨rfl, q2, -, -⟩ | ⟨u, j, u', rfl, q2, q3, -⟩
    · dsimp only at e
      injection e with e1 e2; subst e1 e2
      refine ⟨rfl, _, g1 z' q2 (hz2 w), ?_⟩
      cases ok
      · exact hzr
      · exact .tup _ _ (.cons _ _ _ _ hzr (.cons _ _ _ _ (.bool _) .nil))
    · dsimp only at e
      injection e with e1 e2; subst e1 e2
      refine ⟨rfl, _, g2 _ u' q3, ?_⟩
      cases ok
      · exact q2
      · exact .tup _ _ (.cons _ _ _ _ q2 (.cons _ _ _ _ (.bool _) .nil))
  unfold xlook at e
  cases hf : lookE kk x k h with
  | none => rw [hf] at e; cases e
  | some r =>
    rw [hf] at e
    unfold lookE at hf
    split at hf
    · cases hx
      exact main [] [] r ⟨.nil, .nil⟩ hf
        (fun u' q hz => by simp [Instr.lookup, run_underlying ht, checkKey_quiet hkk, run_findKey hd q, hz])
        (fun j u' q => by simp [Instr.lookup, run_underlying ht, checkKey_quiet hkk, run_findKey hd q]) e
    · rename_i b
      obtain ⟨cb, co, sz, hb, rfl⟩ := rel_map hx
      split at hf
      · rename_i es hes
        obtain ⟨ents, clock, hw, hr, hbo⟩ := I.mps b es cb co sz hb (mpAt_some hes)
        exact main es ents.toList r hr hf
          (fun u' q hz => by simp [Instr.lookup, run_underlying ht, run_getMap hw, checkKey_quiet hkk, run_findKey hd q, hz])
          (fun j u' q => by simp [Instr.lookup, run_underlying ht, run_getMap hw, checkKey_quiet hkk, run_findKey hd q]) e
      · cases hf
    · cases hf
theorem RelL.set {l : List AV} {l' : List Value} (hl : RelL W ρ ι l l') {v : AV} {v' : Value} (hv : Rel W ρ ι v v') : ∀ (j : Nat), RelL W ρ ι (l.set j v) (l'.set j v') := by
  induction l generalizing l' with
  | nil => cases hl; intro j; exact .nil
  | cons a l ih => cases hl with | cons _ a' _ l'' ha hl =>
    intro j
    cases j with
    | zero => exact .cons _ _ _ _ hv hl
    | succ j => exact .cons _ _ _ _ ha (ih hl j)
theorem RelL.erase {l : List AV} {l' : List Value} (hl : RelL W ρ ι l l') : ∀ (j : Nat), RelL W ρ ι (l.eraseIdx j) (l'.eraseIdx j) := by
  induction l generalizing l' with
  | nil => cases hl; intro j; exact .nil
  | cons a l ih => cases hl with | cons _ a' _ l'' ha hl =>
    intro j
    cases j with
    | zero => exact hl
    | succ j => exact .cons _ _ _ _ ha (ih hl j)
theorem mupd_sound (I : Inv W ρ ι h w) {x k y : AV} {x' k' y' : Value} {v : AV} {t kt el kk : Nat} (ht : P.underlying t = some (.map kt el)) (hkk : keyOk P kt = some kk)
    (hx : Rel W ρ ι x x') (hk : Rel W ρ ι k k') (hy : Rel W ρ ι y y') (e : xmupd kk x k y h = .ok v h') : v = .tup [] ∧ DidU W ρ ι h ((Instr.mapUpdate t x' k' y').run P w) h' := by
  obtain ⟨d, hd⟩ := key_desc hkk
  unfold xmupd at e
  split at e
  · rename_i b
    obtain ⟨cb, co, sz, hb, rfl⟩ := rel_map hx
    split at e
    · rename_i es hes
      have hmp := mpAt_some hes
      obtain ⟨ents, clock, hw, hr, hbo⟩ := I.mps b es cb co sz hb hmp
      cases hf : findE kk k es with
      | none => rw [hf] at e; cases e
      | some r =>
        rw [hf] at e
        dsimp only at e
        injection e with e1 e2; subst e1 e2
        refine ⟨rfl, ?_⟩
        rcases findE_sound hkk hd hk 0 hr hf with ⟨rfl, q2, q3, -⟩ | ⟨u, j, u', rfl, q2, q3, q4, q5, -, f, q6, q7⟩
        · refine ⟨ι, putB w cb (.map (ents.push { key := k', val := y', born := clock }) (clock + 1)), ?_, (.here rfl), I.writeMp hb hmp _ _ _ ⟨?_, hbo.push _ _⟩⟩
          · simp [Instr.mapUpdate, run_underlying ht, run_getMap hw, checkKey_quiet hkk, run_findKey hd q2, run_setMap hw]
          · rw [q3]
            constructor
            · simp only [List.map_append, Array.toList_push]; exact hr.1.append (.cons _ _ _ _ hk .nil)
            · simp only [List.map_append, Array.toList_push]; exact hr.2.append (.cons _ _ _ _ hy .nil)
        · rw [Nat.zero_add] at q3
          have hkey : (Instr.keyThatStays (((ents[j]?).map (·.key)).getD k') k').run P w = .ok k' w := by
            have : ents[j]? = some f := by simpa using q6
            rw [this]; simp [Instr.keyThatStays, q7]
          refine ⟨ι, putB w cb (.map (ents.modify j fun e => { e with key := k', val := y' }) clock), ?_, (.here rfl), I.writeMp hb hmp _ _ _ ⟨?_, hbo.modify _ _ _⟩⟩
          · simp only [Instr.mapUpdate, Sem.run_bind, run_underlying ht, Result.andThen_ok, run_getMap hw, checkKey_quiet hkk, run_findKey hd q3]
            rw [hkey]
            simp [run_setMap hw]
          · rw [q5]
            have hkl : (ents.modify j fun e => { e with key := k', val := y' }).toList.map (·.key) = (ents.toList.map (·.key)).set j k' := by
              apply List.ext_getElem?
              intro i
              simp only [Array.toList_modify, List.getElem?_map, List.getElem?_modify, List.getElem?_set, List.length_map]
              by_cases hij : j = i
              · subst hij
                have hlt : j < ents.toList.length := (List.getElem?_eq_some_iff.1 q6).1
                simp [q6, hlt]; simpa using hlt
              · simp [hij]
            have hvl : (ents.modify j fun e => { e with key := k', val := y' }).toList.map (·.val) = (ents.toList.map (·.val)).set j y' := by
              apply List.ext_getElem?
              intro i
              simp only [Array.toList_modify, List.getElem?_map, List.getElem?_modify, List.getElem?_set, List.length_map]
              by_cases hij : j = i
              · subst hij
                have hlt : j < ents.toList.length := (List.getElem?_eq_some_iff.1 q6).1
                simp [q6, hlt]; simpa using hlt
              · simp [hij]
            constructor
            · rw [hkl, List.map_set]; exact hr.1.set hk j
            · rw [hvl, List.map_set]; exact hr.2.set hy j
    · cases e
  · cases e
theorem map_erase {α β : Type} (f : α → β) : ∀ (l : List α) (j : Nat), (l.map f).eraseIdx j = (l.eraseIdx j).map f
  | [], j => by simp
  | a :: l, 0 => rfl
  | a :: l, j + 1 => by simp [map_erase f l j]
theorem mdel_sound (I : Inv W ρ ι h w) {x k : AV} {x' k' : Value} {v : AV} {t u kt el kk ty : Nat} (ht : P.underlying t = some (.map kt el)) (hkk : keyOk P kt = some kk)
    (hx : Rel W ρ ι x x') (hk : Rel W ρ ι k k') (e : xmdel kk x k h = .ok v h') : Did W ρ ι h ((Builtin.delete_ #[t, u] ty #[x', k']).run P w) v h' := by
  obtain ⟨d, hd⟩ := key_desc hkk
  unfold xmdel at e
  split at e
  · cases hx
    injection e with e1 e2; subst e1 e2
    exact .here (v' := .tuple #[]) I (by simp [Builtin.delete_, run_underlying ht, checkKey_quiet hkk]) (.tup _ _ .nil)
  · rename_i b
    obtain ⟨cb, co, sz, hb, rfl⟩ := rel_map hx
    split at e
    · rename_i es hes
      have hmp := mpAt_some hes
      obtain ⟨ents, clock, hw, hr, hbo⟩ := I.mps b es cb co sz hb hmp
      cases hf : findE kk k es with
      | none => rw [hf] at e; cases e
      | some r =>
        rw [hf] at e
        dsimp only at e
        injection e with e1 e2; subst e1 e2
        rcases findE_sound hkk hd hk 0 hr hf with ⟨rfl, q2, -, q4⟩ | ⟨u0, j, u', rfl, q2, q3, q4, -, q5, f, q6, q7⟩
        · refine ⟨ι, putB w cb (.map ents clock), .tuple #[], ?_, (.here rfl), I.writeMp hb hmp _ _ _ ⟨by rw [q4]; exact hr, hbo⟩, .tup _ _ .nil⟩
          simp [Builtin.delete_, run_underlying ht, run_getMap hw, checkKey_quiet hkk, run_findKey hd q2, run_setMap hw]
        · rw [Nat.zero_add] at q3
          have hlt : j < ents.size := by have := (List.getElem?_eq_some_iff.1 q6).1; simpa using this
          refine ⟨ι, putB w cb (.map (ents.eraseIdxIfInBounds j) clock), .tuple #[], ?_, (.here rfl), I.writeMp hb hmp _ _ _ ⟨?_, hbo.erase _⟩, .tup _ _ .nil⟩
          · simp [Builtin.delete_, run_underlying ht, run_getMap hw, checkKey_quiet hkk, run_findKey hd q3, run_setMap hw]
          · have he : (ents.eraseIdxIfInBounds j).toList = ents.toList.eraseIdx j := by simp [Array.eraseIdxIfInBounds, hlt]
            rw [q5, he]
            constructor
            · have := hr.1.erase j; rwa [map_erase, map_erase] at this
            · have := hr.2.erase j; rwa [map_erase, map_erase] at this
    · cases e
  · cases e
theorem len_sound (I : Inv W ρ ι h w) {x : AV} {x' : Value} {v : AV} {t ty kk : Nat} (ht : (P.underlying t = some .string ∧ kk = 7) ∨ (∃ q, P.underlying t = some (.slice q) ∧ kk = 2) ∨ (∃ a b, P.underlying t = some (.map a b) ∧ kk = 3))
    (hx : Rel W ρ ι x x') (e : xlen kk x h = .ok v h') : h' = h ∧ ∃ v', (Builtin.len_ #[t] ty #[x']).run P w = .ok v' w ∧ Rel W ρ ι v v' := by
  have k7 : kk = 7 → P.underlying t = some .string := fun hk => by
    rcases ht with ⟨h1, -⟩ | ⟨q, -, h2⟩ | ⟨a, b, -, h2⟩
    · exact h1
    · omega
    · omega
  have k2 : kk = 2 → ∃ q, P.underlying t = some (.slice q) := fun hk => by
    rcases ht with ⟨-, h2⟩ | ⟨q, h1, -⟩ | ⟨a, b, -, h2⟩
    · omega
    · exact ⟨q, h1⟩
    · omega
  have k3 : kk = 3 → ∃ a b, P.underlying t = some (.map a b) := fun hk => by
    rcases ht with ⟨-, h2⟩ | ⟨q, -, h2⟩ | ⟨a, b, h1, -⟩
    · omega
    · omega
    · exact ⟨a, b, h1⟩
  unfold xlen at e
  split at e
  · cases hx with | str b =>
    obtain ⟨hq, e⟩ := sel_ok e
    rw [mkInt_eq, lenN_eq, bytesOf_length] at e; injection e with e1 e2; subst e1 e2
    exact ⟨rfl, .int .i64 b.size, by simp [Builtin.len_, run_underlying (k7 (beq_iff.1 hq)), goInt], .int _ _⟩
  · cases hx
    obtain ⟨hq, e⟩ := sel_ok e
    injection e with e1 e2; subst e1 e2
    obtain ⟨q, hu⟩ := k2 (beq_iff.1 hq)
    exact ⟨rfl, .int .i64 0, by simp [Builtin.len_, run_underlying hu, goInt], .int _ _⟩
  · rename_i b o len ez cap
    obtain ⟨hq, e⟩ := sel_ok e
    rw [mkInt_eq] at e; injection e with e1 e2; subst e1 e2
    obtain ⟨q, hu⟩ := k2 (beq_iff.1 hq)
    have hr : ∃ a cp, x' = .slice a len cp := by
      cases hx with
      | sl _ _ _ _ c cb co sz hb => exact ⟨_, _, rfl⟩
      | slu _ _ _ _ cap cb co sz hb => exact ⟨_, _, rfl⟩
    obtain ⟨a, cp, rfl⟩ := hr
    exact ⟨rfl, .int .i64 len, by simp [Builtin.len_, run_underlying hu, goInt], .int _ _⟩
  · obtain ⟨hq, e⟩ := sel_ok e
    rw [mkInt_eq] at e; injection e with e1 e2; subst e1 e2
    obtain ⟨q, hu⟩ := k2 (beq_iff.1 hq)
    cases hx with | rsl _ _ cap g o hrc hl =>
    exact ⟨rfl, .int .i64 _, by first | (simp [Builtin.len_, run_underlying hu, goInt]; done) | (simp [Builtin.len_, run_underlying hu, goInt]; rfl), .int _ _⟩
  · cases hx
    obtain ⟨hq, e⟩ := sel_ok e
    injection e with e1 e2; subst e1 e2
    obtain ⟨a, b, hu⟩ := k3 (beq_iff.1 hq)
    exact ⟨rfl, .int .i64 0, by simp [Builtin.len_, run_underlying hu, goInt], .int _ _⟩
  · rename_i b
    obtain ⟨cb, co, sz, hb, rfl⟩ := rel_map hx
    split at e
    · rename_i es hes
      obtain ⟨hq, e⟩ := sel_ok e
      rw [mkInt_eq, lenN_eq] at e; injection e with e1 e2; subst e1 e2
      obtain ⟨a, b', hu⟩ := k3 (beq_iff.1 hq)
      obtain ⟨ents, clock, hw, hr, hbo⟩ := I.mps b es cb co sz hb (mpAt_some hes)
      have hl := hr.1.length
      simp only [List.length_map, Array.length_toList] at hl
      exact ⟨rfl, .int .i64 ents.size, by simp [Builtin.len_, run_underlying hu, run_getMap hw, goInt], by rw [hl]; exact .int _ _⟩
    · cases e
  · cases e
theorem min_sound (I : Inv W ρ ι h w) {x y : AV} {x' y' : Value} {v : AV} {ts : Array TypeId} {ty : Nat} (hx : Rel W ρ ι x x') (hy : Rel W ρ ι y y') (e : xmin x y h = .ok v h') :
    h' = h ∧ ∃ v', (Builtin.min_ ts ty #[x', y']).run P w = .ok v' w ∧ Rel W ρ ι v v' := by
  unfold xmin at e
  split at e
  · rename_i k a l b
    cases hx; cases hy
    injection e with e1 e2; subst e1 e2
    refine ⟨rfl, _, run_min_int2 w ts ty k l a b, ?_⟩
    rw [ltI_eq]
    by_cases q : b < a <;> simp [q] <;> exact .int _ _
  · cases e
theorem max_sound (I : Inv W ρ ι h w) {x y : AV} {x' y' : Value} {v : AV} {ts : Array TypeId} {ty : Nat} (hx : Rel W ρ ι x x') (hy : Rel W ρ ι y y') (e : xmax x y h = .ok v h') :
    h' = h ∧ ∃ v', (Builtin.max_ ts ty #[x', y']).run P w = .ok v' w ∧ Rel W ρ ι v v' := by
  unfold xmax at e
  split at e
  · rename_i k a l b
    cases hx; cases hy
    injection e with e1 e2; subst e1 e2
    refine ⟨rfl, _, run_max_int2 w ts ty k l a b, ?_⟩
    rw [ltI_eq]
    by_cases q : a < b <;> simp [q] <;> exact .int _ _
  · cases e
end
end Go.KM
