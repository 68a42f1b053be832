/-
  Operations of the small machine and the model's, IX: maps, lengths, bytes and texts, what is built.
-/
import Derived.Test.YtffpkcmcoppbmaaGreatDoorKOpsH
namespace Go.KM
open Go.RowKit
section
variable {P : Program} {W : World} {ρ : Nat → Int} {ι : Inj} {h h' : AH} {w : World}

theorem bytesWorld_eq (w : World) (e : TypeId) (s : ByteArray) :
    Lib.bytesWorld w e s = w.drew.alloc (.cells (Lib.bytesCells w e s) e ((Lib.bytesCells w e s).size, (Lib.bytesCells w e s).size + 1)) := by
  have hh : (Lib.bytesWorld w e s).heap = (w.drew.alloc (.cells (Lib.bytesCells w e s) e ((Lib.bytesCells w e s).size, (Lib.bytesCells w e s).size + 1))).heap := by
    apply Array.ext_getElem?
    intro i
    by_cases h1 : i < w.heap.size
    · rw [Lib.bytesWorld_at_old w e s i h1]; exact (alloc_old' w.drew _ i h1).symm
    · by_cases h2 : i = w.heap.size
      · subst h2
        rw [Lib.bytesWorld_at_new]; exact (_root_.Go.heap_alloc_new w.drew _).symm
      · rw [Array.getElem?_eq_none (by rw [Lib.bytesWorld_size]; omega), Array.getElem?_eq_none (by simp; omega)]
  have h2 : Lib.bytesWorld w e s = { (w.drew.alloc (.cells (Lib.bytesCells w e s) e ((Lib.bytesCells w e s).size, (Lib.bytesCells w e s).size + 1))) with heap := (Lib.bytesWorld w e s).heap } := by
    simp [Lib.bytesWorld, World.freeze, World.alloc, World.drew, -World.alloc_eq, -World.drew_eq]
  rw [h2, hh]
theorem convBytes_sound (I : Inv W ρ ι h w) {x : AV} {x' : Value} {v : AV} {s d el : TypeId} (hs : P.underlying s = some .string) (hd : P.underlying d = some (.slice el)) (he : P.underlying el = some (.int .u8)) (hx : Rel W ρ ι x x')
    (e : xconvBytes x h = .ok v h') : Did W ρ ι h ((convert s d x').run P w) v h' := by
  unfold xconvBytes at e
  split at e
  · cases hx with | str b =>
    obtain ⟨hq, e⟩ := sel_ok e
    injection e with e1 e2; subst e1 e2
    rw [ble_iff, lenN_eq, bytesOf_length] at hq
    have hrun := Lib.run_convert_string_bytes (P := P) w s d el b hs hd he
    rw [bytesWorld_eq] at hrun
    have hge := grownCap_ge w b.size 0 el
    have hle := grownCap_le_maxLen w b.size 0 el (by unfold maxLen; omega)
    have hsz : (Lib.bytesCells w el b).size = grownCap w b.size 0 el := by
      simp only [Lib.bytesCells, Array.size_append, Array.size_map, Array.size_replicate]
      have : b.data.size = b.size := rfl
      omega
    have hr := byteVals_rel (W := W) (ρ := ρ) (ι := ι) b
    have hcells : CellsAt W ρ ι (Lib.bytesCells w el b) 0 (byteVals (bytesOf b)) := by
      refine ⟨by rw [hsz, hr.length]; simp only [List.length_map, Array.length_toList]; have : b.data.size = b.size := rfl; omega, fun i u hu => ?_⟩
      obtain ⟨v', k1, k2⟩ := hr.get i u hu
      refine ⟨v', ?_, k2⟩
      have hi := (List.getElem?_eq_some_iff.1 k1).1
      simp only [List.length_map, Array.length_toList] at hi
      rw [Nat.zero_add, Lib.bytesCells, Array.getElem?_append_left (by simpa using hi)]
      rw [← Array.getElem?_toList, Array.toList_map]; exact k1
    have I' := I.drew.new (byteVals (bytesOf b)) _ el ((Lib.bytesCells w el b).size, (Lib.bytesCells w el b).size + 1) (.inr (Nat.le_refl _)) hcells
    refine ⟨_, _, _, hrun, Ext.put _ _ rfl (I.dom_none (Nat.le_refl _)) rfl, I', ?_⟩
    have hput := Inj.put_same ι h.next (w.drew.heap.size, 0, (Lib.bytesCells w el b).size)
    have := Rel.slu (W := W) (ρ := ρ) h.next 0 b.size 1 (grownCap w b.size 0 el) _ _ _ hput (by rw [hsz]; simp) hge hle
    rw [lenN_eq, bytesOf_length]
    simpa using this
  · cases e
theorem toBytes_sound : ∀ {l : List AV} {l' : List Value} {s : List Nat}, RelL W ρ ι l l' → toBytes l = some s →
    ∃ ns : List Int, l' = ns.map (Value.int .u8) ∧ ns.map (fun n => (UInt8.ofNat n.toNat).toNat) = s
  | _, _, s, .nil, e => by
    replace e : some [] = some s := e
    injection e with e; subst e; exact ⟨[], rfl, rfl⟩
  | _, _, s, .cons v v' l l' hv hl, e => by
    replace e : (match (generalizing := false) v with
      | .int .u8 (Int.ofNat n) => Bool.rec (motive := fun _ => Option (List Nat)) none (Option.rec (motive := fun _ => Option (List Nat)) none (fun r => some (n :: r)) (toBytes l)) (Nat.blt n 256)
      | _ => none) = some s := e
    split at e
    · rename_i n
      cases hv
      cases hb : Nat.blt n 256 with
      | false => rw [hb] at e; cases e
      | true =>
        rw [hb] at e
        have hlt := blt_iff.1 hb
        cases hr : toBytes l with
        | none => rw [hr] at e; cases e
        | some r =>
          rw [hr] at e
          replace e := Option.some.inj e; subst e
          obtain ⟨ns, rfl, h2⟩ := toBytes_sound hl hr
          refine ⟨(n : Int) :: ns, rfl, ?_⟩
          simp only [List.map_cons, h2, Int.toNat_natCast]
          congr 1
          simp [UInt8.toNat_ofNat]; omega
    · cases e
theorem foldl_push (ns : List Int) : ∀ (a : ByteArray), bytesOf (ns.foldl (fun r n => r.push (UInt8.ofNat n.toNat)) a) = bytesOf a ++ ns.map (fun n => (UInt8.ofNat n.toNat).toNat) := by
  induction ns with
  | nil => intro a; simp
  | cons n ns ih =>
    intro a
    rw [List.foldl_cons, ih, List.map_cons]
    have : bytesOf (a.push (UInt8.ofNat n.toNat)) = bytesOf a ++ [(UInt8.ofNat n.toNat).toNat] := by
      show List.map UInt8.toNat (a.data.push _).toList = _
      rw [Array.toList_push, List.map_append]; rfl
    rw [this]; simp
theorem convStrS_sound (I : Inv W ρ ι h w) {x : AV} {x' : Value} {v : AV} {s d : TypeId} (hs : P.underlying s = some .string) (hd : P.underlying d = some .string) (hx : Rel W ρ ι x x') (e : xconvStr x h = .ok v h') :
    h' = h ∧ ∃ v', (convert s d x').run P w = .ok v' w ∧ Rel W ρ ι v v' := by
  unfold xconvStr at e
  split at e
  · injection e with e1 e2; subst e1 e2
    cases hx with | str b =>
    exact ⟨rfl, .string b, by simp [convert, run_underlying hs, run_underlying hd], .str b⟩
  · cases e
theorem convBs_sound (I : Inv W ρ ι h w) {x : AV} {x' : Value} {v : AV} {s d el : TypeId} (hs1 : P.underlying s = some (.slice el)) (hs2 : P.underlying el = some (.int .u8)) (hd : P.underlying d = some .string) (hx : Rel W ρ ι x x')
    (e : xconvBs x h = .ok v h') : h' = h ∧ ∃ v', (convert s d x').run P w = .ok v' w ∧ Rel W ρ ι v v' := by
  unfold xconvBs at e
  split at e
  · cases e
  · rename_i hns
    split at e
    · rename_i n cs he
      split at e
      · rename_i bs hb
        injection e with e1 e2; subst e1 e2
        obtain ⟨hl1, hl2, hl3⟩ := elems_sound (P := P) I hx he
        obtain ⟨vs, f1, f2⟩ := hl3 n (Nat.le_refl _)
        rw [List.take_of_length_le (by omega)] at f2
        obtain ⟨ns, rfl, h2⟩ := toBytes_sound f2 hb
        have fin : ∀ (g o len cap : Nat), n = len → x' = .slice (some ⟨g, o, none⟩) len cap → h = h ∧ ∃ v', (convert s d x').run P w = .ok v' w ∧ Rel W ρ ι (.str bs) v' := by
          rintro g o len cap rfl rfl
          have hload : (loadCells ⟨g, o, none⟩ n).run P w = .ok (ns.map (Value.int .u8)).toArray w := by
            simpa [Builtin.firstCells] using f1
          refine ⟨rfl, _, (run_convert_bytes_string (P := P) w s d el _ _ _ hs1 hs2 hd).trans (run_bytesToString w _ _ _ ns hload), ?_⟩
          have h3 := foldl_push ns ByteArray.empty
          have : bytesOf (ns.foldl (fun r n => r.push (UInt8.ofNat n.toNat)) ByteArray.empty) = bs := by rw [h3, h2]; rfl
          rw [← this]; exact .str _
        unfold elems at he
        split at he
        · cases hx
          injection he with he; simp only [Prod.mk.injEq] at he; obtain ⟨rfl, rfl⟩ := he
          injection hb with hb; subst hb
          refine ⟨rfl, .string .empty, (run_convert_bytes_string (P := P) w s d el _ _ _ hs1 hs2 hd).trans (by simp [Conv.bytesToString]), .str ByteArray.empty⟩
        · exact absurd rfl (hns _)
        · rename_i b o len ez cap
          have hr : ∃ cb co sz cp, ι b = some (cb, co, sz) ∧ x' = .slice (some ⟨cb, co + o, none⟩) len cp := by
            cases hx with
            | sl _ _ _ _ c cb co sz hb => exact ⟨cb, co, sz, c, hb, rfl⟩
            | slu _ _ _ _ cap cb co sz hb => exact ⟨cb, co, sz, cap, hb, rfl⟩
          obtain ⟨cb, co, sz, cp, -, hx'⟩ := hr
          refine fin cb (co + o) len cp ?_ hx'
          subst hx'
          simp only [Builtin.lenOf, Sem.run_pure] at hl2
          injection hl2 with hl2; exact hl2.symm
        · cases hx with | rsl _ _ cap g o hrc hl =>
          refine fin g o _ cap ?_ rfl
          simp only [Builtin.lenOf, Sem.run_pure] at hl2
          injection hl2 with hl2; exact hl2.symm
        · cases he
      · cases e
    · cases e
/-! maps -/
theorem keyKind {t : TypeId} {kk : Nat} (e : keyOk P t = some kk) : (∃ j, P.underlying t = some (.int j)) ∧ kk = 6 ∨ P.underlying t = some .string ∧ kk = 7 := by
  unfold keyOk at e
  split at e
  · rename_i j hu; injection e with e; exact .inl ⟨⟨j, hu⟩, e.symm⟩
  · rename_i hu; injection e with e; exact .inr ⟨hu, e.symm⟩
  · cases e
theorem checkKey_quiet {t : TypeId} {kk : Nat} (e : keyOk P t = some kk) (b : Bool) (k' : Value) : (Instr.checkKey b 10000 t k').run P w = .ok () w := by
  have : ∀ n, (Instr.checkKey b (n + 1) t k').run P w = .ok () w := fun n => by
    rcases keyKind e with ⟨⟨j, hu⟩, -⟩ | ⟨hu, -⟩ <;> simp [Instr.checkKey, run_underlying hu]
  exact this 9999
theorem sameNow_sound {t : TypeId} {kk : Nat} (ht : keyOk P t = some kk) {x y : AV} {x' y' : Value} {c : Bool} (hx : Rel W ρ ι x x') (hy : Rel W ρ ι y y') (e : eqCellK kk x y = some c) {d : TypeDesc} (hd : P.underlying t = some d) :
    Instr.sameNow d x' y' = some c ∧ (c = true → Instr.sameBits 10000 y' x' = true) := by
  unfold eqCellK at e
  split at e
  · rename_i j a l b
    cases hx; cases hy
    cases hb : beqK j l with
    | false => rw [hb] at e; cases e
    | true =>
      rw [hb] at e
      obtain ⟨rfl, rfl⟩ := ifK_some e
      have := beqK_iff.1 hb; subst this
      rcases keyKind ht with ⟨⟨q, hu⟩, -⟩ | ⟨-, hh⟩
      · rw [hd] at hu; injection hu with hu; subst hu
        rw [eqI_eq]
        refine ⟨by simp [Instr.sameNow], fun hc => ?_⟩
        have := eq_of_beq hc; subst this
        simp [Instr.sameBits]
      · cases hh
  · cases hx; cases hy
    obtain ⟨rfl, rfl⟩ := ifK_some e
    rcases keyKind ht with ⟨-, hh⟩ | ⟨hu, -⟩
    · cases hh
    · rw [hd] at hu; injection hu with hu; subst hu
      rw [eqNs_eq, bytesOf_beq]
      refine ⟨by simp [Instr.sameNow, beq_toListBytes], fun hc => ?_⟩
      rw [Instr.sameBits, beq_toListBytes]
      have := eq_of_beq hc
      rw [this]; exact beq_self_eq_true _
  · obtain ⟨rfl, -⟩ := ifK_some e
    rcases keyKind ht with ⟨-, hh⟩ | ⟨-, hh⟩ <;> cases hh
  · cases e
/-- The look for a key among entries: where it is. -/
theorem findE_sound {t : TypeId} {kk : Nat} (ht : keyOk P t = some kk) {d : TypeDesc} (hd : P.underlying t = some d) {k : AV} {k' : Value} (hk : Rel W ρ ι k k') : ∀ {es : List (AV × AV)} {es' : List MapEntry} (i : Nat) {r : Option AV}, EntsAt W ρ ι es es' → findE kk k es = some r →
    (r = none ∧ Instr.findNow d k' es' i = some none ∧ (∀ v, putE kk k v es = es ++ [(k, v)]) ∧ delE kk k es = es) ∨
    (∃ v j v', r = some v ∧ Rel W ρ ι v v' ∧ Instr.findNow d k' es' i = some (some (i + j, v')) ∧ j < es.length ∧ (∀ u, putE kk k u es = es.set j (k, u)) ∧ delE kk k es = es.eraseIdx j ∧
      ∃ f, es'[j]? = some f ∧ Instr.sameBits 10000 f.key k' = true)
  | [], [], i, r, _, e => by
    replace e : some none = some r := e
    injection e with e; subst e
    exact .inl ⟨rfl, rfl, fun _ => rfl, rfl⟩
  | [], _ :: _, i, r, hr, e => by have := hr.1.length; simp at this
  | _ :: _, [], i, r, hr, e => by have := hr.1.length; simp at this
  | a :: es, f :: es', i, r, hr, e => by
    have hkr : Rel W ρ ι a.1 f.key ∧ RelL W ρ ι (es.map (·.1)) (es'.map (·.key)) := by cases hr.1 with | cons _ _ _ _ h1 h2 => exact ⟨h1, h2⟩
    have hvr : Rel W ρ ι a.2 f.val ∧ RelL W ρ ι (es.map (·.2)) (es'.map (·.val)) := by cases hr.2 with | cons _ _ _ _ h1 h2 => exact ⟨h1, h2⟩
    replace e : (match eqCellK kk k a.1 with
      | some true => some (some a.2)
      | some false => findE kk k es
      | none => none) = some r := e
    have hput : ∀ v, putE kk k v (a :: es) = (match eqCellK kk k a.1 with | some true => (k, v) :: es | _ => a :: putE kk k v es) := fun _ => rfl
    have hdel : delE kk k (a :: es) = (match eqCellK kk k a.1 with | some true => es | _ => a :: delE kk k es) := rfl
    cases hc : eqCellK kk k a.1 with
    | none => rw [hc] at e; cases e
    | some c =>
      obtain ⟨s1, s2⟩ := sameNow_sound ht hk hkr.1 hc hd
      rw [hc] at e hput hdel
      cases c with
      | true =>
        injection e with e; subst e
        exact .inr ⟨a.2, 0, f.val, rfl, hvr.1, by simp [Instr.findNow, s1], by simp, fun u => by rw [hput]; rfl, by rw [hdel]; rfl, f, rfl, s2 rfl⟩
      | false =>
        rcases findE_sound ht hd hk (i + 1) ⟨hkr.2, hvr.2⟩ e with ⟨q1, q2, q3, q4⟩ | ⟨v, j, v', q1, q2, q3, q4, q5, q6, g, q7, q8⟩
        · exact .inl ⟨q1, by simp [Instr.findNow, s1, q2], fun v => by rw [hput]; dsimp only; rw [q3]; rfl, by rw [hdel]; dsimp only; rw [q4]⟩
        · exact .inr ⟨v, j + 1, v', q1, q2, by simp [Instr.findNow, s1, q3]; omega, by simp; omega, fun u => by rw [hput]; dsimp only; rw [q5]; rfl, by rw [hdel]; dsimp only; rw [q6]; rfl, g, by simpa using q7, q8⟩
end
end Go.KM
