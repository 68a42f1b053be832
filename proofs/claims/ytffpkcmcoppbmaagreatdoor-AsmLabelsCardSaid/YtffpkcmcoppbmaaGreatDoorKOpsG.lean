/-
  Operations of the small machine and the model's, VII: append.
-/
import Derived.Test.YtffpkcmcoppbmaaGreatDoorKOpsF
namespace Go.KM
open Go.RowKit
section
variable {P : Program} {W : World} {ρ : Nat → Int} {ι : Inj} {h h' : AH} {w : World}

theorem mem_of_allB {l : List AV} (e : allB isCell l = true) : ∀ v ∈ l, isCell v = true := (allB_iff _ _).1 e
/-- How the model's append goes, in one word: 'n' elements, whose cells are 'news'. -/
structure Runs (P : Program) (w : World) (el s b n : Nat) (z' : Value) (news news2 : List Value) (r : Option Addr → Nat → Nat → Result Value) : Prop where
  place : ∀ base sLen sCap, sLen + n ≤ sCap → r base sLen sCap = ((match base with | some a => storeCells (a.add (sLen * s)) news | none => pure ()).run P w).andThen fun _ w' => .ok (.slice base (sLen + n) sCap) w'
  new : ∀ base sLen sCap (olds : Array Value), sCap < sLen + n → 1 ≤ b → (sLen + n) * b ≤ 140737488355328 → (Builtin.firstCells s sLen (.slice base sLen sCap)).run P w.drew = .ok olds w.drew →
    r base sLen sCap = .ok (.slice (some ⟨w.heap.size, 0, none⟩) (sLen + n) (grownCap w (sLen + n) sCap el)) (w.drew.alloc (.cells (olds ++ news2.toArray ++ Builtin.zeroCells z'.cells (grownCap w (sLen + n) sCap el - (sLen + n))) el))

theorem grown_ok {esz bytes len n : Nat} {cs : List AV} {v : AV} (e : grown esz bytes len n cs h = .ok v h') :
    (len + n) * bytes ≤ 140737488355328 ∧ 1 ≤ bytes ∧ 1 ≤ esz ∧ v = .sl h.next 0 (len + n) esz none ∧ h' = newBlk (.cells cs) h := by
  unfold grown at e
  obtain ⟨hc, e⟩ := sel_ok e
  rw [forceN_eq] at e
  injection e with e1 e2
  simp only [and_iff, ble_iff] at hc
  exact ⟨hc.1, hc.2.1, hc.2.2, e1.symm, e2.symm⟩
/-- A new row holds the elder elements, and the new ones. -/
theorem grown_sound (I : Inv W ρ ι h w) {el s b n len sCap : Nat} {z z' : Value} {cs : List AV} {olds news : List Value} {rest : Array Value} (hr : RelL W ρ ι cs (olds ++ news)) (hl : cs.length = (len + n) * s) (hz : z'.cells.size = s)
    (hb : (len + n) * b ≤ 140737488355328) (h1 : 1 ≤ b) :
    Did W ρ ι h (.ok (.slice (some ⟨w.heap.size, 0, none⟩) (len + n) (grownCap w (len + n) sCap el)) (w.drew.alloc (.cells (olds.toArray ++ news.toArray ++ Builtin.zeroCells z'.cells (grownCap w (len + n) sCap el - (len + n))) el)))
      (.sl h.next 0 (len + n) s none) (newBlk (.cells cs) h) := by
  have hsmall : len + n ≤ maxLen := by
    have := Nat.mul_le_mul_left (len + n) h1
    unfold maxLen; omega
  have hge := grownCap_ge w (len + n) sCap el
  have hle := grownCap_le_maxLen w (len + n) sCap el hsmall
  have hlen := hr.length
  have hsz : (olds.toArray ++ news.toArray ++ Builtin.zeroCells z'.cells (grownCap w (len + n) sCap el - (len + n))).size = grownCap w (len + n) sCap el * s := by
    rw [Array.size_append, Array.size_append, size_zeroCells, hz]
    simp only [List.size_toArray]
    rw [List.length_append, hl] at hlen
    rw [← hlen, ← Nat.add_mul]
    congr 1; omega
  have hcells : CellsAt W ρ ι (olds.toArray ++ news.toArray ++ Builtin.zeroCells z'.cells (grownCap w (len + n) sCap el - (len + n))) 0 cs := by
    refine ⟨by rw [hsz, hl, Nat.zero_add]; exact Nat.mul_le_mul_right _ hge, fun i v hv => ?_⟩
    obtain ⟨v', k1, k2⟩ := hr.get i v hv
    refine ⟨v', ?_, k2⟩
    have hi : i < (olds ++ news).length := (List.getElem?_eq_some_iff.1 k1).1
    rw [Nat.zero_add, Array.getElem?_append_left (by simp; rw [List.length_append] at hi; exact hi)]
    rw [← Array.getElem?_toList]; simpa using k1
  have I' := I.drew.new cs _ el (0, 0) (.inl (Nat.le_refl _)) hcells
  refine ⟨_, _, _, rfl, Ext.put _ _ rfl (I.dom_none (Nat.le_refl _)) rfl, I', ?_⟩
  have hput := Inj.put_same ι h.next (w.drew.heap.size, 0, (olds.toArray ++ news.toArray ++ Builtin.zeroCells z'.cells (grownCap w (len + n) sCap el - (len + n))).size)
  have := Rel.slu (W := W) (ρ := ρ) h.next 0 (len + n) s (grownCap w (len + n) sCap el) _ _ _ hput (by rw [hsz]; simp) hge hle
  simpa using this
theorem apnd0_sound (I : Inv W ρ ι h w) {x : AV} {x' : Value} {v : AV} {el s b n : Nat} {z' : Value} {new : List AV} {news news2 : List Value} {r : Value → Result Value}
    (hr : Runs P w el s b n z' news news2 fun base l c => r (.slice base l c)) (hz : z'.cells.size = s) (hx : Rel W ρ ι x x') (hn : RelL W ρ ι new news) (hn2 : RelL W ρ ι new news2) (hl : new.length = n * s) (hn0 : n ≠ 0) (h1 : ∀ u ∈ new, isCell u = true)
    (e : apnd0 s b n new x h = .ok v h') : Did W ρ ι h (r x') v h' := by
  unfold apnd0 at e
  split at e
  · cases hx
    obtain ⟨g1, g2, g3, rfl, rfl⟩ := grown_ok e
    have hrun := hr.new none 0 0 #[] (by omega) g2 g1 (by simp [Builtin.firstCells])
    try dsimp only at hrun
    rw [hrun]
    exact grown_sound I (z := z') (rest := #[]) (olds := []) (by simpa using hn2) (by simpa using hl) hz g1 g2
  · rename_i b0 o len ez cap
    split at e
    · cases e
    · rename_i cs hcs
      split at e
      · cases e
      · rename_i old hold
        obtain ⟨hq, e⟩ := sel_ok e
        have := beq_iff.1 hq; subst this
        have hc := cellsAt_some hcs
        have hrel : ∃ cb co sz cp, ι b0 = some (cb, co, sz) ∧ x' = .slice (some ⟨cb, co + o, none⟩) len cp ∧ (cap = none → co + o + cp * ez = sz ∧ len ≤ cp ∧ cp ≤ maxLen) ∧ (∀ c, cap = some c → cp = c) := by
          cases hx with
          | sl _ _ _ _ c cb co sz hb => exact ⟨cb, co, sz, c, hb, rfl, by simp, by simp⟩
          | slu _ _ _ _ cp cb co sz hb hcp hlc hm => exact ⟨cb, co, sz, cp, hb, rfl, fun _ => ⟨hcp, hlc, hm⟩, by simp⟩
        obtain ⟨cb, co, sz, cp, hb, rfl, hcap1, hcap2⟩ := hrel
        have hol : old.length = len * ez := (cut_some hold).2
        -- what is made anew
        have mkNew : ∀ {hh : AH} {v h'}, Inv W ρ ι hh w → hh.next = h.next → grown ez b len n (app old new) hh = .ok v h' → cp < len + n → Did W ρ ι h (r (.slice (some ⟨cb, co + o, none⟩) len cp)) v h' := fun {hh v h'} J hnx e hlt => by
          obtain ⟨g1, g2, g3, rfl, rfl⟩ := grown_ok e
          obtain ⟨vs, k1, k2, -⟩ := loadCells_sound (P := P) (w := w.drew) (g := cb) (o := co + o) old (fun i v hv => cut_cells I hb hc hold i v hv)
          have hf : (Builtin.firstCells ez len (.slice (some ⟨cb, co + o, none⟩) len cp)).run P w.drew = .ok vs.toArray w.drew := by
            show (loadCells ⟨cb, co + o, none⟩ (len * ez)).run P w.drew = _
            rw [← hol]; exact k1
          have hrun := hr.new (some ⟨cb, co + o, none⟩) len cp vs.toArray hlt g2 g1 hf
          try dsimp only at hrun
          rw [hrun, app_eq]
          exact Did.from hnx (grown_sound J (z := z') (rest := #[]) (k2.append hn2) (by rw [List.length_append, hol, hl, Nat.add_mul]) hz g1 g2)
        -- what is laid where it is
        have hfitL : ∀ m, o + (len + n) * ez ≤ m → o + len * ez + new.length ≤ m := fun m hm => by rw [hl]; rw [Nat.add_mul] at hm; omega
        have mkPlace : ∀ {v h'}, inPlace b0 o len ez n cap cs new h = .ok v h' → o + (len + n) * ez ≤ cs.length → len + n ≤ cp → Did W ρ ι h (r (.slice (some ⟨cb, co + o, none⟩) len cp)) v h' := fun {v h'} e hfit hroom => by
          unfold inPlace at e
          rw [forceN_eq] at e
          injection e with e1 e2; subst e1 e2
          obtain ⟨w', k1, k2⟩ := writeCells (P := P) I (o := o + len * ez) hb hc hn h1 (hfitL _ hfit)
          have hrun := hr.place (some ⟨cb, co + o, none⟩) len cp hroom
          try dsimp only at hrun
          rw [addr_add, Nat.add_assoc, k1] at hrun
          refine ⟨ι, w', _, hrun, (.here rfl), k2, ?_⟩
          cases cap with
          | some c => have := hcap2 c rfl; subst this; exact .sl _ _ _ _ _ _ _ _ hb
          | none =>
            obtain ⟨q1, q2, hm⟩ := hcap1 rfl
            exact .slu _ _ _ _ _ _ _ _ hb q1 hroom hm
        unfold apnd1 at e
        clear hx
        rcases cap with _ | c
        rotate_left
        · dsimp only at e
          have := hcap2 c rfl; subst this
          cases hle : Nat.ble (Nat.add len n) cp with
          | false =>
            rw [hle] at e
            have hlt : cp < len + n := by
              have : ¬ (len + n ≤ cp) := fun hh => by rw [show Nat.ble (Nat.add len n) cp = true from ble_iff.2 hh] at hle; cases hle
              omega
            exact mkNew I rfl e hlt
          | true =>
            rw [hle] at e
            obtain ⟨hq, e⟩ := sel_ok e
            rw [lenN_eq] at hq
            exact mkPlace e (ble_iff.1 hq) (ble_iff.1 hle)
        · dsimp only at e
          obtain ⟨q1, q2, hm⟩ := hcap1 rfl
          cases hle : Bool.and (Nat.ble 1 ez) (Nat.ble (Nat.add o (Nat.mul (Nat.add len n) ez)) (lenN cs)) with
          | true =>
            rw [hle] at e
            simp only [and_iff, ble_iff, lenN_eq] at hle
            obtain ⟨p1, p2⟩ := hle
            refine mkPlace e p2 ?_
            obtain ⟨c, t, fr, hw, hs, hf, hco, -⟩ := I.cells b0 cs cb co sz hb hc
            have p3 : o + (len + n) * ez ≤ cs.length := p2
            have p4 : (len + n) * ez ≤ cp * ez := by omega
            exact Nat.le_of_mul_le_mul_right p4 p1
          | false =>
            rw [hle] at e
            by_cases hroom : len + n ≤ cp
            · -- there was room behind what is known
              obtain ⟨g1, g2, g3, rfl, rfl⟩ := grown_ok e
              obtain ⟨c, t, fr, hw, hs, hf, hco, hcells⟩ := I.cells b0 cs cb co sz hb hc
              have hmul : (len + n) * ez ≤ cp * ez := Nat.mul_le_mul_right _ hroom
              have hnl := hn.length
              have hone : ∀ v ∈ news, v.oneCell' = true := by
                intro v hv'
                obtain ⟨i, hi, rfl⟩ := List.mem_iff_getElem.1 hv'
                obtain ⟨u', hu1, hu2⟩ := hn.get i new[i] (List.getElem?_eq_getElem (by omega))
                rw [List.getElem?_eq_getElem hi] at hu1
                injection hu1 with hu1; subst hu1
                exact hu2.oneCell (h1 _ (List.getElem_mem _))
              rw [Nat.add_mul] at hmul
              obtain ⟨c', k1, k2, k3⟩ := run_storeCells' (P := P) (co + o + len * ez) news 0 c w hw hone (by omega) (by rw [hs]; exact hf)
              have hrun := hr.place (some ⟨cb, co + o, none⟩) len cp hroom
              try dsimp only at hrun
              rw [addr_add, k1] at hrun
              have hlen' : (app old new).length = (len + n) * ez := by rw [app_eq, List.length_append, hol, hl, Nat.add_mul]
              refine ⟨_, _, _, hrun, Ext.put _ _ rfl (I.dom_none (Nat.le_refl _)) rfl, I.moved (o := o) hb hc (app old new) c' t fr (by rw [k2, hs]) hf ⟨by rw [hlen', k2, hs, Nat.add_mul]; omega, ?_⟩, ?_⟩
              · intro i v hi
                rw [app_eq] at hi
                rw [k3]
                by_cases hio : i < old.length
                · rw [List.getElem?_append_left hio] at hi
                  rw [cut_get hold i (by rw [hol] at hio; exact hio)] at hi
                  rw [if_neg (by rw [hol] at hio; omega), Nat.add_assoc]
                  exact hcells _ _ hi
                · rw [List.getElem?_append_right (by omega)] at hi
                  have hil := (List.getElem?_eq_some_iff.1 hi).1
                  obtain ⟨v', m1, m2⟩ := hn.get _ _ hi
                  rw [if_pos (by omega), show co + o + i - (co + o + len * ez + 0) = i - old.length from by omega]
                  exact ⟨v', m1, m2⟩
              · have hput := Inj.put_same ι h.next (cb, co + o, sz)
                have hfin := Rel.slu (W := W) (ρ := ρ) h.next 0 (len + n) ez cp _ _ _ hput (by simpa using q1) hroom hm
                rw [Nat.add_zero] at hfin
                exact hfin
            · exact mkNew (I.del b0) rfl e (by omega)
  · cases e
theorem runs_append {t u el ty s b n : Nat} {z' : Value} {news news2 : List Value} {x' : Value} (ht : P.underlying t = some (.slice el)) (hu : P.underlying u = some .string ∨ ∃ q, P.underlying u = some (.slice q)) {i : TypeInfo} (hi : P.info? el = some i) (his : i.size = s) (hib : i.bytes = b)
    (hiz : i.zero = some z') (hl : (Builtin.lenOf x').run P w = .ok n w) (hf : (Builtin.firstCells s n x').run P w = .ok news.toArray w) (hf2 : (Builtin.firstCells s n x').run P w.drew = .ok news2.toArray w.drew) :
    Runs P w el s b n z' news news2 fun base l c => (Builtin.append_ #[t, u] ty #[.slice base l c, x']).run P w where
  place := fun base sLen sCap hroom => by
    have := run_append_place (ty := ty) (base := base) ht hu (by simp [sizeC, hi, his]) hl hf hroom
    rw [this]; cases base <;> simp
  new := fun base sLen sCap olds hroom hb1 hbytes ho => run_append_new (ty := ty) ht hu hi his hib hiz hl ho hf2 hroom hb1 hbytes
theorem apnd_sound (I : Inv W ρ ι h w) {x y : AV} {x' y' : Value} {v : AV} {t u el ty s b : Nat} {z : AV} (ht : P.underlying t = some (.slice el)) (hu : P.underlying u = some .string ∨ ∃ q, P.underlying u = some (.slice q))
    (hs : sizeC P el = some s) (hb : bytesC P el = some b) (hz : zeroOf P el = some z) (hzs : z.cells.length = s) (hx : Rel W ρ ι x x') (hy : Rel W ρ ι y y') (e : xapnd s b x y h = .ok v h') :
    Did W ρ ι h ((Builtin.append_ #[t, u] ty #[x', y']).run P w) v h' := by
  obtain ⟨i, z', hi, hiz, hzc⟩ := zero_of hz
  obtain ⟨i1, hi1, his⟩ := info_of_size hs
  obtain ⟨i2, hi2, hib⟩ := info_of_bytes hb
  rw [hi] at hi1 hi2; injection hi1 with hi1; injection hi2 with hi2; subst hi1 hi2
  have hzl : z'.cells.size = s := by
    have := (ofConst_rel (W := W) (ρ := ρ) (ι := ι) hzc).cells.length
    rw [hzs] at this; simpa using this.symm
  unfold xapnd at e
  split at e
  · cases e
  · rename_i n new he
    obtain ⟨hl1, hl2, hl3⟩ := elems_sound (P := P) I hy he
    obtain ⟨-, hl2', hl3'⟩ := elems_sound (P := P) I.drew hy he
    obtain ⟨news, f1, f2⟩ := hl3 n (Nat.le_refl _)
    obtain ⟨news', f1', f2'⟩ := hl3' n (Nat.le_refl _)
    rw [List.take_of_length_le (by omega)] at f2 f2'
    cases hn0 : Nat.beq n 0 with
    | true =>
      rw [hn0] at e
      have := beq_iff.1 hn0; subst this
      have hrun : ∀ base len cp, len ≤ cp → (Builtin.append_ #[t, u] ty #[.slice base len cp, y']).run P w = .ok (.slice base len cp) w := fun base len cp hle => by
        have := run_append_place (ty := ty) (base := base) ht hu hs hl2 f1 (show len + 0 ≤ cp from hle)
        have hnn : news = [] := by
          have := f2.length
          rw [hl1, Nat.zero_mul] at this
          exact List.eq_nil_of_length_eq_zero this.symm
        subst hnn
        rw [this]; cases base <;> simp [storeCells]
      split at e
      · cases hx; injection e with e1 e2; subst e1 e2
        exact .here I (hrun none 0 0 (Nat.le_refl _)) .nils
      · obtain ⟨hq, e⟩ := sel_ok e
        injection e with e1 e2; subst e1 e2
        rw [and_iff] at hq
        obtain ⟨hq, hq2⟩ := hq
        have hq := beq_iff.1 hq; subst hq
        cases hx with
        | sl _ _ _ _ c cb co sz hb' => exact .here I (hrun _ _ _ (ble_iff.1 hq2)) (.sl _ _ _ _ _ _ _ _ hb')
        | slu _ _ _ _ cp cb co sz hb' hcp hlc hm => exact .here I (hrun _ _ _ hlc) (.slu _ _ _ _ _ _ _ _ hb' hcp hlc hm)
      · injection e with e1 e2; subst e1 e2
        cases hx with | rsl _ _ cap g o hrc hl => exact .here I (hrun _ _ _ hl) (.rsl _ _ _ _ _ hrc hl)
      · cases e
    | false =>
      rw [hn0] at e
      obtain ⟨hc, e⟩ := sel_ok e
      have hne : n ≠ 0 := fun hh => by rw [beq_iff.2 hh] at hn0; cases hn0
      exact apnd0_sound I (r := fun q => (Builtin.append_ #[t, u] ty #[q, y']).run P w) (runs_append ht hu hi his hib hiz hl2 f1 f1') hzl hx f2 f2' hl1 hne (mem_of_allB hc) e
end
end Go.KM
